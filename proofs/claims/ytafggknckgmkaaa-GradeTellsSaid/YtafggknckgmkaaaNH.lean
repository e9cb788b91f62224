/- Blocks as a list, what is told of them, and which grade a face has. -/
import Derived.Test.YtafggknckgmkaaaND

section
set_option linter.unusedVariables false
set_option linter.unusedSimpArgs false
set_option linter.unusedSectionVars false
/- Grade: blocks as a list, and what is told of them. -/
set_option linter.unusedVariables false
set_option linter.unusedSimpArgs false
set_option maxRecDepth 10000
set_option maxHeartbeats 4000000
namespace Go.X.Gr
open Go Go.Proofs Go.X

theorem foldS_append {γ α : Type} {f : γ → α → γ × Bool} : ∀ {a b : List α} {c : γ}, foldS f c (a ++ b) = if (foldS f c a).2 = true then foldS f (foldS f c a).1 b else foldS f c a
  | [], b, c => rfl
  | x :: r, b, c => by
    cases e : (f c x).2 with
    | true => rw [List.cons_append, foldS_go e, foldS_go e, foldS_append]
    | false => rw [List.cons_append, foldS_stop e, foldS_stop e]; rfl
theorem foldS_flat {γ α β : Type} {h : γ → β → γ × Bool} {m : α → List β} : ∀ {l : List α} {c : γ}, foldS (fun c x => foldS h c (m x)) c l = foldS h c (l.flatMap m)
  | [], c => rfl
  | x :: r, c => by
    rw [List.flatMap_cons, foldS_append]
    cases e : (foldS h c (m x)).2 with
    | true => rw [foldS_go (f := fun c x => foldS h c (m x)) e, if_pos rfl, foldS_flat]
    | false =>
      rw [foldS_stop (f := fun c x => foldS h c (m x)) e, if_neg (by decide)]
      rw [← e]
theorem foldS_map {γ α β : Type} {h : γ → β → γ × Bool} {m : α → β} : ∀ {l : List α} {c : γ}, foldS (fun c x => h c (m x)) c l = foldS h c (l.map m)
  | [], c => rfl
  | x :: r, c => by
    rw [List.map_cons]
    cases e : (h c (m x)).2 with
    | true => rw [foldS_go (f := fun c x => h c (m x)) e, foldS_go e, foldS_map]
    | false => rw [foldS_stop (f := fun c x => h c (m x)) e, foldS_stop e]
theorem foldS_true {γ α : Type} {f : γ → α → γ × Bool} (h : ∀ c x, (f c x).2 = true) : ∀ {l : List α} {c : γ}, foldS f c l = (l.foldl (fun c x => (f c x).1) c, true)
  | [], c => rfl
  | x :: r, c => by rw [foldS_go (h c x), foldS_true h]; rfl
section
variable (g : Pts)
def blk4 (a0 a1 a2 a3 : Int) : List B5 := ((rangeI g.l4 g.h4).filter fun k => fu4 g.st a0 a1 a2 a3 k 4).map fun k => (a0, a1, a2, a3, k)
def blk3 (a0 a1 a2 : Int) : List B5 := ((rangeI g.l3 g.h3).filter fun k => fu3 g.st a0 a1 a2 k 3).flatMap fun k => blk4 g a0 a1 a2 k
def blk2 (a0 a1 : Int) : List B5 := ((rangeI g.l2 g.h2).filter fun k => fu2 g.st a0 a1 k 2).flatMap fun k => blk3 g a0 a1 k
def blk1 (a0 : Int) : List B5 := ((rangeI g.l1 g.h1).filter fun k => fu1 g.st a0 k 1).flatMap fun k => blk2 g a0 k
/-- All blocks that there can be. -/
def blk : List B5 := ((rangeI g.l0 g.h0).filter fun k => fu0 g.st k 0).flatMap fun k => blk1 g k
end
def f5 {γ : Type} (f : γ → Int → Int → Int → Int → Int → γ × Bool) (c : γ) (b : B5) : γ × Bool := f c b.1 b.2.1 b.2.2.1 b.2.2.2.1 b.2.2.2.2
theorem on0_blk {γ : Type} {f : γ → Int → Int → Int → Int → Int → γ × Bool} {g : Pts} {c : γ} : on0 f g c = foldS (f5 f) c (blk g) := by
  unfold on0 blk
  rw [← foldS_flat]
  congr 1
  funext c a0
  unfold on1 blk1
  rw [← foldS_flat]
  congr 1
  funext c a1
  unfold on2 blk2
  rw [← foldS_flat]
  congr 1
  funext c a2
  unfold on3 blk3
  rw [← foldS_flat]
  congr 1
  funext c a3
  unfold on4 blk4
  rw [← foldS_map]
  rfl
/-- A block is one that there can be. -/
structure OkB (g : Pts) (b : B5) : Prop where
  r0 : g.l0 ≤ b.1 ∧ b.1 ≤ g.h0
  r1 : g.l1 ≤ b.2.1 ∧ b.2.1 ≤ g.h1
  r2 : g.l2 ≤ b.2.2.1 ∧ b.2.2.1 ≤ g.h2
  r3 : g.l3 ≤ b.2.2.2.1 ∧ b.2.2.2.1 ≤ g.h3
  r4 : g.l4 ≤ b.2.2.2.2 ∧ b.2.2.2.2 ≤ g.h4
  s01 : b.1 - b.2.1 ≤ g.st ∧ b.2.1 - b.1 ≤ g.st
  s02 : b.1 - b.2.2.1 ≤ g.st ∧ b.2.2.1 - b.1 ≤ g.st
  s03 : b.1 - b.2.2.2.1 ≤ g.st ∧ b.2.2.2.1 - b.1 ≤ g.st
  s04 : b.1 - b.2.2.2.2 ≤ g.st ∧ b.2.2.2.2 - b.1 ≤ g.st
  s12 : b.2.1 - b.2.2.1 ≤ g.st ∧ b.2.2.1 - b.2.1 ≤ g.st
  s23 : b.2.2.1 - b.2.2.2.1 ≤ g.st ∧ b.2.2.2.1 - b.2.2.1 ≤ g.st
  s34 : b.2.2.2.1 - b.2.2.2.2 ≤ g.st ∧ b.2.2.2.2 - b.2.2.2.1 ≤ g.st
  s14 : b.2.1 - b.2.2.2.2 ≤ g.st ∧ b.2.2.2.2 - b.2.1 ≤ g.st
theorem near_iff {st a k : Int} : near st a k = true ↔ a - k ≤ st ∧ k - a ≤ st := by
  unfold near
  rw [Bool.not_eq_true', decide_eq_false_iff_not]
  omega
theorem mem_blk {g : Pts} {b : B5} : b ∈ blk g ↔ OkB g b := by
  obtain ⟨a0, a1, a2, a3, a4⟩ := b
  constructor
  · intro h
    obtain ⟨b0, h0, h⟩ := List.mem_flatMap.1 h
    obtain ⟨b1, h1, h⟩ := List.mem_flatMap.1 h
    obtain ⟨b2, h2, h⟩ := List.mem_flatMap.1 h
    obtain ⟨b3, h3, h⟩ := List.mem_flatMap.1 h
    obtain ⟨b4, h4, h⟩ := List.mem_map.1 h
    cases h
    obtain ⟨m0, _⟩ := List.mem_filter.1 h0
    obtain ⟨m1, f1⟩ := List.mem_filter.1 h1
    obtain ⟨m2, f2⟩ := List.mem_filter.1 h2
    obtain ⟨m3, f3⟩ := List.mem_filter.1 h3
    obtain ⟨m4, f4⟩ := List.mem_filter.1 h4
    simp only [fu1, fu2, fu3, fu4, Bool.and_eq_true, near_iff] at f1 f2 f3 f4
    exact ⟨rangeI_mem.1 m0, rangeI_mem.1 m1, rangeI_mem.1 m2, rangeI_mem.1 m3, rangeI_mem.1 m4, f1, f2.1, f3.1, f4.1.1, f2.2, f3.2, f4.2, f4.1.2⟩
  · intro h
    refine List.mem_flatMap.2 ⟨a0, List.mem_filter.2 ⟨rangeI_mem.2 h.r0, rfl⟩, ?_⟩
    refine List.mem_flatMap.2 ⟨a1, List.mem_filter.2 ⟨rangeI_mem.2 h.r1, ?_⟩, ?_⟩
    · exact near_iff.2 h.s01
    refine List.mem_flatMap.2 ⟨a2, List.mem_filter.2 ⟨rangeI_mem.2 h.r2, ?_⟩, ?_⟩
    · simp only [fu2, Bool.and_eq_true, near_iff]
      exact ⟨h.s02, h.s12⟩
    refine List.mem_flatMap.2 ⟨a3, List.mem_filter.2 ⟨rangeI_mem.2 h.r3, ?_⟩, ?_⟩
    · simp only [fu3, Bool.and_eq_true, near_iff]
      exact ⟨h.s03, h.s23⟩
    refine List.mem_map.2 ⟨a4, List.mem_filter.2 ⟨rangeI_mem.2 h.r4, ?_⟩, rfl⟩
    simp only [fu4, Bool.and_eq_true, near_iff]
    exact ⟨⟨h.s04, h.s14⟩, h.s34⟩
theorem OkB.ok {g : Pts} {b : B5} (hg : ptsB g) (h : OkB g b) : okI b.1 ∧ okI b.2.1 ∧ okI b.2.2.1 ∧ okI b.2.2.2.1 ∧ okI b.2.2.2.2 := by
  unfold ptsB at hg
  have := h.r0; have := h.r1; have := h.r2; have := h.r3; have := h.r4
  unfold okI
  omega
theorem hasB_iff {g : Pts} : hasB g = true ↔ ∃ b, OkB g b := by
  unfold hasB
  rw [on0_blk]
  cases h : blk g with
  | nil =>
    constructor
    · intro h1; cases h1
    · rintro ⟨b, hb⟩
      have := mem_blk.2 hb
      rw [h] at this
      cases this
  | cons b r =>
    constructor
    · intro _; exact ⟨b, mem_blk.1 (h ▸ List.mem_cons_self)⟩
    · intro _
      rw [foldS_stop (f := f5 fTold) rfl]
      rfl
def fun5 (F : Int → Int → Int → Int → Int → Int) (b : B5) : Int := F b.1 b.2.1 b.2.2.1 b.2.2.2.1 b.2.2.2.2
def lk5 (L : Int → Int → Int → Int → Int → Fc) (b : B5) : Fc := L b.1 b.2.1 b.2.2.1 b.2.2.2.1 b.2.2.2.2
/-- A span is just that of some blocks. -/
structure SpanOf (F : B5 → Int) (B : B5 → Prop) (s : Int × Int) : Prop where
  all : ∀ b, B b → s.1 ≤ F b ∧ F b ≤ s.2
  lo : ∃ b, B b ∧ F b = s.1
  hi : ∃ b, B b ∧ F b = s.2
theorem span_list (F : Int → Int → Int → Int → Int → Int) : ∀ (l : List B5) (c : SpC) (B : B5 → Prop), (match c with
    | none => ∀ b, ¬ B b
    | some s => SpanOf (fun5 F) B s) → (match l.foldl (fun c b => (f5 (fSpan F) c b).1) c with
    | none => (∀ b, ¬ B b) ∧ l = []
    | some s => SpanOf (fun5 F) (fun b => B b ∨ b ∈ l) s)
  | [], none, B, h => ⟨h, rfl⟩
  | [], some s, B, h => ⟨fun b hb => h.all b (hb.resolve_right (by simp)), h.lo.imp fun b hb => ⟨.inl hb.1, hb.2⟩, h.hi.imp fun b hb => ⟨.inl hb.1, hb.2⟩⟩
  | x :: r, c, B, h => by
    have ih := span_list F r (f5 (fSpan F) c x).1 (fun b => B b ∨ b = x) (by
      cases c with
      | none =>
        show SpanOf (fun5 F) _ (min (fun5 F x) (fun5 F x), max (fun5 F x) (fun5 F x))
        refine ⟨fun b hb => ?_, ⟨x, .inr rfl, ?_⟩, ⟨x, .inr rfl, ?_⟩⟩
        · obtain rfl := hb.resolve_left (h b)
          exact ⟨by show min _ _ ≤ _; omega, by show _ ≤ max _ _; omega⟩
        · show _ = min _ _; omega
        · show _ = max _ _; omega
      | some s =>
        obtain ⟨lo, hi⟩ := s
        obtain ⟨h1, ⟨b1, hb1, e1⟩, b2, hb2, e2⟩ := h
        have e1 : fun5 F b1 = lo := e1
        have e2 : fun5 F b2 = hi := e2
        show SpanOf (fun5 F) _ (min lo (fun5 F x), max hi (fun5 F x))
        refine ⟨fun b hb => ?_, ?_, ?_⟩
        · show min lo (fun5 F x) ≤ _ ∧ _ ≤ max hi (fun5 F x)
          rcases hb with hb | rfl
          · have : lo ≤ fun5 F b ∧ fun5 F b ≤ hi := h1 b hb
            omega
          · omega
        · rcases Int.le_total lo (fun5 F x) with hle | hle
          · exact ⟨b1, .inl hb1, by show _ = min lo (fun5 F x); omega⟩
          · exact ⟨x, .inr rfl, by show _ = min lo (fun5 F x); omega⟩
        · rcases Int.le_total hi (fun5 F x) with hle | hle
          · exact ⟨x, .inr rfl, by show _ = max hi (fun5 F x); omega⟩
          · exact ⟨b2, .inl hb2, by show _ = max hi (fun5 F x); omega⟩)
    rw [List.foldl_cons]
    cases e : r.foldl (fun c b => (f5 (fSpan F) c b).1) (f5 (fSpan F) c x).1 with
    | none =>
      rw [e] at ih
      exact absurd rfl fun (e2 : x = x) => ih.1 x (.inr rfl)
    | some s =>
      rw [e] at ih
      have conv : ∀ b, ((B b ∨ b = x) ∨ b ∈ r) ↔ (B b ∨ b ∈ x :: r) := fun b => by rw [List.mem_cons, or_assoc]
      exact ⟨fun b hb => ih.all b ((conv b).2 hb), ih.lo.imp fun b hb => ⟨(conv b).1 hb.1, hb.2⟩, ih.hi.imp fun b hb => ⟨(conv b).1 hb.1, hb.2⟩⟩
theorem spanG_none {F : Int → Int → Int → Int → Int → Int} {g : Pts} (h : spanG F g = none) : ∀ b, ¬ OkB g b := by
  unfold spanG at h
  rw [on0_blk, foldS_true (fun _ _ => rfl)] at h
  have := span_list F (blk g) none (fun _ => False) (fun _ h => h)
  have h : (blk g).foldl (fun c b => (f5 (fSpan F) c b).1) none = none := h
  rw [h] at this
  intro b hb
  have hm := mem_blk.2 hb
  rw [this.2] at hm
  cases hm
theorem spanG_some {F : Int → Int → Int → Int → Int → Int} {g : Pts} {s : Int × Int} (h : spanG F g = some s) : SpanOf (fun5 F) (OkB g) s := by
  unfold spanG at h
  rw [on0_blk, foldS_true (fun _ _ => rfl)] at h
  have := span_list F (blk g) none (fun _ => False) (fun _ h => h)
  have h : (blk g).foldl (fun c b => (f5 (fSpan F) c b).1) none = some s := h
  rw [h] at this
  have conv : ∀ b, (False ∨ b ∈ blk g) ↔ OkB g b := fun b => by rw [false_or, mem_blk]
  exact ⟨fun b hb => this.all b ((conv b).2 hb), this.lo.imp fun b hb => ⟨(conv b).1 hb.1, hb.2⟩, this.hi.imp fun b hb => ⟨(conv b).1 hb.1, hb.2⟩⟩
theorem bSpan_iff {F : Int → Int → Int → Int → Int → Int} {g : Pts} : bSpan (spanG F g) = hasB g := by
  cases h : spanG F g with
  | none =>
    show false = _
    cases hh : hasB g with
    | false => rfl
    | true => obtain ⟨b, hb⟩ := hasB_iff.1 hh; exact absurd hb (spanG_none h b)
  | some s =>
    obtain ⟨b, hb, _⟩ := (spanG_some h).lo
    exact (hasB_iff.2 ⟨b, hb⟩).symm
theorem updA_keys {κ ν : Type} [DecidableEq κ] {m : List (κ × ν)} {k : κ} {v : ν} {x : κ} : x ∈ (updA m k v).map (·.1) ↔ x ∈ m.map (·.1) ∨ x = k := by
  induction m with
  | nil => simp [updA]
  | cons q r ih =>
    unfold updA
    split
    · rename_i e
      simp only [List.map_cons, List.mem_cons]
      constructor
      · rintro (h | h)
        · exact .inr h
        · exact .inl (.inr h)
      · rintro ((h | h) | h)
        · left; first | exact h.trans e | exact h.trans e.symm | (rw [h]; exact e) | (rw [h]; exact e.symm)
        · exact .inr h
        · exact .inl h
    · simp only [List.map_cons, List.mem_cons, ih, or_assoc]
theorem faces_mem {L : Int → Int → Int → Int → Int → Fc} {g : Pts} {f : Fc} : f ∈ (facesV L g).map (·.1) ↔ ∃ b, OkB g b ∧ lk5 L b = f := by
  have key : ∀ (l : List B5) (c : List (Fc × Bool)), f ∈ (l.foldl (fun c b => (f5 (fFaces L) c b).1) c).map (·.1) ↔ f ∈ c.map (·.1) ∨ ∃ b ∈ l, lk5 L b = f := by
    intro l
    induction l with
    | nil => intro c; simp
    | cons x r ih =>
      intro c
      rw [List.foldl_cons, ih]
      have : f ∈ ((f5 (fFaces L) c x).1).map (·.1) ↔ f ∈ c.map (·.1) ∨ f = lk5 L x := updA_keys
      rw [this]
      constructor
      · rintro ((h | h) | ⟨b, hb, e⟩)
        · exact .inl h
        · exact .inr ⟨x, List.mem_cons_self, h.symm⟩
        · exact .inr ⟨b, List.mem_cons_of_mem _ hb, e⟩
      · rintro (h | ⟨b, hb, e⟩)
        · exact .inl (.inl h)
        · rcases List.mem_cons.1 hb with rfl | hb
          · exact .inl (.inr e.symm)
          · exact .inr ⟨b, hb, e⟩
  unfold facesV
  rw [on0_blk, foldS_true (fun _ _ => rfl)]
  show f ∈ ((blk g).foldl (fun c b => (f5 (fFaces L) c b).1) []).map (·.1) ↔ _
  rw [key]
  simp only [List.map_nil, List.not_mem_nil, false_or, mem_blk]
/-- The grades that there are. -/
theorem setV_bit {L : List (Int × Int)} {g : Pts} {k : Nat} : (setV L g).testBit k = true ↔ ∃ b, OkB g b ∧ ofL L (lk5 lkP b) = k := by
  unfold setV
  rw [gradesN_bit, List.any_eq_true]
  constructor
  · rintro ⟨f, hf, e⟩
    obtain ⟨b, hb, rfl⟩ := faces_mem.1 hf
    exact ⟨b, hb, of_decide_eq_true e⟩
  · rintro ⟨b, hb, e⟩
    exact ⟨_, faces_mem.2 ⟨b, hb, rfl⟩, decide_eq_true e⟩
end Go.X.Gr
end

section
set_option linter.unusedVariables false
set_option linter.unusedSimpArgs false
set_option linter.unusedSectionVars false
/- Grade: limits, and which grade a face has. -/
set_option linter.unusedVariables false
set_option linter.unusedSimpArgs false
set_option maxRecDepth 10000
set_option maxHeartbeats 4000000
namespace Go.X.Gr
open Go Go.Proofs Go.X

/-! ### which grades there are, and a set of the first ones -/
theorem upTo_eq (q : Nat) : upTo (q : Int) = 2 ^ (q + 1) - 1 := by
  unfold upTo
  rw [Int.toNat_natCast, Nat.pow_succ]
  omega
/-- None of the first grades. -/
theorem set_none {L : List (Int × Int)} {g : Pts} {q : Nat} : setV L g &&& upTo (q : Int) = 0 ↔ ∀ b, OkB g b → q < ofL L (lk5 lkP b) := by
  rw [upTo_eq]
  constructor
  · intro h b hb
    refine Nat.lt_of_not_le fun hle => ?_
    have h1 : (setV L g).testBit (ofL L (lk5 lkP b)) = true := setV_bit.2 ⟨b, hb, rfl⟩
    have h2 : (setV L g &&& (2 ^ (q + 1) - 1)).testBit (ofL L (lk5 lkP b)) = true := by
      rw [Nat.testBit_and, h1, Nat.testBit_two_pow_sub_one]
      simp
      omega
    rw [h] at h2
    simp at h2
  · intro h
    refine Nat.eq_of_testBit_eq fun k => ?_
    rw [Nat.testBit_and, Nat.testBit_two_pow_sub_one, Nat.zero_testBit]
    cases h1 : (setV L g).testBit k with
    | false => rfl
    | true =>
      obtain ⟨b, hb, e⟩ := setV_bit.1 h1
      have := h b hb
      simp
      omega
/-- Only the first grades. -/
theorem set_all {L : List (Int × Int)} {g : Pts} {q : Nat} : setV L g - (setV L g &&& upTo (q : Int)) = 0 ↔ ∀ b, OkB g b → ofL L (lk5 lkP b) ≤ q := by
  have hle : setV L g &&& upTo (q : Int) ≤ setV L g := Nat.and_le_left
  have hsub : setV L g - (setV L g &&& upTo (q : Int)) = 0 ↔ setV L g &&& upTo (q : Int) = setV L g := by omega
  rw [hsub, upTo_eq]
  constructor
  · intro h b hb
    have h1 : (setV L g).testBit (ofL L (lk5 lkP b)) = true := setV_bit.2 ⟨b, hb, rfl⟩
    rw [← h, Nat.testBit_and, Nat.testBit_two_pow_sub_one] at h1
    simp at h1
    omega
  · intro h
    refine Nat.eq_of_testBit_eq fun k => ?_
    rw [Nat.testBit_and, Nat.testBit_two_pow_sub_one]
    cases h1 : (setV L g).testBit k with
    | false => rfl
    | true =>
      obtain ⟨b, hb, e⟩ := setV_bit.1 h1
      have := h b hb
      simp
      omega
/-- A grade is sure, or never had. -/
theorem sureV_cases {L : List (Int × Int)} {g : Pts} (hh : hasB g = true) (q : Nat) :
    (sureV (setV L g) (upTo (q : Int)) = 2 ↔ ∀ b, OkB g b → ofL L (lk5 lkP b) ≤ q) ∧ (sureV (setV L g) (upTo (q : Int)) = 0 ↔ ∀ b, OkB g b → q < ofL L (lk5 lkP b)) ∧ 0 ≤ sureV (setV L g) (upTo (q : Int)) ∧ sureV (setV L g) (upTo (q : Int)) ≤ 2 := by
  obtain ⟨b, hb⟩ := hasB_iff.1 hh
  unfold sureV
  rw [← set_all, ← set_none]
  have hne : ¬ (setV L g - (setV L g &&& upTo (q : Int)) = 0 ∧ setV L g &&& upTo (q : Int) = 0) := by
    rintro ⟨h1, h2⟩
    have := set_all.1 h1 b hb
    have := set_none.1 h2 b hb
    omega
  by_cases h1 : setV L g - (setV L g &&& upTo (q : Int)) = 0
  · rw [if_pos h1]
    exact ⟨⟨fun _ => h1, fun _ => rfl⟩, ⟨fun h => (by cases h), fun h => absurd ⟨h1, h⟩ hne⟩, by decide, by decide⟩
  · rw [if_neg h1]
    by_cases h2 : setV L g &&& upTo (q : Int) = 0
    · rw [if_pos h2]
      exact ⟨⟨fun h => (by cases h), fun h => absurd h h1⟩, ⟨fun _ => h2, fun _ => rfl⟩, by decide, by decide⟩
    · rw [if_neg h2]
      exact ⟨⟨fun h => (by cases h), fun h => absurd h h1⟩, ⟨fun h => (by cases h), fun h => absurd h h2⟩, by decide, by decide⟩
end Go.X.Gr
end
