/- Blocks as a list, what is told of them, and which grade a face has. -/
import Derived.Test.YtafggknckgmkaaaND

section
set_option linter.unusedVariables false
set_option linter.unusedSimpArgs false
set_option linter.unusedSectionVars false
/- Grade: blocks as a list, and what is told of them. -/
set_option linter.unusedVariables false
set_option linter.unusedSimpArgs false
set_option maxRecDepth 10000
set_option maxHeartbeats 4000000
namespace Go.X.Gr
open Go Go.Proofs Go.X

theorem foldS_append {γ α : Type} {f : γ → α → γ × Bool} : ∀ {a b : List α} {c : γ}, foldS f c (a ++ b) = if (foldS f c a).2 = true then foldS f (foldS f c a).1 b else foldS f c a
  | [], b, c => rfl
  | x :: r, b, c => by
    cases e : (f c x).2 with
    | true => rw [List.cons_append, foldS_go e, foldS_go e, foldS_append]
    | false => rw [List.cons_append, foldS_stop e, foldS_stop e]; rfl
theorem foldS_flat {γ α β : Type} {h : γ → β → γ × Bool} {m : α → List β} : ∀ {l : List α} {c : γ}, foldS (fun c x => foldS h c (m x)) c l = foldS h c (l.flatMap m)
  | [], c => rfl
  | x :: r, c => by
    rw [List.flatMap_cons, foldS_append]
    cases e : (foldS h c (m x)).2 with
    | true => rw [foldS_go (f := fun c x => foldS h c (m x)) e, if_pos rfl, foldS_flat]
    | false =>
      rw [foldS_stop (f := fun c x => foldS h c (m x)) e, if_neg (by decide)]
      rw [← e]
theorem foldS_map {γ α β : Type} {h : γ → β → γ × Bool} {m : α → β} : ∀ {l : List α} {c : γ}, foldS (fun c x => h c (m x)) c l = foldS h c (l.map m)
  | [], c => rfl
  | x :: r, c => by
    rw [List.map_cons]
    cases e : (h c (m x)).2 with
    | true => rw [foldS_go (f := fun c x => h c (m x)) e, foldS_go e, foldS_map]
    | false => rw [foldS_stop (f := fun c x => h c (m x)) e, foldS_stop e]
theorem foldS_true {γ α : Type} {f : γ → α → γ × Bool} (h : ∀ c x, (f c x).2 = true) : ∀ {l : List α} {c : γ}, foldS f c l = (l.foldl (fun c x => (f c x).1) c, true)
  | [], c => rfl
  | x :: r, c => by rw [foldS_go (h c x), foldS_true h]; rfl
section
variable (g : Pts)
def blk4 (a0 a1 a2 a3 : Int) : List B5 := ((rangeI g.l4 g.h4).filter fun k => fu4 g.st a0 a1 a2 a3 k 4).map fun k => (a0, a1, a2, a3, k)
def blk3 (a0 a1 a2 : Int) : List B5 := ((rangeI g.l3 g.h3).filter fun k => fu3 g.st a0 a1 a2 k 3).flatMap fun k => blk4 g a0 a1 a2 k
def blk2 (a0 a1 : Int) : List B5 := ((rangeI g.l2 g.h2).filter fun k => fu2 g.st a0 a1 k 2).flatMap fun k => blk3 g a0 a1 k
def blk1 (a0 : Int) : List B5 := ((rangeI g.l1 g.h1).filter fun k => fu1 g.st a0 k 1).flatMap fun k => blk2 g a0 k
/-- All blocks that there can be. -/
def blk : List B5 := ((rangeI g.l0 g.h0).filter fun k => fu0 g.st k 0).flatMap fun k => blk1 g k
end
def f5 {γ : Type} (f : γ → Int → Int → Int → Int → Int → γ × Bool) (c : γ) (b : B5) : γ × Bool := f c b.1 b.2.1 b.2.2.1 b.2.2.2.1 b.2.2.2.2
theorem on0_blk {γ : Type} {f : γ → Int → Int → Int → Int → Int → γ × Bool} {g : Pts} {c : γ} : on0 f g c = foldS (f5 f) c (blk g) := by
  unfold on0 blk
  rw [← foldS_flat]
  congr 1
  funext c a0
  unfold on1 blk1
  rw [← foldS_flat]
  congr 1
  funext c a1
  unfold on2 blk2
  rw [← foldS_flat]
  congr 1
  funext c a2
  unfold on3 blk3
  rw [← foldS_flat]
  congr 1
  funext c a3
  unfold on4 blk4
  rw [← foldS_map]
  rfl
/-- A block is one that there can be. -/
structure OkB (g : Pts) (b : B5) : Prop where
  r0 : g.l0 ≤ b.1 ∧ b.1 ≤ g.h0
  r1 : g.l1 ≤ b.2.1 ∧ b.2.1 ≤ g.h1
  r2 : g.l2 ≤ b.2.2.1 ∧ b.2.2.1 ≤ g.h2
  r3 : g.l3 ≤ b.2.2.2.1 ∧ b.2.2.2.1 ≤ g.h3
  r4 : g.l4 ≤ b.2.2.2.2 ∧ b.2.2.2.2 ≤ g.h4
  s01 : b.1 - b.2.1 ≤ g.st ∧ b.2.1 - b.1 ≤ g.st
  s02 : b.1 - b.2.2.1 ≤ g.st ∧ b.2.2.1 - b.1 ≤ g.st
  s03 : b.1 - b.2.2.2.1 ≤ g.st ∧ b.2.2.2.1 - b.1 ≤ g.st
  s04 : b.1 - b.2.2.2.2 ≤ g.st ∧ b.2.2.2.2 - b.1 ≤ g.st
  s12 : b.2.1 - b.2.2.1 ≤ g.st ∧ b.2.2.1 - b.2.1 ≤ g.st
  s23 : b.2.2.1 - b.2.2.2.1 ≤ g.st ∧ b.2.2.2.1 - b.2.2.1 ≤ g.st
  s34 : b.2.2.2.1 - b.2.2.2.2 ≤ g.st ∧ b.2.2.2.2 - b.2.2.2.1 ≤ g.st
  s14 : b.2.1 - b.2.2.2.2 ≤ g.st ∧ b.2.2.2.2 - b.2.1 ≤ g.st
theorem near_iff {st a k : Int} : near st a k = true ↔ a - k ≤ st ∧ k - a ≤ st := by
  unfold near
  rw [Bool.not_eq_true', decide_eq_false_iff_not]
  omega
theorem mem_blk {g : Pts} {b : B5} : b ∈ blk g ↔ OkB g b := by
  obtain ⟨a0, a1, a2, a3, a4⟩ := b
  constructor
  · intro h
    obtain ⟨b0, h0, h⟩ := List.mem_flatMap.1 h
    obtain ⟨b1, h1, h⟩ := List.mem_flatMap.1 h
    obtain ⟨b2, h2, h⟩ := List.mem_flatMap.1 h
    obtain ⟨b3, h3, h⟩ := List.mem_flatMap.1 h
    obtain ⟨b4, h4, h⟩ := List.mem_map.1 h
    cases h
    obtain ⟨m0, _⟩ := List.mem_filter.1 h0
    obtain ⟨m1, f1⟩ := List.mem_filter.1 h1
    obtain ⟨m2, f2⟩ := List.mem_filter.1 h2
    obtain ⟨m3, f3⟩ := List.mem_filter.1 h3
    obtain ⟨m4, f4⟩ := List.mem_filter.1 h4
    simp only [fu1, fu2, fu3, fu4, Bool.and_eq_true, near_iff] at f1 f2 f3 f4
    exact ⟨rangeI_mem.1 m0, rangeI_mem.1 m1, rangeI_mem.1 m2, rangeI_mem.1 m3, rangeI_mem.1 m4, f1, f2.1, f3.1, f4.1.1, f2.2, f3.2, f4.2, f4.1.2⟩
  · intro h
    refine List.mem_flatMap.2 ⟨a0, List.mem_filter.2 ⟨rangeI_mem.2 h.r0, rfl⟩, ?_⟩
    refine List.mem_flatMap.2 ⟨a1, List.mem_filter.2 ⟨rangeI_mem.2 h.r1, ?_⟩, ?_⟩
    · exact near_iff.2 h.s01
    refine List.mem_flatMap.2 ⟨a2, List.mem_filter.2 ⟨rangeI_mem.2 h.r2, ?_⟩, ?_⟩
    · simp only [fu2, Bool.and_eq_true, near_iff]
      exact ⟨h.s02, h.s12⟩
    refine List.mem_flatMap.2 ⟨a3, List.mem_filter.2 ⟨rangeI_mem.2 h.r3, ?_⟩, ?_⟩
    · simp only [fu3, Bool.and_eq_true, near_iff]
      exact ⟨h.s03, h.s23⟩
    refine List.mem_map.2 ⟨a4, List.mem_filter.2 ⟨rangeI_mem.2 h.r4, ?_⟩, rfl⟩
    simp only [fu4, Bool.and_eq_true, near_iff]
    exact ⟨⟨h.s04, h.s14⟩, h.s34⟩
theorem OkB.ok {g : Pts} {b : B5} (hg : ptsB g) (h : OkB g b) : okI b.1 ∧ okI b.2.1 ∧ okI b.2.2.1 ∧ okI b.2.2.2.1 ∧ okI b.2.2.2.2 := by
  unfold ptsB at hg
  have := h.r0; have := h.r1; have := h.r2; have := h.r3; have := h.r4
  unfold okI
  omega
theorem hasB_iff {g : Pts} : hasB g = true ↔ ∃ b, OkB g b := by
  unfold hasB
  rw [on0_blk]
  cases h : blk g with
  | nil =>
    constructor
    · intro h1; cases h1
    · rintro ⟨b, hb⟩
      have := mem_blk.2 hb
      rw [h] at this
      cases this
  | cons b r =>
    constructor
    · intro _; exact ⟨b, mem_blk.1 (h ▸ List.mem_cons_self)⟩
    · intro _
      rw [foldS_stop (f := f5 fTold) rfl]
      rfl
def fun5 (F : Int → Int → Int → Int → Int → Int) (b : B5) : Int := F b.1 b.2.1 b.2.2.1 b.2.2.2.1 b.2.2.2.2
def lk5 (L : Int → Int → Int → Int → Int → Fc) (b : B5) : Fc := L b.1 b.2.1 b.2.2.1 b.2.2.2.1 b.2.2.2.2
/-- A span is just that of some blocks. -/
structure SpanOf (F : B5 → Int) (B : B5 → Prop) (s : Int × Int) : Prop where
  all : ∀ b, B b → s.1 ≤ F b ∧ F b ≤ s.2
  lo : ∃ b, B b ∧ F b = s.1
  hi : ∃ b, B b ∧ F b = s.2
theorem updA_keys {κ ν : Type} [DecidableEq κ] {m : List (κ × ν)} {k : κ} {v : ν} {x : κ} : x ∈ (updA m k v).map (·.1) ↔ x ∈ m.map (·.1) ∨ x = k := by
  induction m with
  | nil => simp [updA]
  | cons q r ih =>
    unfold updA
    split
    · rename_i e
      simp only [List.map_cons, List.mem_cons]
      constructor
      · rintro (h | h)
        · exact .inr h
        · exact .inl (.inr h)
      · rintro ((h | h) | h)
        · left; first | exact h.trans e | exact h.trans e.symm | (rw [h]; exact e) | (rw [h]; exact e.symm)
        · exact .inr h
        · exact .inl h
    · simp only [List.map_cons, List.mem_cons, ih, or_assoc]
theorem faces_mem {L : Int → Int → Int → Int → Int → Fc} {g : Pts} {f : Fc} : f ∈ (facesV L g).map (·.1) ↔ ∃ b, OkB g b ∧ lk5 L b = f := by
  have key : ∀ (l : List B5) (c : List (Fc × Bool)), f ∈ (l.foldl (fun c b => (f5 (fFaces L) c b).1) c).map (·.1) ↔ f ∈ c.map (·.1) ∨ ∃ b ∈ l, lk5 L b = f := by
    intro l
    induction l with
    | nil => intro c; simp
    | cons x r ih =>
      intro c
      rw [List.foldl_cons, ih]
      have : f ∈ ((f5 (fFaces L) c x).1).map (·.1) ↔ f ∈ c.map (·.1) ∨ f = lk5 L x := updA_keys
      rw [this]
      constructor
      · rintro ((h | h) | ⟨b, hb, e⟩)
        · exact .inl h
        · exact .inr ⟨x, List.mem_cons_self, h.symm⟩
        · exact .inr ⟨b, List.mem_cons_of_mem _ hb, e⟩
      · rintro (h | ⟨b, hb, e⟩)
        · exact .inl (.inl h)
        · rcases List.mem_cons.1 hb with rfl | hb
          · exact .inl (.inr e.symm)
          · exact .inr ⟨b, hb, e⟩
  unfold facesV
  rw [on0_blk, foldS_true (fun _ _ => rfl)]
  show f ∈ ((blk g).foldl (fun c b => (f5 (fFaces L) c b).1) []).map (·.1) ↔ _
  rw [key]
  simp only [List.map_nil, List.not_mem_nil, false_or, mem_blk]
/-- The grades that there are. -/
theorem setV_bit {L : List (Int × Int)} {g : Pts} {k : Nat} : (setV L g).testBit k = true ↔ ∃ b, OkB g b ∧ ofL L (lk5 lkP b) = k := by
  unfold setV
  rw [gradesN_bit, List.any_eq_true]
  constructor
  · rintro ⟨f, hf, e⟩
    obtain ⟨b, hb, rfl⟩ := faces_mem.1 hf
    exact ⟨b, hb, of_decide_eq_true e⟩
  · rintro ⟨b, hb, e⟩
    exact ⟨_, faces_mem.2 ⟨b, hb, rfl⟩, decide_eq_true e⟩
end Go.X.Gr
end

section
set_option linter.unusedVariables false
set_option linter.unusedSimpArgs false
set_option linter.unusedSectionVars false
/- Grade: limits, and which grade a face has. -/
set_option linter.unusedVariables false
set_option linter.unusedSimpArgs false
set_option maxRecDepth 10000
set_option maxHeartbeats 4000000
namespace Go.X.Gr
open Go Go.Proofs Go.X

/-! ### which grades there are, and a set of the first ones -/
theorem errG_ok {g : Pts} {L : List (Int × Int)} (h : gradeOk g L = true) : errG g L true = 0 := by unfold errG; rw [if_pos h]; rfl
theorem errT_ok {g : Pts} {L : List (Int × Int)} (h : gradeOk g L = true) : errT g L true = if hasB g = true then 0 else 10 := by unfold errT; rw [if_pos (errG_ok h)]
theorem resG_ok {g : Pts} {L : List (Int × Int)} (h : gradeOk g L = true) (hh : hasB g = true) : resG g L true = setV (lims3 L) g := by unfold resG; rw [errT_ok h, if_pos hh]; rfl
end Go.X.Gr
end
