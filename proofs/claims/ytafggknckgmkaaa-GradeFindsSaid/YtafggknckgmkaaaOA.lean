/- Contracts of functions of the document: Clash. -/
import Derived.Test.YtafggknckgmkaaaNZ
import Derived.Test.YtafggknckgmkaaaNK

section
set_option linter.unusedVariables false
set_option linter.unusedSimpArgs false
set_option linter.unusedSectionVars false
/- Grade: Way, Two, Clash of the document. -/
set_option linter.unusedVariables false
set_option linter.unusedSimpArgs false
set_option maxRecDepth 10000
set_option maxHeartbeats 4000000
namespace Go.X.Gr
open Go Go.Proofs Go.X

def wayV (a b : Int) : Int := if a = b then 0 else if nxV a b = true then 1 else 2
def c103 : Ct := plainCt fun
  | [.si .i64 a, .si .i64 b] => some ⟨some ((0 ≤ a ∧ a ≤ 4) ∧ 0 ≤ b ∧ b ≤ 4), none, .si .i64 (wayV a b), []⟩
  | _ => none
theorem k103 {l : List (Nat × Ct)} (g0 : Good P T l) : COk P 103 c103 := by
  have g := g105 good0
  refine cok (C := tabC _) g.ok Try.func103 (c := code Try.f103) rfl fun fr args H out h hp => ?_
  simp only [c103, plainCt] at h
  split at h
  · rename_i a b
    cases h
    have hp : (0 ≤ a ∧ a ≤ 4) ∧ 0 ≤ b ∧ b ≤ 4 := hp
    refine walk_plain rfl (Nat.le_of_ble_eq_true rfl) fun G hG => ?_
    refine Br.mk (fun h => ?_) (fun h => ?_)
    · have h : a = b := of_decide_eq_true h
      exact ⟨.inl rfl, end_plain (by rw [wayV, if_pos h]; exact ⟨rfl, rfl⟩) rfl rfl⟩
    · have h : ¬ a = b := of_decide_eq_false h
      refine Chk.mk hp ?_
      refine Br.mk (fun h2 => ?_) (fun h2 => ?_)
      · have h2 : nxV a b = true := h2
        exact ⟨.inl rfl, end_plain (by rw [wayV, if_neg h, if_pos h2]; exact ⟨rfl, rfl⟩) rfl rfl⟩
      · have h2 : nxV a b = false := h2
        exact ⟨.inl rfl, end_plain (by rw [wayV, if_neg h, h2]; exact ⟨rfl, rfl⟩) rfl rfl⟩
  · cases h
theorem g103 {l : List (Nat × Ct)} (g : Good P T l) : Good P T ((103, c103) :: l) := g.add (k103 g) (plainCt_mono _) (body_of Try.func103 (c := code Try.f103) rfl (by decide))
def twB (g : Pts) (a b : Nat) : Bool := decide (max (loI g a - hiI g b) (loI g b - hiI g a) > g.st * wayV a b)
def c88 : Ct := fun fr args H => match args with
  | [.agg l, .si .i64 a, .si .i64 b] => gradeK H l fun i1 g n get => some ⟨some ((Lims n get ∧ (∀ i, (-20 ≤ loI g i ∧ loI g i ≤ 20) ∧ -20 ≤ hiI g i ∧ hiI g i ≤ 20) ∧ 0 ≤ g.st ∧ g.st ≤ 10) ∧ (0 ≤ a ∧ a ≤ 4) ∧ 0 ≤ b ∧ b ≤ 4), none, .sb (twB g a.toNat b.toNat), []⟩
  | _ => none
theorem c88_mono : CtMono c88 := by
  intro fr args H H' out hH h
  unfold c88 at h ⊢
  split at h
  · exact gradeK_mono hH h
  · cases h
theorem k88 {l : List (Nat × Ct)} (g0 : Good P T l) : COk P 88 c88 := by
  have g := g103 good0
  refine cok (C := tabC _) g.ok Try.func88 (c := code Try.f88) rfl fun fr args H out h hp => ?_
  unfold c88 at h
  split at h
  case h_2 => cases h
  rename_i l a b
  obtain ⟨i1, p, n, get, rfl, e1, h⟩ := gradeK_some h
  cases h
  obtain ⟨⟨hs, hb, hst⟩, ⟨ha1, ha2⟩, hb1, hb2⟩ : (Lims n get ∧ (∀ i, (-20 ≤ loI p i ∧ loI p i ≤ 20) ∧ -20 ≤ hiI p i ∧ hiI p i ≤ 20) ∧ 0 ≤ p.st ∧ p.st ≤ 10) ∧ (0 ≤ a ∧ a ≤ 4) ∧ 0 ≤ b ∧ b ≤ 4 := hp
  have hh : Hand H [(i1, .ro 2 n fun i => liC (liAt get i))] := hand_one e1 (fun i => rfl) (fun i hi => (hs i hi).symm)
  refine ⟨[(i1, .ro 2 n fun i => liC (liAt get i))], [.agg (grA 0 p), .si .i64 a, .si .i64 b], [(0, .ro 2 n fun i => liC (liAt get i))], 1, [], rfl, rfl, Nat.le_of_ble_eq_true rfl, hh, rfl, rfl, fun G hG => ?_⟩
  have hw : 0 ≤ wayV a b ∧ wayV a b ≤ 2 := by
    unfold wayV
    split
    · omega
    · split <;> omega
  have hm : InK .i64 (p.st * wayV a b) := by
    have h1 : 0 ≤ p.st * wayV a b := Int.mul_nonneg hst.1 hw.1
    have h2 : p.st * wayV a b ≤ 10 * 2 := Int.mul_le_mul hst.2 hw.2 hw.1 (by decide)
    exact ⟨by omega, by omega⟩
  have key : ∀ i k : Nat, InK .i64 (loI p i - hiI p k) := fun i k => by
    have h1 := (hb i).1
    have h2 := (hb k).2
    exact ⟨by omega, by omega⟩
  have ha : a = 0 ∨ a = 1 ∨ a = 2 ∨ a = 3 ∨ a = 4 := by omega
  have hbb : b = 0 ∨ b = 1 ∨ b = 2 ∨ b = 3 ∨ b = 4 := by omega
  rcases ha with rfl | ha
  · rcases hbb with rfl | hbb
    · refine drawn_ok (g.ok _ _ _) fol [0,0,3,7,0,0,48,112,0,0,783,2047] [(10, 34), (11, 38)] 12 (by kernel_rfl) ?_
      refine Chk.mk (by decide) (Chk.mk (by decide) ?_)
      refine drawn_ok (g.ok _ _ _) fol [0,1,0,4,15,0,32,0,128,480,1023,0,2048,0,0,24576,63488,131071,262143] [] 19 (by kernel_rfl) ?_
      refine Chk.mk (key 0 0) (Chk.mk (key 0 0) (Chk.mk ⟨⟨ha1, ha2⟩, hb1, hb2⟩ (Chk.mk hm ?_)))
      exact ⟨.inl rfl, end_noid rfl rfl rfl (by repeat' (first | exact trivial | exact rfl | (intro i hi; exact ⟨rfl, rfl⟩) | refine And.intro ?_ ?_))⟩
    rcases hbb with rfl | hbb
    · refine drawn_ok (g.ok _ _ _) fol [0,0,3,7,0,0,48,112,0,0,783,2047] [(10, 34), (11, 38)] 12 (by kernel_rfl) ?_
      refine Chk.mk (by decide) (Chk.mk (by decide) ?_)
      refine drawn_ok (g.ok _ _ _) fol [0,1,0,4,15,0,32,0,128,480,1023,0,2048,0,0,24576,63488,131071,262143] [] 19 (by kernel_rfl) ?_
      refine Chk.mk (key 0 1) (Chk.mk (key 1 0) (Chk.mk ⟨⟨ha1, ha2⟩, hb1, hb2⟩ (Chk.mk hm ?_)))
      exact ⟨.inl rfl, end_noid rfl rfl rfl (by repeat' (first | exact trivial | exact rfl | (intro i hi; exact ⟨rfl, rfl⟩) | refine And.intro ?_ ?_))⟩
    rcases hbb with rfl | hbb
    · refine drawn_ok (g.ok _ _ _) fol [0,0,3,7,0,0,48,112,0,0,783,2047] [(10, 34), (11, 38)] 12 (by kernel_rfl) ?_
      refine Chk.mk (by decide) (Chk.mk (by decide) ?_)
      refine drawn_ok (g.ok _ _ _) fol [0,1,0,4,15,0,32,0,128,480,1023,0,2048,0,0,24576,63488,131071,262143] [] 19 (by kernel_rfl) ?_
      refine Chk.mk (key 0 2) (Chk.mk (key 2 0) (Chk.mk ⟨⟨ha1, ha2⟩, hb1, hb2⟩ (Chk.mk hm ?_)))
      exact ⟨.inl rfl, end_noid rfl rfl rfl (by repeat' (first | exact trivial | exact rfl | (intro i hi; exact ⟨rfl, rfl⟩) | refine And.intro ?_ ?_))⟩
    rcases hbb with rfl | hbb
    · refine drawn_ok (g.ok _ _ _) fol [0,0,3,7,0,0,48,112,0,0,783,2047] [(10, 34), (11, 38)] 12 (by kernel_rfl) ?_
      refine Chk.mk (by decide) (Chk.mk (by decide) ?_)
      refine drawn_ok (g.ok _ _ _) fol [0,1,0,4,15,0,32,0,128,480,1023,0,2048,0,0,24576,63488,131071,262143] [] 19 (by kernel_rfl) ?_
      refine Chk.mk (key 0 3) (Chk.mk (key 3 0) (Chk.mk ⟨⟨ha1, ha2⟩, hb1, hb2⟩ (Chk.mk hm ?_)))
      exact ⟨.inl rfl, end_noid rfl rfl rfl (by repeat' (first | exact trivial | exact rfl | (intro i hi; exact ⟨rfl, rfl⟩) | refine And.intro ?_ ?_))⟩
    subst hbb
    refine drawn_ok (g.ok _ _ _) fol [0,0,3,7,0,0,48,112,0,0,783,2047] [(10, 34), (11, 38)] 12 (by kernel_rfl) ?_
    refine Chk.mk (by decide) (Chk.mk (by decide) ?_)
    refine drawn_ok (g.ok _ _ _) fol [0,1,0,4,15,0,32,0,128,480,1023,0,2048,0,0,24576,63488,131071,262143] [] 19 (by kernel_rfl) ?_
    refine Chk.mk (key 0 4) (Chk.mk (key 4 0) (Chk.mk ⟨⟨ha1, ha2⟩, hb1, hb2⟩ (Chk.mk hm ?_)))
    exact ⟨.inl rfl, end_noid rfl rfl rfl (by repeat' (first | exact trivial | exact rfl | (intro i hi; exact ⟨rfl, rfl⟩) | refine And.intro ?_ ?_))⟩
  rcases ha with rfl | ha
  · rcases hbb with rfl | hbb
    · refine drawn_ok (g.ok _ _ _) fol [0,0,3,7,0,0,48,112,0,0,783,2047] [(10, 34), (11, 38)] 12 (by kernel_rfl) ?_
      refine Chk.mk (by decide) (Chk.mk (by decide) ?_)
      refine drawn_ok (g.ok _ _ _) fol [0,1,0,4,15,0,32,0,128,480,1023,0,2048,0,0,24576,63488,131071,262143] [] 19 (by kernel_rfl) ?_
      refine Chk.mk (key 1 0) (Chk.mk (key 0 1) (Chk.mk ⟨⟨ha1, ha2⟩, hb1, hb2⟩ (Chk.mk hm ?_)))
      exact ⟨.inl rfl, end_noid rfl rfl rfl (by repeat' (first | exact trivial | exact rfl | (intro i hi; exact ⟨rfl, rfl⟩) | refine And.intro ?_ ?_))⟩
    rcases hbb with rfl | hbb
    · refine drawn_ok (g.ok _ _ _) fol [0,0,3,7,0,0,48,112,0,0,783,2047] [(10, 34), (11, 38)] 12 (by kernel_rfl) ?_
      refine Chk.mk (by decide) (Chk.mk (by decide) ?_)
      refine drawn_ok (g.ok _ _ _) fol [0,1,0,4,15,0,32,0,128,480,1023,0,2048,0,0,24576,63488,131071,262143] [] 19 (by kernel_rfl) ?_
      refine Chk.mk (key 1 1) (Chk.mk (key 1 1) (Chk.mk ⟨⟨ha1, ha2⟩, hb1, hb2⟩ (Chk.mk hm ?_)))
      exact ⟨.inl rfl, end_noid rfl rfl rfl (by repeat' (first | exact trivial | exact rfl | (intro i hi; exact ⟨rfl, rfl⟩) | refine And.intro ?_ ?_))⟩
    rcases hbb with rfl | hbb
    · refine drawn_ok (g.ok _ _ _) fol [0,0,3,7,0,0,48,112,0,0,783,2047] [(10, 34), (11, 38)] 12 (by kernel_rfl) ?_
      refine Chk.mk (by decide) (Chk.mk (by decide) ?_)
      refine drawn_ok (g.ok _ _ _) fol [0,1,0,4,15,0,32,0,128,480,1023,0,2048,0,0,24576,63488,131071,262143] [] 19 (by kernel_rfl) ?_
      refine Chk.mk (key 1 2) (Chk.mk (key 2 1) (Chk.mk ⟨⟨ha1, ha2⟩, hb1, hb2⟩ (Chk.mk hm ?_)))
      exact ⟨.inl rfl, end_noid rfl rfl rfl (by repeat' (first | exact trivial | exact rfl | (intro i hi; exact ⟨rfl, rfl⟩) | refine And.intro ?_ ?_))⟩
    rcases hbb with rfl | hbb
    · refine drawn_ok (g.ok _ _ _) fol [0,0,3,7,0,0,48,112,0,0,783,2047] [(10, 34), (11, 38)] 12 (by kernel_rfl) ?_
      refine Chk.mk (by decide) (Chk.mk (by decide) ?_)
      refine drawn_ok (g.ok _ _ _) fol [0,1,0,4,15,0,32,0,128,480,1023,0,2048,0,0,24576,63488,131071,262143] [] 19 (by kernel_rfl) ?_
      refine Chk.mk (key 1 3) (Chk.mk (key 3 1) (Chk.mk ⟨⟨ha1, ha2⟩, hb1, hb2⟩ (Chk.mk hm ?_)))
      exact ⟨.inl rfl, end_noid rfl rfl rfl (by repeat' (first | exact trivial | exact rfl | (intro i hi; exact ⟨rfl, rfl⟩) | refine And.intro ?_ ?_))⟩
    subst hbb
    refine drawn_ok (g.ok _ _ _) fol [0,0,3,7,0,0,48,112,0,0,783,2047] [(10, 34), (11, 38)] 12 (by kernel_rfl) ?_
    refine Chk.mk (by decide) (Chk.mk (by decide) ?_)
    refine drawn_ok (g.ok _ _ _) fol [0,1,0,4,15,0,32,0,128,480,1023,0,2048,0,0,24576,63488,131071,262143] [] 19 (by kernel_rfl) ?_
    refine Chk.mk (key 1 4) (Chk.mk (key 4 1) (Chk.mk ⟨⟨ha1, ha2⟩, hb1, hb2⟩ (Chk.mk hm ?_)))
    exact ⟨.inl rfl, end_noid rfl rfl rfl (by repeat' (first | exact trivial | exact rfl | (intro i hi; exact ⟨rfl, rfl⟩) | refine And.intro ?_ ?_))⟩
  rcases ha with rfl | ha
  · rcases hbb with rfl | hbb
    · refine drawn_ok (g.ok _ _ _) fol [0,0,3,7,0,0,48,112,0,0,783,2047] [(10, 34), (11, 38)] 12 (by kernel_rfl) ?_
      refine Chk.mk (by decide) (Chk.mk (by decide) ?_)
      refine drawn_ok (g.ok _ _ _) fol [0,1,0,4,15,0,32,0,128,480,1023,0,2048,0,0,24576,63488,131071,262143] [] 19 (by kernel_rfl) ?_
      refine Chk.mk (key 2 0) (Chk.mk (key 0 2) (Chk.mk ⟨⟨ha1, ha2⟩, hb1, hb2⟩ (Chk.mk hm ?_)))
      exact ⟨.inl rfl, end_noid rfl rfl rfl (by repeat' (first | exact trivial | exact rfl | (intro i hi; exact ⟨rfl, rfl⟩) | refine And.intro ?_ ?_))⟩
    rcases hbb with rfl | hbb
    · refine drawn_ok (g.ok _ _ _) fol [0,0,3,7,0,0,48,112,0,0,783,2047] [(10, 34), (11, 38)] 12 (by kernel_rfl) ?_
      refine Chk.mk (by decide) (Chk.mk (by decide) ?_)
      refine drawn_ok (g.ok _ _ _) fol [0,1,0,4,15,0,32,0,128,480,1023,0,2048,0,0,24576,63488,131071,262143] [] 19 (by kernel_rfl) ?_
      refine Chk.mk (key 2 1) (Chk.mk (key 1 2) (Chk.mk ⟨⟨ha1, ha2⟩, hb1, hb2⟩ (Chk.mk hm ?_)))
      exact ⟨.inl rfl, end_noid rfl rfl rfl (by repeat' (first | exact trivial | exact rfl | (intro i hi; exact ⟨rfl, rfl⟩) | refine And.intro ?_ ?_))⟩
    rcases hbb with rfl | hbb
    · refine drawn_ok (g.ok _ _ _) fol [0,0,3,7,0,0,48,112,0,0,783,2047] [(10, 34), (11, 38)] 12 (by kernel_rfl) ?_
      refine Chk.mk (by decide) (Chk.mk (by decide) ?_)
      refine drawn_ok (g.ok _ _ _) fol [0,1,0,4,15,0,32,0,128,480,1023,0,2048,0,0,24576,63488,131071,262143] [] 19 (by kernel_rfl) ?_
      refine Chk.mk (key 2 2) (Chk.mk (key 2 2) (Chk.mk ⟨⟨ha1, ha2⟩, hb1, hb2⟩ (Chk.mk hm ?_)))
      exact ⟨.inl rfl, end_noid rfl rfl rfl (by repeat' (first | exact trivial | exact rfl | (intro i hi; exact ⟨rfl, rfl⟩) | refine And.intro ?_ ?_))⟩
    rcases hbb with rfl | hbb
    · refine drawn_ok (g.ok _ _ _) fol [0,0,3,7,0,0,48,112,0,0,783,2047] [(10, 34), (11, 38)] 12 (by kernel_rfl) ?_
      refine Chk.mk (by decide) (Chk.mk (by decide) ?_)
      refine drawn_ok (g.ok _ _ _) fol [0,1,0,4,15,0,32,0,128,480,1023,0,2048,0,0,24576,63488,131071,262143] [] 19 (by kernel_rfl) ?_
      refine Chk.mk (key 2 3) (Chk.mk (key 3 2) (Chk.mk ⟨⟨ha1, ha2⟩, hb1, hb2⟩ (Chk.mk hm ?_)))
      exact ⟨.inl rfl, end_noid rfl rfl rfl (by repeat' (first | exact trivial | exact rfl | (intro i hi; exact ⟨rfl, rfl⟩) | refine And.intro ?_ ?_))⟩
    subst hbb
    refine drawn_ok (g.ok _ _ _) fol [0,0,3,7,0,0,48,112,0,0,783,2047] [(10, 34), (11, 38)] 12 (by kernel_rfl) ?_
    refine Chk.mk (by decide) (Chk.mk (by decide) ?_)
    refine drawn_ok (g.ok _ _ _) fol [0,1,0,4,15,0,32,0,128,480,1023,0,2048,0,0,24576,63488,131071,262143] [] 19 (by kernel_rfl) ?_
    refine Chk.mk (key 2 4) (Chk.mk (key 4 2) (Chk.mk ⟨⟨ha1, ha2⟩, hb1, hb2⟩ (Chk.mk hm ?_)))
    exact ⟨.inl rfl, end_noid rfl rfl rfl (by repeat' (first | exact trivial | exact rfl | (intro i hi; exact ⟨rfl, rfl⟩) | refine And.intro ?_ ?_))⟩
  rcases ha with rfl | ha
  · rcases hbb with rfl | hbb
    · refine drawn_ok (g.ok _ _ _) fol [0,0,3,7,0,0,48,112,0,0,783,2047] [(10, 34), (11, 38)] 12 (by kernel_rfl) ?_
      refine Chk.mk (by decide) (Chk.mk (by decide) ?_)
      refine drawn_ok (g.ok _ _ _) fol [0,1,0,4,15,0,32,0,128,480,1023,0,2048,0,0,24576,63488,131071,262143] [] 19 (by kernel_rfl) ?_
      refine Chk.mk (key 3 0) (Chk.mk (key 0 3) (Chk.mk ⟨⟨ha1, ha2⟩, hb1, hb2⟩ (Chk.mk hm ?_)))
      exact ⟨.inl rfl, end_noid rfl rfl rfl (by repeat' (first | exact trivial | exact rfl | (intro i hi; exact ⟨rfl, rfl⟩) | refine And.intro ?_ ?_))⟩
    rcases hbb with rfl | hbb
    · refine drawn_ok (g.ok _ _ _) fol [0,0,3,7,0,0,48,112,0,0,783,2047] [(10, 34), (11, 38)] 12 (by kernel_rfl) ?_
      refine Chk.mk (by decide) (Chk.mk (by decide) ?_)
      refine drawn_ok (g.ok _ _ _) fol [0,1,0,4,15,0,32,0,128,480,1023,0,2048,0,0,24576,63488,131071,262143] [] 19 (by kernel_rfl) ?_
      refine Chk.mk (key 3 1) (Chk.mk (key 1 3) (Chk.mk ⟨⟨ha1, ha2⟩, hb1, hb2⟩ (Chk.mk hm ?_)))
      exact ⟨.inl rfl, end_noid rfl rfl rfl (by repeat' (first | exact trivial | exact rfl | (intro i hi; exact ⟨rfl, rfl⟩) | refine And.intro ?_ ?_))⟩
    rcases hbb with rfl | hbb
    · refine drawn_ok (g.ok _ _ _) fol [0,0,3,7,0,0,48,112,0,0,783,2047] [(10, 34), (11, 38)] 12 (by kernel_rfl) ?_
      refine Chk.mk (by decide) (Chk.mk (by decide) ?_)
      refine drawn_ok (g.ok _ _ _) fol [0,1,0,4,15,0,32,0,128,480,1023,0,2048,0,0,24576,63488,131071,262143] [] 19 (by kernel_rfl) ?_
      refine Chk.mk (key 3 2) (Chk.mk (key 2 3) (Chk.mk ⟨⟨ha1, ha2⟩, hb1, hb2⟩ (Chk.mk hm ?_)))
      exact ⟨.inl rfl, end_noid rfl rfl rfl (by repeat' (first | exact trivial | exact rfl | (intro i hi; exact ⟨rfl, rfl⟩) | refine And.intro ?_ ?_))⟩
    rcases hbb with rfl | hbb
    · refine drawn_ok (g.ok _ _ _) fol [0,0,3,7,0,0,48,112,0,0,783,2047] [(10, 34), (11, 38)] 12 (by kernel_rfl) ?_
      refine Chk.mk (by decide) (Chk.mk (by decide) ?_)
      refine drawn_ok (g.ok _ _ _) fol [0,1,0,4,15,0,32,0,128,480,1023,0,2048,0,0,24576,63488,131071,262143] [] 19 (by kernel_rfl) ?_
      refine Chk.mk (key 3 3) (Chk.mk (key 3 3) (Chk.mk ⟨⟨ha1, ha2⟩, hb1, hb2⟩ (Chk.mk hm ?_)))
      exact ⟨.inl rfl, end_noid rfl rfl rfl (by repeat' (first | exact trivial | exact rfl | (intro i hi; exact ⟨rfl, rfl⟩) | refine And.intro ?_ ?_))⟩
    subst hbb
    refine drawn_ok (g.ok _ _ _) fol [0,0,3,7,0,0,48,112,0,0,783,2047] [(10, 34), (11, 38)] 12 (by kernel_rfl) ?_
    refine Chk.mk (by decide) (Chk.mk (by decide) ?_)
    refine drawn_ok (g.ok _ _ _) fol [0,1,0,4,15,0,32,0,128,480,1023,0,2048,0,0,24576,63488,131071,262143] [] 19 (by kernel_rfl) ?_
    refine Chk.mk (key 3 4) (Chk.mk (key 4 3) (Chk.mk ⟨⟨ha1, ha2⟩, hb1, hb2⟩ (Chk.mk hm ?_)))
    exact ⟨.inl rfl, end_noid rfl rfl rfl (by repeat' (first | exact trivial | exact rfl | (intro i hi; exact ⟨rfl, rfl⟩) | refine And.intro ?_ ?_))⟩
  subst ha
  rcases hbb with rfl | hbb
  · refine drawn_ok (g.ok _ _ _) fol [0,0,3,7,0,0,48,112,0,0,783,2047] [(10, 34), (11, 38)] 12 (by kernel_rfl) ?_
    refine Chk.mk (by decide) (Chk.mk (by decide) ?_)
    refine drawn_ok (g.ok _ _ _) fol [0,1,0,4,15,0,32,0,128,480,1023,0,2048,0,0,24576,63488,131071,262143] [] 19 (by kernel_rfl) ?_
    refine Chk.mk (key 4 0) (Chk.mk (key 0 4) (Chk.mk ⟨⟨ha1, ha2⟩, hb1, hb2⟩ (Chk.mk hm ?_)))
    exact ⟨.inl rfl, end_noid rfl rfl rfl (by repeat' (first | exact trivial | exact rfl | (intro i hi; exact ⟨rfl, rfl⟩) | refine And.intro ?_ ?_))⟩
  rcases hbb with rfl | hbb
  · refine drawn_ok (g.ok _ _ _) fol [0,0,3,7,0,0,48,112,0,0,783,2047] [(10, 34), (11, 38)] 12 (by kernel_rfl) ?_
    refine Chk.mk (by decide) (Chk.mk (by decide) ?_)
    refine drawn_ok (g.ok _ _ _) fol [0,1,0,4,15,0,32,0,128,480,1023,0,2048,0,0,24576,63488,131071,262143] [] 19 (by kernel_rfl) ?_
    refine Chk.mk (key 4 1) (Chk.mk (key 1 4) (Chk.mk ⟨⟨ha1, ha2⟩, hb1, hb2⟩ (Chk.mk hm ?_)))
    exact ⟨.inl rfl, end_noid rfl rfl rfl (by repeat' (first | exact trivial | exact rfl | (intro i hi; exact ⟨rfl, rfl⟩) | refine And.intro ?_ ?_))⟩
  rcases hbb with rfl | hbb
  · refine drawn_ok (g.ok _ _ _) fol [0,0,3,7,0,0,48,112,0,0,783,2047] [(10, 34), (11, 38)] 12 (by kernel_rfl) ?_
    refine Chk.mk (by decide) (Chk.mk (by decide) ?_)
    refine drawn_ok (g.ok _ _ _) fol [0,1,0,4,15,0,32,0,128,480,1023,0,2048,0,0,24576,63488,131071,262143] [] 19 (by kernel_rfl) ?_
    refine Chk.mk (key 4 2) (Chk.mk (key 2 4) (Chk.mk ⟨⟨ha1, ha2⟩, hb1, hb2⟩ (Chk.mk hm ?_)))
    exact ⟨.inl rfl, end_noid rfl rfl rfl (by repeat' (first | exact trivial | exact rfl | (intro i hi; exact ⟨rfl, rfl⟩) | refine And.intro ?_ ?_))⟩
  rcases hbb with rfl | hbb
  · refine drawn_ok (g.ok _ _ _) fol [0,0,3,7,0,0,48,112,0,0,783,2047] [(10, 34), (11, 38)] 12 (by kernel_rfl) ?_
    refine Chk.mk (by decide) (Chk.mk (by decide) ?_)
    refine drawn_ok (g.ok _ _ _) fol [0,1,0,4,15,0,32,0,128,480,1023,0,2048,0,0,24576,63488,131071,262143] [] 19 (by kernel_rfl) ?_
    refine Chk.mk (key 4 3) (Chk.mk (key 3 4) (Chk.mk ⟨⟨ha1, ha2⟩, hb1, hb2⟩ (Chk.mk hm ?_)))
    exact ⟨.inl rfl, end_noid rfl rfl rfl (by repeat' (first | exact trivial | exact rfl | (intro i hi; exact ⟨rfl, rfl⟩) | refine And.intro ?_ ?_))⟩
  subst hbb
  refine drawn_ok (g.ok _ _ _) fol [0,0,3,7,0,0,48,112,0,0,783,2047] [(10, 34), (11, 38)] 12 (by kernel_rfl) ?_
  refine Chk.mk (by decide) (Chk.mk (by decide) ?_)
  refine drawn_ok (g.ok _ _ _) fol [0,1,0,4,15,0,32,0,128,480,1023,0,2048,0,0,24576,63488,131071,262143] [] 19 (by kernel_rfl) ?_
  refine Chk.mk (key 4 4) (Chk.mk (key 4 4) (Chk.mk ⟨⟨ha1, ha2⟩, hb1, hb2⟩ (Chk.mk hm ?_)))
  exact ⟨.inl rfl, end_noid rfl rfl rfl (by repeat' (first | exact trivial | exact rfl | (intro i hi; exact ⟨rfl, rfl⟩) | refine And.intro ?_ ?_))⟩
theorem g88 {l : List (Nat × Ct)} (g : Good P T l) : Good P T ((88, c88) :: l) := g.add (k88 g) c88_mono (body_of Try.func88 (c := code Try.f88) rfl (by decide))
theorem tw_eq {g : Pts} {a b : Nat} (ha : a < 5) (hb : b < 5) : twB g a b = clB g a b := by
  have h : ∀ a b : _root_.Fin 5, wayV (a.1 : Int) (b.1 : Int) = farV (a.1 : Int) (b.1 : Int) := by decide
  have h := h ⟨a, ha⟩ ⟨b, hb⟩
  unfold twB clB
  simp only at h
  rw [h, Int.mul_comm]
end Go.X.Gr
end

section
set_option linter.unusedVariables false
set_option linter.unusedSimpArgs false
set_option linter.unusedSectionVars false
/- Grade: Clash of the document. -/
set_option linter.unusedVariables false
set_option linter.unusedSimpArgs false
set_option maxRecDepth 10000
set_option maxHeartbeats 4000000
namespace Go.X.Gr
open Go Go.Proofs Go.X

theorem clash_find {g : Pts} {a b : Nat} (h1 : ∀ i k, i < a → i < k → k < 5 → clB g i k = false) (h2 : ∀ k, a < k → k < b → clB g a k = false) (hab : a < b) (hb : b < 5) (h : clB g a b = true) : clashV g = some (a, b) := by
  have e : (a = 0 ∨ a = 1 ∨ a = 2 ∨ a = 3) ∧ (b = 1 ∨ b = 2 ∨ b = 3 ∨ b = 4) := by omega
  have d : ∀ i k, (i < a ∨ (i = a ∧ k < b)) → i < k → k < 5 → clB g i k = false := fun i k h3 h4 h5 => by
    rcases h3 with h3 | ⟨rfl, h3⟩
    · exact h1 i k h3 h4 h5
    · exact h2 k h4 h3
  unfold clashV clL
  have d01 := d 0 1; have d02 := d 0 2; have d03 := d 0 3; have d04 := d 0 4; have d12 := d 1 2; have d13 := d 1 3; have d14 := d 1 4; have d23 := d 2 3; have d24 := d 2 4
  obtain ⟨e1, e2⟩ := e
  rcases e1 with rfl | rfl | rfl | rfl <;> rcases e2 with rfl | rfl | rfl | rfl <;> first | omega | skip
  all_goals simp at d01 d02 d03 d04 d12 d13 d14 d23 d24
  all_goals simp [*]
theorem clash_no {g : Pts} (h1 : ∀ i k, i < 5 → i < k → k < 5 → clB g i k = false) : clashV g = none := by
  refine List.find?_eq_none.2 fun q hq => ?_
  have : q.1 < 5 ∧ q.1 < q.2 ∧ q.2 < 5 := by
    have : ∀ q ∈ clL, q.1 < 5 ∧ q.1 < q.2 ∧ q.2 < 5 := by decide
    exact this q hq
  rw [h1 _ _ this.1 this.2.1 this.2.2]
  decide
theorem k30 {l : List (Nat × Ct)} (g0 : Good P T l) : COk P 30 c29 := by
  have g := g86 (g88 good0)
  refine cok (C := tabC _) g.ok Try.func30 (c := code Try.f30) rfl fun fr args H out h hp => ?_
  unfold c29 at h
  split at h
  case h_2 => cases h
  rename_i l
  obtain ⟨i1, p, n, get, rfl, e1, h⟩ := gradeK_some h
  cases h
  obtain ⟨hs, hn⟩ : Lims n get ∧ n ≤ 1000000 := hp
  have hh : Hand H [(i1, .ro 2 n fun i => liC (liAt get i))] := hand_one e1 (fun i => rfl) (fun i hi => (hs i hi).symm)
  refine ⟨[(i1, .ro 2 n fun i => liC (liAt get i))], [.agg (grA 0 p)], [(0, .ro 2 n fun i => liC (liAt get i))], 1, [], rfl, rfl, Nat.le_of_ble_eq_true rfl, hh, rfl, rfl, fun G hG => ?_⟩
  unfold limsL
  generalize liAt get = lm
  have hE : limsL n (fun i => liC (lm i)) = (List.range n).map lm := rfl
  generalize hLm : (List.range n).map lm = Lm at hE ⊢
  refine Chk.mk (show Lims n (fun i => liC (lm i)) ∧ n ≤ 1000000 from ⟨fun i hi => rfl, hn⟩) ?_
  rw [hE]
  refine Br.mk (fun h => ?_) (fun h => ?_)
  · have h : (!decide (errG p Lm true = 0)) = true := h
    have h : ¬ errG p Lm true = 0 := by simpa using h
    have hr : resC p Lm = (0, 0, errG p Lm true) := by unfold resC; rw [if_neg h]
    rw [hr]
    exact ⟨.inl rfl, end_noid ⟨⟨rfl, rfl⟩, ⟨rfl, rfl⟩, ⟨rfl, rfl⟩, trivial⟩ rfl rfl (by repeat' (first | exact trivial | exact rfl | (intro i hi; exact ⟨rfl, rfl⟩) | refine And.intro ?_ ?_))⟩
  have h : (!decide (errG p Lm true = 0)) = false := h
  have h : errG p Lm true = 0 := by simpa using h
  have hok := (errG_zero h).1
  have ho := gradeOk_o hok
  have hr : resC p Lm = (match clashV p with
    | some q => ((q.1 : Int), (q.2 : Int), 0)
    | none => (0, 0, 4)) := by
    unfold resC
    rw [if_pos h]
    cases clashV p <;> rfl
  rw [hr]
  refine fb_call (g.ok _ _ _) cont_std rfl rfl rfl rfl ⟨b87, ?_⟩
  refine callS_at [.agg (grA 0 p)] [(0, .ro 2 n fun i => liC (lm i))] 1 (fun j => j) (by repeat' (first | exact trivial | exact rfl | refine And.intro ?_ ?_)) rfl (by repeat' (first | exact trivial | exact rfl | (intro i hi; exact ⟨rfl, rfl⟩) | refine And.intro ?_ ?_)) rfl rfl ?_
  refine s87 (gradeOk_b hok).1 (gradeOk_narrow hok) (fun L2 hL2 => ⟨rfl, ?_, ?_, ?_⟩)
  · repeat' (first | exact trivial | exact rfl | refine And.intro ?_ ?_)
  · repeat' (first | exact trivial | exact rfl | (intro i hi; exact rfl) | refine And.intro ?_ ?_)
  refine Br.mk (fun h2 => ?_) (fun h2 => ?_)
  · have h2 : (L2.length : Int) > 0 := of_decide_eq_true h2
    have hb : hasB p = true := blk_cons fun e => by
      rw [← hL2] at e
      have := congrArg List.length e
      rw [List.length_map] at this
      simp at this
      rw [this] at h2
      simp at h2
    rw [(clashV_none ho).2 hb]
    exact ⟨.inl rfl, end_noid ⟨⟨rfl, rfl⟩, ⟨rfl, rfl⟩, ⟨rfl, rfl⟩, trivial⟩ rfl rfl (by repeat' (first | exact trivial | exact rfl | (intro i hi; exact ⟨rfl, rfl⟩) | refine And.intro ?_ ?_))⟩
  have hsp := ok_spans hok
  have hpre : (Lims n (fun i => liC (lm i)) ∧ (∀ i, (-20 ≤ loI p i ∧ loI p i ≤ 20) ∧ -20 ≤ hiI p i ∧ hiI p i ≤ 20) ∧ 0 ≤ p.st ∧ p.st ≤ 10) := by
    refine ⟨fun i hi => rfl, fun i => by have := hsp i; omega, ?_⟩
    have := (gradeOk_b hok).1
    unfold ptsB at this
    omega
  refine loop_okR (g.ok _ _ _) 1 (fun x : {a : Nat // a ≤ 5 ∧ ∀ i k, i < a → i < k → k < 5 → clB p i k = false} => ⟨[(1, ⟨[], .sp 1 0⟩), (6, ⟨[], .si .i64 x.1⟩)], [], [(1, .cells 27 (grA 0 p)), (0, .ro 2 n fun i => liC (lm i))], 2, []⟩) (fun x => 5 - x.1) hG ⟨0, by decide, fun i k h => absurd h (Nat.not_lt_zero _)⟩ (fun j => j) ?_ ?_
  · refine ⟨?_, ?_, rfl, rfl, rfl, rfl, trivial⟩ <;> repeat' (first | exact trivial | exact rfl | (intro i hi; exact ⟨rfl, rfl⟩) | refine And.intro ?_ ?_)
  rintro ⟨a, ha, hfa⟩
  refine Br.mk (fun h3 => ?_) (fun h3 => ?_)
  · have h3 : (a : Int) < 5 := of_decide_eq_true h3
    refine Chk.mk (show InK .i64 ((a : Int) + 1) from ⟨by omega, by omega⟩) ?_
    refine loop_okR (g.ok _ _ _) 1 (fun x : {b : Nat // a < b ∧ b ≤ 5 ∧ ∀ k, a < k → k < b → clB p a k = false} => ⟨[(1, ⟨[], .sp 1 0⟩), (6, ⟨[], .si .i64 a⟩), (7, ⟨[], .si .i64 x.1⟩)], [], [(1, .cells 27 (grA 0 p)), (0, .ro 2 n fun i => liC (lm i))], 2, []⟩) (fun x => 5 - x.1) hG ⟨a + 1, by omega, by omega, fun k h1 h2 => by omega⟩ (fun j => j) ?_ ?_
    · refine ⟨?_, ?_, rfl, rfl, rfl, rfl, trivial⟩ <;> repeat' (first | exact trivial | exact rfl | (intro i hi; exact ⟨rfl, rfl⟩) | refine And.intro ?_ ?_)
    rintro ⟨b, hab, hb, hfb⟩
    refine Br.mk (fun h4 => ?_) (fun h4 => ?_)
    · have h4 : (b : Int) < 5 := of_decide_eq_true h4
      have hab4 : (0 ≤ (a : Int) ∧ (a : Int) ≤ 4) ∧ 0 ≤ (b : Int) ∧ (b : Int) ≤ 4 := ⟨⟨by omega, by omega⟩, by omega, by omega⟩
      refine Chk.mk ⟨hpre, hab4⟩ ?_
      refine Br.mk (fun h5 => ?_) (fun h5 => ?_)
      · have h5 : twB p a b = true := h5
        rw [tw_eq (by omega) (by omega)] at h5
        rw [clash_find hfa hfb hab (by omega) h5]
        exact ⟨.inl rfl, end_noid ⟨⟨rfl, rfl⟩, ⟨rfl, rfl⟩, ⟨rfl, rfl⟩, trivial⟩ rfl rfl (by repeat' (first | exact trivial | exact rfl | (intro i hi; exact ⟨rfl, rfl⟩) | refine And.intro ?_ ?_))⟩
      · have h5 : twB p a b = false := h5
        rw [tw_eq (by omega) (by omega)] at h5
        refine Chk.mk (show InK .i64 ((b : Int) + 1) from ⟨by omega, by omega⟩) ⟨⟨b + 1, by omega, by omega, fun k h1 h2 => ?_⟩, (fun j => j), ?_, by show 5 - (b + 1) < 5 - b; omega⟩
        · by_cases hk : k = b
          · subst hk; exact h5
          · exact hfb k h1 (by omega)
        · refine ⟨?_, ?_, rfl, rfl, rfl, rfl, trivial⟩ <;> repeat' (first | exact trivial | exact rfl | (intro i hi; exact ⟨rfl, rfl⟩) | refine And.intro ?_ ?_)
    · have h4 : ¬ (b : Int) < 5 := of_decide_eq_false h4
      refine Chk.mk (show InK .i64 ((a : Int) + 1) from ⟨by omega, by omega⟩) ⟨⟨a + 1, by omega, fun i k h1 h2 h3 => ?_⟩, (fun j => j), ?_, by show 5 - (a + 1) < 5 - a; omega⟩
      · by_cases hi : i = a
        · subst hi; exact hfb k h2 (by omega)
        · exact hfa i k (by omega) h2 h3
      · refine ⟨?_, ?_, rfl, rfl, rfl, rfl, trivial⟩ <;> repeat' (first | exact trivial | exact rfl | (intro i hi; exact ⟨rfl, rfl⟩) | refine And.intro ?_ ?_)
  · have h3 : ¬ (a : Int) < 5 := of_decide_eq_false h3
    obtain rfl : a = 5 := by omega
    rw [clash_no hfa]
    exact ⟨.inl rfl, end_noid ⟨⟨rfl, rfl⟩, ⟨rfl, rfl⟩, ⟨rfl, rfl⟩, trivial⟩ rfl rfl (by repeat' (first | exact trivial | exact rfl | (intro i hi; exact ⟨rfl, rfl⟩) | refine And.intro ?_ ?_))⟩
theorem g30 {l : List (Nat × Ct)} (g : Good P T l) : Good P T ((30, c29) :: l) := g.add (k30 g) c29_mono (body_of Try.func30 (c := code Try.f30) rfl (by decide))
end Go.X.Gr
end
