/- Contracts of functions of the package pass: Bound, all links gone through. -/
import Derived.Test.YtknjpbmkpjcgjaaOA
import Derived.Test.YtknjpbmkpjcgjaaOB
import Derived.Test.YtknjpbmkpjcgjaaMJ

section
set_option linter.unusedVariables false
set_option linter.unusedSimpArgs false
set_option linter.unusedSectionVars false
/- Pass: the least chain is the least of all chains (plain). -/
set_option linter.unusedVariables false
set_option linter.unusedSimpArgs false
namespace Go.X.Ps
open Go Go.Proofs Go.X

/-! ### The order of chains -/
theorem cmpI_cases (a b : Int) : (cmpI a b = -1 ∧ a < b) ∨ (cmpI a b = 0 ∧ a = b) ∨ (cmpI a b = 1 ∧ b < a) := by
  unfold cmpI
  split
  · exact .inl ⟨rfl, by assumption⟩
  · split
    · exact .inr (.inr ⟨rfl, by assumption⟩)
    · exact .inr (.inl ⟨rfl, by omega⟩)
theorem cmpI_self (a : Int) : cmpI a a = 0 := by unfold cmpI; simp
theorem cmpV_self : ∀ a : List Int, cmpV a a = 0
  | [] => rfl
  | a :: r => by rw [cmpV, cmpI_self, if_pos rfl, cmpV_self r]
theorem cmpV_cons (i : Int) (a b : List Int) : cmpV (i :: a) (i :: b) = cmpV a b := by
  rw [cmpV, cmpI_self, if_pos rfl]
theorem cmpV_trans : ∀ {a b c : List Int}, cmpV a b < 0 → cmpV b c < 0 → cmpV a c < 0
  | [], [], _, h, _ => by cases h
  | _, _ :: _, [], _, h => by simp [cmpV] at h
  | _ :: _, [], _, h, _ => by simp [cmpV] at h
  | [], _ :: _, _ :: _, _, _ => by simp [cmpV]
  | x :: a, y :: b, z :: c, h, k => by
    rw [cmpV] at h k ⊢
    rcases cmpI_cases x y with ⟨e, h1⟩ | ⟨e, rfl⟩ | ⟨e, h1⟩
    · rcases cmpI_cases y z with ⟨e2, h2⟩ | ⟨e2, rfl⟩ | ⟨e2, h2⟩
      · rcases cmpI_cases x z with ⟨e3, h3⟩ | ⟨e3, h3⟩ | ⟨e3, h3⟩
        · simp [e3]
        · omega
        · omega
      · simp [e]
      · rw [e2] at k; simp at k
    · rw [if_pos e] at h
      rcases cmpI_cases x z with ⟨e2, h2⟩ | ⟨e2, rfl⟩ | ⟨e2, h2⟩
      · simp [e2]
      · rw [if_pos e2] at k ⊢
        exact cmpV_trans h k
      · rw [e2] at k; simp at k
    · rw [e] at h; simp at h
theorem cmpV_total : ∀ (a b : List Int), cmpV a b < 0 ∨ a = b ∨ cmpV b a < 0
  | [], [] => .inr (.inl rfl)
  | [], _ :: _ => .inl (by simp [cmpV])
  | _ :: _, [] => .inr (.inr (by simp [cmpV]))
  | x :: a, y :: b => by
    rw [cmpV, cmpV]
    rcases cmpI_cases x y with ⟨e, h⟩ | ⟨e, rfl⟩ | ⟨e, h⟩
    · exact .inl (by simp [e])
    · simp only [e, if_true]
      rcases cmpV_total a b with h | rfl | h
      · exact .inl h
      · exact .inr (.inl rfl)
      · exact .inr (.inr h)
    · refine .inr (.inr ?_)
      rcases cmpI_cases y x with ⟨e2, h2⟩ | ⟨e2, h2⟩ | ⟨e2, h2⟩
      · simp [e2]
      · omega
      · omega
theorem lessV_iff (a b : Ch) : lessV a b = true ↔ a.w < b.w ∨ (a.w = b.w ∧ (a.ps.length < b.ps.length ∨ (a.ps.length = b.ps.length ∧ cmpV a.ps b.ps < 0))) := by
  unfold lessV
  split
  · rename_i h
    rw [decide_eq_true_eq]
    exact ⟨.inl, fun h2 => h2.elim id fun h3 => (h h3.1).elim⟩
  · rename_i h
    have h : a.w = b.w := by omega
    split
    · rename_i h2
      rw [decide_eq_true_eq]
      constructor
      · exact fun h3 => .inr ⟨h, .inl h3⟩
      · rintro (h3 | ⟨_, h3 | h3⟩)
        · omega
        · exact h3
        · exact (h2 h3.1).elim
    · rename_i h2
      have h2 : a.ps.length = b.ps.length := by omega
      rw [decide_eq_true_eq]
      constructor
      · exact fun h3 => .inr ⟨h, .inr ⟨h2, h3⟩⟩
      · rintro (h3 | ⟨_, h3 | h3⟩)
        · omega
        · omega
        · exact h3.2
theorem lessV_self (a : Ch) : lessV a a = false := by
  rw [← Bool.not_eq_true, lessV_iff]
  rw [cmpV_self]
  omega
theorem lessV_trans {a b c : Ch} (h : lessV a b = true) (k : lessV b c = true) : lessV a c = true := by
  rw [lessV_iff] at h k ⊢
  rcases h with h | ⟨h, h2⟩
  · rcases k with k | ⟨k, _⟩ <;> exact .inl (by omega)
  · rcases k with k | ⟨k, k2⟩
    · exact .inl (by omega)
    · refine .inr ⟨by omega, ?_⟩
      rcases h2 with h2 | ⟨h2, h3⟩
      · rcases k2 with k2 | ⟨k2, _⟩ <;> exact .inl (by omega)
      · rcases k2 with k2 | ⟨k2, k3⟩
        · exact .inl (by omega)
        · exact .inr ⟨by omega, cmpV_trans h3 k3⟩
theorem lessV_total (a b : Ch) : lessV a b = true ∨ a = b ∨ lessV b a = true := by
  rw [lessV_iff, lessV_iff]
  rcases Int.lt_trichotomy a.w b.w with h | h | h
  · exact .inl (.inl h)
  · rcases Nat.lt_trichotomy a.ps.length b.ps.length with h2 | h2 | h2
    · exact .inl (.inr ⟨h, .inl h2⟩)
    · rcases cmpV_total a.ps b.ps with h3 | h3 | h3
      · exact .inl (.inr ⟨h, .inr ⟨h2, h3⟩⟩)
      · obtain ⟨p, v⟩ := a
        obtain ⟨q, w⟩ := b
        simp only at h h3
        subst h h3
        exact .inr (.inl rfl)
      · exact .inr (.inr (.inr ⟨h.symm, .inr ⟨h2.symm, h3⟩⟩))
    · exact .inr (.inr (.inr ⟨h.symm, .inl h2⟩))
  · exact .inr (.inr (.inl h))
theorem lessV_asymm {a b : Ch} (h : lessV a b = true) : lessV b a = false := by
  rw [← Bool.not_eq_true]
  intro k
  have := lessV_trans h k
  rw [lessV_self] at this
  cases this
/-- What is no greater than something, and what is less. -/
theorem lessV_of_le {a b c : Ch} (h : lessV b a = false) (k : lessV b c = true) : lessV a c = true := by
  rcases lessV_total a b with h1 | rfl | h1
  · exact lessV_trans h1 k
  · exact k
  · rw [h] at h1; cases h1
theorem link_less {y : Int} {i : Nat} {x : Pp} {a b : Ch} (h : lessV a b = true) : lessV (linkC y i x a) (linkC y i x b) = true := by
  rw [lessV_iff] at h ⊢
  simp only [linkC, List.length_cons, cmpV_cons]
  omega
theorem link_le {y : Int} {i : Nat} {x : Pp} {a b : Ch} (h : lessV a b = false) : lessV (linkC y i x a) (linkC y i x b) = false := by
  rcases lessV_total a b with h1 | rfl | h1
  · rw [h] at h1; cases h1
  · exact lessV_self _
  · exact lessV_asymm (link_less h1)

/-! ### The least of a list -/
theorem bestG_le {f : Nat → Ch} : ∀ {n}, ∀ j, j < n → lessV (f j) (bestG f n) = false
  | 0, j, h => absurd h (Nat.not_lt_zero _)
  | i + 1, j, h => by
    rw [bestG]
    split
    · rename_i h0
      subst h0
      obtain rfl : j = 0 := by omega
      exact lessV_self _
    · split
      · rename_i h1
        rcases Nat.lt_or_ge j i with h2 | h2
        · have := bestG_le (f := f) (n := i) j h2
          rw [← Bool.not_eq_true] at this ⊢
          exact fun h3 => this (lessV_trans h3 h1)
        · obtain rfl : j = i := by omega
          exact lessV_self _
      · rename_i h1
        rcases Nat.lt_or_ge j i with h2 | h2
        · exact bestG_le j h2
        · obtain rfl : j = i := by omega
          exact Bool.not_eq_true _ ▸ h1
theorem lstC_le {l : List Ch} {c : Ch} (h : lstC l = some c) : ∀ x ∈ l, lessV x c = false := by
  intro x hx
  unfold lstC at h
  split at h
  · cases h
  · cases h
    obtain ⟨i, hi, rfl⟩ := List.getElem_of_mem hx
    have := bestG_le (f := fun i => l.getD i ch0) (n := l.length) i hi
    simpa [List.getD, hi] using this
theorem lstC_none {l : List Ch} (h : lstC l = none) : l = [] := by
  unfold lstC at h
  split at h
  · exact List.length_eq_zero_iff.1 (by assumption)
  · cases h
theorem mem_chainsC {rec : Int → Int → Option Ch} {age it y : Int} {r : Nat → Pp} {c : Ch} : ∀ {m i : Nat}, i < m → holdsV it y (r i) age = true → rec (r i).by_ (r i).yr = some c → linkC y i (r i) c ∈ chainsC rec age it y r m
  | 0, i, h, _, _ => absurd h (Nat.not_lt_zero _)
  | m + 1, i, h, h1, h2 => by
    rw [chainsC, List.mem_append]
    rcases Nat.lt_or_ge i m with h3 | h3
    · exact .inl (mem_chainsC h3 h1 h2)
    · obtain rfl : i = m := by omega
      right
      simp [oneC, h1, h2]

/-! ### Chains -/
inductive WalkC (ag : Int) (n : Nat) (r : Nat → Pp) : Int → Int → Ch → Prop
  | nil {y : Int} : WalkC ag n r (-1) y ch0
  | cons {it y : Int} {i : Nat} {c : Ch} (h0 : it ≠ -1) (h1 : i < n) (h2 : holdsV it y (r i) ag = true) (h3 : WalkC ag n r (r i).by_ (r i).yr c) : WalkC ag n r it y (linkC y i (r i) c)
theorem walkC_pos {ag : Int} {n : Nat} {r : Nat → Pp} {it y : Int} {c : Ch} (h : WalkC ag n r it y c) (h0 : it ≠ -1) : 0 < c.ps.length := by
  cases h with
  | nil => exact absurd rfl h0
  | cons => simp [linkC]
theorem bestW_some {ag : Int} {n : Nat} {r : Nat → Pp} : ∀ (k : Nat) (it y : Int) (b : Ch), bestW ag n r k it y = some b → WalkC ag n r it y b ∧ b.ps.length ≤ k
  | 0, it, y, b, h => by
    unfold bestW at h
    split at h
    · rename_i e; subst e; cases h; exact ⟨.nil, by simp [ch0]⟩
    · cases h
  | k + 1, it, y, b, h => by
    unfold bestW at h
    split at h
    · rename_i e; subst e; cases h; exact ⟨.nil, by simp [ch0]⟩
    · rename_i e
      obtain ⟨i, hi, hh, c', e2, rfl⟩ := chainsC_mem (lstC_mem h)
      obtain ⟨h1, h2⟩ := bestW_some k _ _ c' e2
      exact ⟨.cons e hi hh h1, by simp only [linkC, List.length_cons]; omega⟩
theorem bestW_le {ag : Int} {n : Nat} {r : Nat → Pp} : ∀ (k : Nat) (it y : Int) (c : Ch), WalkC ag n r it y c → c.ps.length ≤ k → ∃ b, bestW ag n r k it y = some b ∧ lessV c b = false
  | 0, it, y, c, h, hl => by
    cases h with
    | nil => exact ⟨ch0, by unfold bestW; rw [if_pos rfl], lessV_self _⟩
    | cons => simp [linkC] at hl
  | k + 1, it, y, c, h, hl => by
    cases h with
    | nil => exact ⟨ch0, by unfold bestW; rw [if_pos rfl], lessV_self _⟩
    | @cons it y i c h0 h1 h2 h3 =>
      obtain ⟨b, e, hb⟩ := bestW_le k _ _ c h3 (by simp only [linkC, List.length_cons] at hl; omega)
      have hm := mem_chainsC (age := ag) (it := it) (y := y) h1 h2 e
      unfold bestW
      rw [if_neg h0]
      cases e2 : lstC (chainsC (bestW ag n r k) ag it y r n) with
      | none => rw [lstC_none e2] at hm; cases hm
      | some b2 =>
        refine ⟨b2, rfl, ?_⟩
        have h4 := lstC_le e2 _ hm
        rw [← Bool.not_eq_true]
        intro h5
        rw [lessV_of_le (link_le hb) h5] at h4
        cases h4

/-! ### A chain that comes by a certificate twice is not the least -/
def PpB (ag : Int) (n : Nat) (r : Nat → Pp) : Prop := ∀ i, i < n → 0 ≤ (r i).wr ∧ 0 ≤ (r i).dr
theorem adds_nonneg {ag it y : Int} {x : Pp} (h : 0 ≤ x.wr ∧ 0 ≤ x.dr) (hh : holdsV it y x ag = true) : 0 ≤ addsV y x := by
  have hh : (decide (x.of = it) && (decide (x.yr ≤ y) && decide (y ≤ x.yr + ag))) = true := hh
  simp only [Bool.and_eq_true, decide_eq_true_eq] at hh
  have := Int.mul_nonneg h.2 (show 0 ≤ y - x.yr by omega)
  unfold addsV
  omega
theorem walkC_w {ag : Int} {n : Nat} {r : Nat → Pp} (hr : PpB ag n r) {it y : Int} {c : Ch} (h : WalkC ag n r it y c) : 0 ≤ c.w := by
  induction h with
  | nil => simp [ch0]
  | cons h0 h1 h2 h3 ih =>
    have := adds_nonneg (hr _ h1) h2
    simp only [linkC]
    omega
theorem walkC_mem {ag : Int} {n : Nat} {r : Nat → Pp} {it y : Int} {c : Ch} (h : WalkC ag n r it y c) : ∀ v ∈ c.ps, ∃ j : Nat, j < n ∧ v = (j : Int) := by
  induction h with
  | nil => intro v hv; cases hv
  | cons h0 h1 h2 h3 ih =>
    intro v hv
    rcases List.mem_cons.1 hv with rfl | hv
    · exact ⟨_, h1, rfl⟩
    · exact ih v hv
theorem walkC_from {ag : Int} {n : Nat} {r : Nat → Pp} (hr : PpB ag n r) {it y : Int} {c : Ch} (h : WalkC ag n r it y c) : ∀ j : Nat, (j : Int) ∈ c.ps → ∃ c2, WalkC ag n r (r j).by_ (r j).yr c2 ∧ c2.ps.length < c.ps.length ∧ c2.w ≤ c.w := by
  induction h with
  | nil => intro j hj; cases hj
  | @cons it y i c h0 h1 h2 h3 ih =>
    intro j hj
    have ha := adds_nonneg (hr _ h1) h2
    rcases List.mem_cons.1 hj with e | hj
    · have : j = i := by omega
      subst this
      exact ⟨c, h3, by simp [linkC], by simp only [linkC]; omega⟩
    · obtain ⟨c2, k1, k2, k3⟩ := ih j hj
      exact ⟨c2, k1, by simp only [linkC, List.length_cons]; omega, by simp only [linkC]; omega⟩
theorem walkC_cut {ag : Int} {n : Nat} {r : Nat → Pp} (hr : PpB ag n r) {it y : Int} {c : Ch} (h : WalkC ag n r it y c) : ¬ c.ps.Nodup → ∃ c2, WalkC ag n r it y c2 ∧ c2.ps.length < c.ps.length ∧ c2.w ≤ c.w := by
  induction h with
  | nil => intro hn; exact (hn List.nodup_nil).elim
  | @cons it y i c h0 h1 h2 h3 ih =>
    intro hn
    by_cases hm : (i : Int) ∈ c.ps
    · obtain ⟨c2, k1, k2, k3⟩ := walkC_from hr h3 i hm
      exact ⟨_, .cons h0 h1 h2 k1, by simp only [linkC, List.length_cons]; omega, by simp only [linkC]; omega⟩
    · have hn2 : ¬ c.ps.Nodup := fun h => hn (List.nodup_cons.2 ⟨hm, h⟩)
      obtain ⟨c2, k1, k2, k3⟩ := ih hn2
      exact ⟨_, .cons h0 h1 h2 k1, by simp only [linkC, List.length_cons]; omega, by simp only [linkC]; omega⟩
theorem nodup_le : ∀ {n : Nat} {l : List Int}, l.Nodup → (∀ v ∈ l, ∃ j : Nat, j < n ∧ v = (j : Int)) → l.length ≤ n
  | 0, l, _, h => by
    cases l with
    | nil => exact Nat.le_refl _
    | cons a r =>
      obtain ⟨j, hj, _⟩ := h a List.mem_cons_self
      omega
  | n + 1, l, hl, h => by
    by_cases hm : (n : Int) ∈ l
    · have h1 := List.length_erase_of_mem hm
      have h2 := nodup_le (n := n) (l := l.erase (n : Int)) (hl.erase _) (fun v hv => by
        obtain ⟨h3, h4⟩ := (hl.mem_erase_iff).1 hv
        obtain ⟨j, hj, rfl⟩ := h v h4
        exact ⟨j, by
          rcases Nat.lt_or_ge j n with h5 | h5
          · exact h5
          · exact (h3 (by congr 1; omega)).elim, rfl⟩)
      have := List.length_pos_of_mem hm
      omega
    · have h2 := nodup_le (n := n) (l := l) hl (fun v hv => by
        obtain ⟨j, hj, rfl⟩ := h v hv
        exact ⟨j, by
          rcases Nat.lt_or_ge j n with h5 | h5
          · exact h5
          · exact (hm (by have : j = n := by omega
                          rw [← this]; exact hv)).elim, rfl⟩)
      omega
theorem walkC_short {ag : Int} {n : Nat} {r : Nat → Pp} (hr : PpB ag n r) {it y : Int} : ∀ (m : Nat) (c : Ch), c.ps.length ≤ m → WalkC ag n r it y c → ∃ c2, WalkC ag n r it y c2 ∧ c2.ps.length ≤ n ∧ lessV c c2 = false ∧ c2.ps.length ≤ c.ps.length ∧ c2.w ≤ c.w
  | 0, c, hm, h => ⟨c, h, by omega, lessV_self _, Nat.le_refl _, Int.le_refl _⟩
  | m + 1, c, hm, h => by
    by_cases hn : c.ps.Nodup
    · exact ⟨c, h, nodup_le hn (walkC_mem h), lessV_self _, Nat.le_refl _, Int.le_refl _⟩
    · obtain ⟨c2, h1, h2, h3⟩ := walkC_cut hr h hn
      obtain ⟨c3, k1, k2, k3, k4, k5⟩ := walkC_short hr m c2 (by omega) h1
      have hl : lessV c3 c = true := by
        rw [lessV_iff]
        omega
      exact ⟨c3, k1, k2, lessV_asymm hl, by omega, by omega⟩
/-- The best of all chains. -/
def bst (ag : Int) (n : Nat) (r : Nat → Pp) (it y : Int) : Option Ch := bestW ag n r n it y
theorem bst_some {ag : Int} {n : Nat} {r : Nat → Pp} {it y : Int} {b : Ch} (h : bst ag n r it y = some b) : WalkC ag n r it y b := (bestW_some n it y b h).1
theorem bst_le {ag : Int} {n : Nat} {r : Nat → Pp} (hr : PpB ag n r) {it y : Int} {c : Ch} (h : WalkC ag n r it y c) : ∃ b, bst ag n r it y = some b ∧ lessV c b = false := by
  obtain ⟨c2, h1, h2, h3, _⟩ := walkC_short hr _ c (Nat.le_refl _) h
  obtain ⟨b, e, hb⟩ := bestW_le n it y c2 h1 h2
  refine ⟨b, e, ?_⟩
  rw [← Bool.not_eq_true]
  intro h4
  rw [lessV_of_le h3 h4] at hb
  cases hb
theorem bst_none {ag : Int} {n : Nat} {r : Nat → Pp} (hr : PpB ag n r) {it y : Int} (h : bst ag n r it y = none) (c : Ch) : ¬ WalkC ag n r it y c := fun hc => by
  obtain ⟨b, e, _⟩ := bst_le hr hc
  rw [h] at e
  cases e
/-- How wrong an item can be: of all chains the least. -/
theorem bst_w {ag : Int} {n : Nat} {r : Nat → Pp} (hr : PpB ag n r) {it y : Int} {b c : Ch} (h : bst ag n r it y = some b) (hc : WalkC ag n r it y c) : b.w ≤ c.w := by
  obtain ⟨b2, e, hb⟩ := bst_le hr hc
  rw [h] at e
  cases e
  rcases Int.lt_or_le c.w b.w with h1 | h1
  · have : lessV c b = true := by rw [lessV_iff]; exact .inl h1
    rw [this] at hb; cases hb
  · exact h1
end Go.X.Ps
end

section
set_option linter.unusedVariables false
set_option linter.unusedSimpArgs false
set_option linter.unusedSectionVars false
/- Pass: what is known of a state, the region of the recursion's first call. -/
set_option linter.unusedVariables false
set_option linter.unusedSimpArgs false
set_option maxRecDepth 10000
set_option maxHeartbeats 4000000
namespace Go.X.Ps
open Go Go.Proofs Go.X

theorem s75 {it ag : Int} {n : Nat} {r : Nat → Pp} {om : List (SV × SV)} (hr : PpOk ag n r) : ∀ k, k ≤ 100 → Ih it ag n r om k
  | 0, _ => fun hK hk => s75_0 hK hk
  | k + 1, h => fun hK hk => s75_s (by omega) hr (s75 hr k (by omega)) hK hk

noncomputable def ops7 : Array Oper := regO 7 (code Try.f52)
def arr7 (l : List Bool) : Array Bool := ((List.range 16).map fun j => if j < 14 then l.getD j false else false).toArray
def arr71 (l : List Bool) : Array Bool := ((List.range 16).map fun j => if j < 14 then l.getD j false else if j = 14 then true else false).toArray
def anc7 : Nat → List Nat
  | 1 => [0]
  | 2 => [1]
  | 3 => [2]
  | 8 => [7]
  | 9 => [8]
  | 10 => [9]
  | 11 => [10]
  | 12 => [11]
  | 13 => [6, 12]
  | _ => []
theorem lat7 : (clL anc7 14).all (latC ops7 14 arr7 arr71 (fun i => i) 14 anc7 [5, 13]) = true := by kernel_rfl
def ex7 (l : List Bool) : Bool := (List.range 14).all fun j => l.getD j false
theorem lat71 : (clL anc7 14).all (latX ops7 14 arr71 (fun i => i) ex7 anc7) = true := by kernel_rfl
theorem anc7_lt : ∀ i, ∀ j ∈ anc7 i, j < i := by
  intro i j hj
  unfold anc7 at hj
  split at hj <;> simp at hj <;> omega
theorem anc7_m : ∀ i, i < 14 → ∀ j ∈ anc7 i, j < 14 := fun i hi j hj => by have := anc7_lt i j hj; omega

def ofH (it ag : Int) (n : Nat) (r : Nat → Pp) (es : List (Ks × Option Cv)) (C : Fam) : List (Nat × HB) :=
  [(0, .ro 5 n fun i => ppC (r i)), (1, .cells 108 (ofC 0 2 it ag)), (2, .mp (encM encS encT es)), (3, .fam 1 C)]
def slo7 (x y : Int) (n : Nat) : Nat → List (Nat × FE)
  | 0 => [(22, ⟨[], .sp 1 0⟩)]
  | 1 => [(23, ⟨[], .sp 1 0⟩)]
  | 2 => [(24, ⟨[], .sp 1 3⟩)]
  | 3 => [(25, ⟨[], .sm 2⟩)]
  | 4 => [(26, ⟨[], .agg [.si .i64 x, .si .i64 y]⟩)]
  | 5 => [(27, ⟨[], .fn (.func 75) [] [.sp 27 0, .sp 4 0, .sp 28 0]⟩)]
  | 6 => [(28, ⟨[], .agg [.si .i64 x, .si .i64 y]⟩)]
  | 7 => [(29, ⟨[], .sp 1 0⟩)]
  | 8 => [(30, ⟨[], .sp 1 0⟩)]
  | 9 => [(31, ⟨[], .sp 1 0⟩)]
  | 10 => [(32, ⟨[], .sp 1 2⟩)]
  | 11 => [(33, ⟨[], .sl 0⟩)]
  | 12 => [(34, ⟨[], .si .i64 n⟩)]
  | 13 => [(35, ⟨[], .agg [.si .i64 x, .si .i64 y, .si .i64 n]⟩)]
  | _ => []
def base7 : List (Nat × FE) := [(2, ⟨[], .sp 4 0⟩), (3, ⟨[], .sp 5 0⟩), (7, ⟨[], .sp 27 0⟩), (8, ⟨[], .sp 28 0⟩)]
def H7 (it ag : Int) (n : Nat) (r : Nat → Pp) (es : List (Ks × Option Cv)) (C : Fam) (x y : Int) : List (Nat × HB) :=
  [(26, .mp []), (27, .cells 109 [.sm 26]), (28, .cells 110 [.fn (.func 75) [] [.sp 27 0, .sp 4 0, .sp 28 0]]), (5, .cells 80 [.si .i64 x, .si .i64 y]), (4, .cells 63 [.sp 1 0])] ++ ofH it ag n r es C
def H71 (it ag : Int) (n : Nat) (r : Nat → Pp) (es : List (Ks × Option Cv)) (C : Fam) (x y : Int) (C' : Fam) (ks : List (Ky × Option Cv)) : List (Nat × HB) :=
  [(0, .ro 5 n fun i => ppC (r i)), (1, .cells 108 (ofC 0 2 it ag)), (2, .mp (encM encS encT es)), (4, .cells 63 [.sp 1 0]), (27, .cells 109 [.sm 26]), (28, .cells 110 [.fn (.func 75) [] [.sp 27 0, .sp 4 0, .sp 28 0]]), (26, .mp (encM encK encT ks)), (3, .fam 1 C')] ++ H7 it ag n r es C x y
noncomputable abbrev X7 (G : Base) : Cx := ⟨P, T, tabC [], G, none, Try.f52.ntmps⟩
theorem x7_ok {G : Base} : (X7 G).Ok := good0.ok _ _ _
theorem reg7 {G : Base} {it ag : Int} {n : Nat} {r : Nat → Pp} {es : List (Ks × Option Cv)} {C : Fam} {x y : Int} {K : Ex → St → Prop} (hr : PpOk ag n r)
    (hk : ∀ (C' : Fam) ks v, (∀ v n g, C v n g → C' v n g) → v.map Cv.ch = bst ag n r x y → (∀ c, v = some c → tells C' c) →
      K .normal ⟨slF (slo7 x y n) ((36, ⟨[], encT v⟩) :: base7) (List.replicate 14 true), [], (2, .mp (encM encS encT (updA es ⟨x, y⟩ v))) :: H71 it ag n r es C x y C' ks, 29, []⟩) :
    AnyS (X7 G) ops7 16 (Array.replicate 16 false) ⟨base7, [], H7 it ag n r es C x y, 29, []⟩ K := by
  refine any_latC (ι := BsE it ag n r C x y n) x7_ok 14 arr7 arr71 (fun i => i) 14 (slo7 x y n) base7 (fun p => [(36, ⟨[], encT p.1.2.2⟩)]) (H7 it ag n r es C x y) 29 (fun p => H71 it ag n r es C x y p.1.1 p.1.2.1) 29 anc7 [5, 13] 1 anc7_m (by decide) (latC_of anc7_lt lat7) ?_ ?_ ?_ ?_ ?_ (List.replicate 14 false) rfl (by decide)
  · repeat' (first | exact trivial | exact ⟨rfl, rfl⟩ | refine And.intro ?_ ?_)
  · intro p
    repeat' (first | exact trivial | exact ⟨rfl, rfl⟩ | refine And.intro ?_ ?_)
  · intro i hi
    rcases (show i = 0 ∨ i = 1 ∨ i = 2 ∨ i = 3 ∨ i = 4 ∨ i = 5 ∨ i = 6 ∨ i = 7 ∨ i = 8 ∨ i = 9 ∨ i = 10 ∨ i = 11 ∨ i = 12 ∨ i = 13 by omega) with rfl | rfl | rfl | rfl | rfl | rfl | rfl | rfl | rfl | rfl | rfl | rfl | rfl | rfl <;> exact ⟨_, rfl, rfl, fun tail Q Kn hC hK => hK⟩
  · refine ⟨_, rfl, rfl, fun tail Q Kn hC hK => ?_⟩
    refine fb_call x7_ok hC rfl rfl rfl rfl ⟨b75, ?_⟩
    refine callS_at (bsA x y (n : Int)) (bsH it ag n r (encM encS encT es) C []) 8 (fun j => match j with | 3 => 4 | 4 => 27 | 5 => 28 | 6 => 26 | 7 => 3 | j => j) (by repeat' (first | exact trivial | exact rfl | refine And.intro ?_ ?_)) rfl (by repeat' (first | exact trivial | exact rfl | exact List.Perm.refl _ | (intro i hi; exact ⟨rfl, rfl⟩) | (intro v m g h; exact h) | refine And.intro ?_ ?_)) rfl rfl ?_
    refine s75 hr n (by have := hr.1; omega) (fun k v h => by cases h) fun C2 es2 v hC2 hK2 hv hvt => ?_
    refine ⟨rfl, (by repeat' (first | exact trivial | exact rfl | refine And.intro ?_ ?_)), (by repeat' (first | exact trivial | exact rfl | (intro i hi; exact rfl) | refine And.intro ?_ ?_)), ?_⟩
    have h := hK ⟨(C2, es2, v), hC2, hK2, hv, hvt⟩
    cases v with
    | none => exact h
    | some c => exact h
  · rintro ⟨⟨C2, es2, v⟩, hC2, hK2, hv, hvt⟩ l hl hcl
    refine any_latX x7_ok 14 arr71 (fun i => i) ex7 (slo7 x y n) ((36, ⟨[], encT v⟩) :: base7) (fun _ => H71 it ag n r es C x y C2 es2) (fun _ => 29) anc7 1 anc7_m (latX_of anc7_lt lat71) ?_ ?_ ?_ l hl hcl
    · repeat' (first | exact trivial | exact ⟨rfl, rfl⟩ | refine And.intro ?_ ?_)
    · intro i hi l hl hf ha hcl
      rcases (show i = 0 ∨ i = 1 ∨ i = 2 ∨ i = 3 ∨ i = 4 ∨ i = 5 ∨ i = 6 ∨ i = 7 ∨ i = 8 ∨ i = 9 ∨ i = 10 ∨ i = 11 ∨ i = 12 ∨ i = 13 by omega) with rfl | rfl | rfl | rfl | rfl | rfl | rfl | rfl | rfl | rfl | rfl | rfl | rfl | rfl <;> exact ⟨_, rfl, rfl, fun tail Q Kn hC hK => hK⟩
    · intro l hl he
      match l, hl, he with
      | [a0, a1, a2, a3, a4, a5, a6, a7, a8, a9, a10, a11, a12, a13], _, he =>
        have he : (a0 && (a1 && (a2 && (a3 && (a4 && (a5 && (a6 && (a7 && (a8 && (a9 && (a10 && (a11 && (a12 && (a13 && true)))))))))))))) = true := he
        simp only [Bool.and_eq_true] at he
        obtain ⟨rfl, rfl, rfl, rfl, rfl, rfl, rfl, rfl, rfl, rfl, rfl, rfl, rfl, rfl, -⟩ := he
        refine any_step [15] x7_ok (by kernel_rfl) (by decide) ⟨?_, trivial⟩
        refine fb_update encS encT es ⟨x, y⟩ v _ rfl 2 x7_ok cont_any rfl (.inl rfl) rfl rfl rfl rfl encS_key encT_cl rfl rfl rfl rfl ?_
        intro _
        exact any_done (by kernel_rfl) (hk C2 es2 v hC2 hv hvt)
end Go.X.Ps
end

section
set_option linter.unusedVariables false
set_option linter.unusedSimpArgs false
set_option linter.unusedSectionVars false
/- Pass: what is known of a state: trace. -/
set_option linter.unusedVariables false
set_option linter.unusedSimpArgs false
set_option maxRecDepth 10000
set_option maxHeartbeats 4000000
namespace Go.X.Ps
open Go Go.Proofs Go.X

/-- What is kept is right. -/
def KtOk (ag : Int) (n : Nat) (r : Nat → Pp) (C : Fam) (es : List (Ks × Option Cv)) : Prop :=
  ∀ k v, lookA es k = some v → v.map Cv.ch = bst ag n r k.it k.y ∧ ∀ c, v = some c → tells C c
theorem KtOk.mono {ag : Int} {n : Nat} {r : Nat → Pp} {C C' : Fam} {es : List (Ks × Option Cv)} (hk : KtOk ag n r C es) (h : ∀ v n g, C v n g → C' v n g) : KtOk ag n r C' es :=
  fun k v e => ⟨(hk k v e).1, fun c hc => tells_mono h ((hk k v e).2 c hc)⟩
theorem KtOk.upd {ag : Int} {n : Nat} {r : Nat → Pp} {C : Fam} {es : List (Ks × Option Cv)} (hk : KtOk ag n r C es) {k : Ks} {v : Option Cv} (h1 : v.map Cv.ch = bst ag n r k.it k.y) (h2 : ∀ c, v = some c → tells C c) : KtOk ag n r C (updA es k v) := by
  intro k' v' e
  rw [lookA_updA] at e
  split at e
  · rename_i h
    cases e; subst h
    exact ⟨h1, h2⟩
  · exact hk k' v' e
theorem KtOk.nil {ag : Int} {n : Nat} {r : Nat → Pp} {C : Fam} : KtOk ag n r C [] := fun k v h => by cases h
noncomputable def ops1 : Array Oper := regO 1 (code Try.f52)
def arr1 (l : List Bool) : Array Bool := ((List.range 11).map fun j => if j < 5 then l.getD j false else false).toArray
def anc1 : Nat → List Nat
  | 1 => [0]
  | 2 => [1]
  | 3 => [2]
  | _ => []
def ex1 (l : List Bool) : Bool := (List.range 5).all fun j => l.getD j false
theorem anc1_lt : ∀ i, ∀ j ∈ anc1 i, j < i := by
  intro i j hj
  unfold anc1 at hj
  split at hj <;> simp at hj <;> omega
theorem lat1 : (clL anc1 5).all (latX ops1 5 arr1 (fun i => i) ex1 anc1) = true := by kernel_rfl
def slo1 (x y : Int) : Nat → List (Nat × FE)
  | 0 => [(10, ⟨[], .sp 1 0⟩)]
  | 1 => [(11, ⟨[], .sp 1 0⟩)]
  | 2 => [(12, ⟨[], .sp 1 3⟩)]
  | 3 => [(13, ⟨[], .sm 2⟩)]
  | 4 => [(14, ⟨[], .agg [.si .i64 x, .si .i64 y]⟩)]
  | _ => []
def base1 : List (Nat × FE) := [(2, ⟨[], .sp 4 0⟩), (3, ⟨[], .sp 5 0⟩)]
def H1 (it ag : Int) (n : Nat) (r : Nat → Pp) (es : List (Ks × Option Cv)) (C : Fam) (x y : Int) : List (Nat × HB) :=
  [(5, .cells 80 [.si .i64 x, .si .i64 y]), (4, .cells 63 [.sp 1 0])] ++ ofH it ag n r es C
theorem reg1 {G : Base} {it ag : Int} {n : Nat} {r : Nat → Pp} {es : List (Ks × Option Cv)} {C : Fam} {x y : Int} {K : Ex → St → Prop}
    (hk : AnyS (X7 G) ops1 6 (arr1 (List.replicate 5 true)) ⟨slF (slo1 x y) base1 (List.replicate 5 true), [], H1 it ag n r es C x y, 26, []⟩ K) :
    AnyS (X7 G) ops1 11 (Array.replicate 11 false) ⟨base1, [], H1 it ag n r es C x y, 26, []⟩ K := by
  refine any_latX x7_ok 5 arr1 (fun i => i) ex1 (slo1 x y) base1 (fun _ => H1 it ag n r es C x y) (fun _ => 26) anc1 6 (fun i hi j hj => by have := anc1_lt i j hj; omega) (latX_of anc1_lt lat1) ?_ ?_ ?_ (List.replicate 5 false) rfl (by decide)
  · repeat' (first | exact trivial | exact ⟨rfl, rfl⟩ | refine And.intro ?_ ?_)
  · intro i hi l hl hf ha hcl
    rcases (show i = 0 ∨ i = 1 ∨ i = 2 ∨ i = 3 ∨ i = 4 by omega) with rfl | rfl | rfl | rfl | rfl <;> exact ⟨_, rfl, rfl, fun tail Q Kn hC hK => hK⟩
  · intro l hl he
    match l, hl, he with
    | [a0, a1, a2, a3, a4], _, he =>
      have he : (a0 && (a1 && (a2 && (a3 && (a4 && true))))) = true := he
      simp only [Bool.and_eq_true] at he
      obtain ⟨rfl, rfl, rfl, rfl, rfl, -⟩ := he
      exact hk
def TrE (ag : Int) (n : Nat) (r : Nat → Pp) (C : Fam) (x y : Int) : Type := {p : Fam × List (Ks × Option Cv) × Option Cv // (∀ v n g, C v n g → p.1 v n g) ∧ KtOk ag n r p.1 p.2.1 ∧ p.2.2.map Cv.ch = bst ag n r x y ∧ ∀ c, p.2.2 = some c → tells p.1 c}
theorem b52 : Body P 52 := body_of Try.func52 (c := code Try.f52) rfl (by decide)
theorem s52 {it ag : Int} {n : Nat} {r : Nat → Pp} {es : List (Ks × Option Cv)} {C : Fam} {x y : Int} (hr : PpOk ag n r) (hK : KtOk ag n r C es) {Rv : SV → List (Nat × HB) → Nat → Prop} {Rp : List PanicEntry → List (Nat × HB) → Nat → Prop}
    (hk : ∀ (C' : Fam) es' v, (∀ v n g, C v n g → C' v n g) → KtOk ag n r C' es' → v.map Cv.ch = bst ag n r x y → (∀ c, v = some c → tells C' c) → Rv (encT v) (ofH it ag n r es' C') 4) :
    CallS P 52 [.sp 1 0, .agg [.si .i64 x, .si .i64 y]] (ofH it ag n r es C) 4 Rv Rp := by
  refine callS_toE (ι := TrE ag n r C x y) (T := T) good0.ok Try.func52 (c := code Try.f52) rfl (Nat.le_of_ble_eq_true rfl) (fun p => encT p.1.2.2) (fun p => ofH it ag n r p.1.2.1 p.1.1) 4 (fun G hG => ?_) (fun p => hk _ _ _ p.2.1 p.2.2.1 p.2.2.2.1 p.2.2.2.2)
  refine (show SemC _ _ _ _ from ?_)
  refine any_region fol ?_
  refine any_weaken (st' := ⟨base1, [], H1 it ag n r es C x y, 26, []⟩) 4 (fun j => j) hG (by
    refine ⟨?_, ?_, injI_id _, rfl, rfl, rfl, trivial⟩
    · repeat' (first | exact trivial | exact rfl | refine And.intro ?_ ?_)
    · repeat' (first | exact trivial | exact rfl | exact List.Perm.refl _ | (intro i hi; exact ⟨rfl, rfl⟩) | (intro v m g h; exact h) | refine And.intro ?_ ?_)) ?_
  refine reg1 ?_
  refine any_step [5] x7_ok (by kernel_rfl) (by decide) ⟨?_, trivial⟩
  refine fb_lookup encS encT es ⟨x, y⟩ 2 x7_ok cont_any rfl rfl rfl rfl rfl rfl rfl rfl rfl encS_key encT_cl rfl rfl rfl ?_
  intro hnd
  refine ⟨fun v hv => ?_, fun hv => ?_⟩
  · have hv' := hK _ _ hv
    cases v with
    | none =>
      refine any_take 6 x7_ok rfl rfl rfl rfl rfl rfl rfl (by kernel_rfl) (by kernel_rfl) (by kernel_rfl) ?_
      refine any_take 7 x7_ok rfl rfl rfl rfl rfl rfl rfl (by kernel_rfl) (by kernel_rfl) (by kernel_rfl) ?_
      refine any_take 8 x7_ok rfl rfl rfl rfl rfl rfl rfl (by kernel_rfl) (by kernel_rfl) (by kernel_rfl) ?_
      refine any_take 9 x7_ok rfl rfl rfl rfl rfl rfl rfl (by kernel_rfl) (by kernel_rfl) (by kernel_rfl) ?_
      refine any_take 10 x7_ok rfl rfl rfl rfl rfl rfl rfl (by kernel_rfl) (by kernel_rfl) (by kernel_rfl) ?_
      refine any_done (by kernel_rfl) ?_
      refine Br.mk (fun _ => ?_) (fun h => by cases h)
      refine ⟨⟨(C, es, none), fun _ _ _ h => h, hK, hv'.1, hv'.2⟩, (fun j => j), ?_, ?_, rfl, rfl, rfl, rfl⟩ <;> repeat' (first | exact trivial | exact rfl | exact List.Perm.refl _ | (intro i hi; exact ⟨rfl, rfl⟩) | (intro v m g h; exact h) | refine And.intro ?_ ?_)
    | some c =>
    refine any_take 6 x7_ok rfl rfl rfl rfl rfl rfl rfl (by kernel_rfl) (by kernel_rfl) (by kernel_rfl) ?_
    refine any_take 7 x7_ok rfl rfl rfl rfl rfl rfl rfl (by kernel_rfl) (by kernel_rfl) (by kernel_rfl) ?_
    refine any_take 8 x7_ok rfl rfl rfl rfl rfl rfl rfl (by kernel_rfl) (by kernel_rfl) (by kernel_rfl) ?_
    refine any_take 9 x7_ok rfl rfl rfl rfl rfl rfl rfl (by kernel_rfl) (by kernel_rfl) (by kernel_rfl) ?_
    refine any_take 10 x7_ok rfl rfl rfl rfl rfl rfl rfl (by kernel_rfl) (by kernel_rfl) (by kernel_rfl) ?_
    refine any_done (by kernel_rfl) ?_
    refine Br.mk (fun _ => ?_) (fun h => by cases h)
    refine ⟨⟨(C, es, some c), fun _ _ _ h => h, hK, hv'.1, hv'.2⟩, (fun j => j), ?_, ?_, rfl, rfl, rfl, rfl⟩ <;> repeat' (first | exact trivial | exact rfl | exact List.Perm.refl _ | (intro i hi; exact ⟨rfl, rfl⟩) | (intro v m g h; exact h) | refine And.intro ?_ ?_)
  refine any_take 6 x7_ok rfl rfl rfl rfl rfl rfl rfl (by kernel_rfl) (by kernel_rfl) (by kernel_rfl) ?_
  refine any_take 7 x7_ok rfl rfl rfl rfl rfl rfl rfl (by kernel_rfl) (by kernel_rfl) (by kernel_rfl) ?_
  refine any_take 8 x7_ok rfl rfl rfl rfl rfl rfl rfl (by kernel_rfl) (by kernel_rfl) (by kernel_rfl) ?_
  refine any_take 9 x7_ok rfl rfl rfl rfl rfl rfl rfl (by kernel_rfl) (by kernel_rfl) (by kernel_rfl) ?_
  refine any_take 10 x7_ok rfl rfl rfl rfl rfl rfl rfl (by kernel_rfl) (by kernel_rfl) (by kernel_rfl) ?_
  refine any_done (by kernel_rfl) ?_
  refine Br.mk (fun h => by cases h) (fun _ => ?_)
  refine fb_makeMap x7_ok cont_std rfl rfl rfl rfl rfl ?_
  refine (show SemC _ _ _ _ from ?_)
  refine any_region fol ?_
  refine any_weaken (st' := ⟨base7, [], H7 it ag n r es C x y, 29, []⟩) 4 (fun j => j) hG (by
    refine ⟨?_, ?_, injI_id _, rfl, rfl, rfl, trivial⟩
    · repeat' (first | exact trivial | exact rfl | refine And.intro ?_ ?_)
    · repeat' (first | exact trivial | exact rfl | exact List.Perm.refl _ | (intro i hi; exact ⟨rfl, rfl⟩) | (intro v m g h; exact h) | refine And.intro ?_ ?_)) ?_
  refine reg7 hr fun C2 ks v hC2 hv hvt => ?_
  have hK2 : KtOk ag n r C2 (updA es ⟨x, y⟩ v) := (hK.mono hC2).upd hv hvt
  refine drawn_ok x7_ok fol [0,1,3,7,0,31,63] [] 5 (by kernel_rfl) ?_
  refine fb_lookup encS encT (updA es ⟨x, y⟩ v) ⟨x, y⟩ 2 x7_ok cont_std rfl rfl rfl rfl rfl rfl rfl rfl rfl encS_key encT_cl rfl rfl rfl ?_
  intro hnd2
  refine ⟨fun v2 hv2 => ?_, fun hv2 => ?_⟩
  · rw [lookA_updA, if_pos rfl] at hv2
    cases hv2
    cases v with
    | none => refine ⟨⟨(C2, updA es ⟨x, y⟩ none, none), hC2, hK2, hv, hvt⟩, (fun j => j), ?_, ?_, rfl, rfl, rfl, rfl⟩ <;> repeat' (first | exact trivial | exact rfl | exact List.Perm.refl _ | (intro i hi; exact ⟨rfl, rfl⟩) | (intro v m g h; exact h) | refine And.intro ?_ ?_)
    | some c => refine ⟨⟨(C2, updA es ⟨x, y⟩ (some c), some c), hC2, hK2, hv, hvt⟩, (fun j => j), ?_, ?_, rfl, rfl, rfl, rfl⟩ <;> repeat' (first | exact trivial | exact rfl | exact List.Perm.refl _ | (intro i hi; exact ⟨rfl, rfl⟩) | (intro v m g h; exact h) | refine And.intro ?_ ?_)
  · exfalso
    rw [lookA_updA, if_pos rfl] at hv2
    cases hv2
end Go.X.Ps
end
