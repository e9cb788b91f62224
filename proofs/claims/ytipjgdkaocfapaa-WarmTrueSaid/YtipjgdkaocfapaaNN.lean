/- Readings of a set, and the least set that clashes. -/
import Derived.Test.YtipjgdkaocfapaaNI

section
set_option linter.unusedVariables false
set_option linter.unusedSimpArgs false
set_option linter.unusedSectionVars false
/- Warm: a block with the readings of a set alone; the least set that clashes, plainly. -/
set_option linter.unusedVariables false
set_option linter.unusedSimpArgs false
set_option maxRecDepth 10000
set_option maxHeartbeats 1000000
namespace Go.X.W
open Go Go.Proofs Go.X

/-- The readings of a set, of the first so many. -/
def subL (rd : Nat → Rd) (s : Nat) : Nat → List Rd
  | 0 => []
  | i + 1 => if s.testBit i = true then subL rd s i ++ [rd i] else subL rd s i
theorem subL_len (rd : Nat → Rd) (s : Nat) : ∀ i, (subL rd s i).length ≤ i
  | 0 => Nat.le_refl _
  | i + 1 => by
    have := subL_len rd s i
    simp only [subL]
    split
    · rw [List.length_append]; simp; omega
    · omega
theorem subL_mem {rd : Nat → Rd} {s : Nat} {x : Rd} : ∀ {i}, x ∈ subL rd s i ↔ ∃ j, j < i ∧ s.testBit j = true ∧ rd j = x
  | 0 => by simp [subL]
  | i + 1 => by
    have ih := subL_mem (rd := rd) (s := s) (x := x) (i := i)
    simp only [subL]
    split
    · rename_i h
      rw [List.mem_append, ih, List.mem_singleton]
      constructor
      · rintro (⟨j, h1, h2, h3⟩ | h1)
        · exact ⟨j, by omega, h2, h3⟩
        · exact ⟨i, by omega, h, h1.symm⟩
      · rintro ⟨j, h1, h2, h3⟩
        by_cases e : j = i
        · subst e; exact .inr h3.symm
        · exact .inl ⟨j, by omega, h2, h3⟩
    · rename_i h
      rw [ih]
      constructor
      · rintro ⟨j, h1, h2, h3⟩; exact ⟨j, by omega, h2, h3⟩
      · rintro ⟨j, h1, h2, h3⟩
        by_cases e : j = i
        · subst e; exact absurd h2 h
        · exact ⟨j, by omega, h2, h3⟩
/-- Is a number in a set, by its bit? -/
theorem hasB_bit {s i : Nat} : hasB (s : Int) i = s.testBit i := by
  unfold hasB
  rw [Int.tdiv_eq_ediv_of_nonneg (by omega), Int.tmod_eq_emod_of_nonneg (Int.ediv_nonneg (by omega) (Int.pow_nonneg (by decide)))]
  rw [Nat.testBit_eq_decide_div_mod_eq]
  have e : ((s : Int) / 2 ^ i % 2) = ((s / 2 ^ i % 2 : Nat) : Int) := by push_cast; rfl
  rw [e]
  rw [Bool.eq_iff_iff, decide_eq_true_eq, decide_eq_true_eq]
  omega
def partB (B : Blk) (rd : Nat → Rd) (s : Nat) : Blk := ⟨B.mark, B.l1, B.l2, B.c1, B.c2, subL rd s B.rs.length⟩
section
variable {B : Blk} {rd : Nat → Rd} (hrd : ∀ i, i < B.rs.length → rdGet B.rs (i : Int) = rd i)
include hrd
theorem part_pairs (s : Nat) : pairsV (partB B rd s) = pairsS B (s : Int) := by
  have e : okP B.mark (subL rd s B.rs.length) = okB' B (s : Int) := by
    funext p
    unfold okP okB' okS
    rw [Bool.eq_iff_iff, List.all_eq_true, List.all_eq_true]
    constructor
    · intro h i hi
      have hi := List.mem_range.1 hi
      rw [hasB_bit]
      cases hb : s.testBit i
      · rfl
      · have := h (rd i) (subL_mem.2 ⟨i, hi, hb, rfl⟩)
        show (!true || canV B.mark p (rdGet B.rs (i : Int))) = true
        rw [hrd i hi, this]; rfl
    · intro h x hx
      obtain ⟨j, h1, h2, rfl⟩ := subL_mem.1 hx
      have := h j (List.mem_range.2 h1)
      rw [hasB_bit, h2] at this
      have this : (!true || canV B.mark p (rdGet B.rs (j : Int))) = true := this
      rw [hrd j h1] at this
      simpa using this
  show rows (okP B.mark (subL rd s B.rs.length)) B.l1 B.c1 B.c2 (B.l2 + 1) = rows (okB' B (s : Int)) B.l1 B.c1 B.c2 (B.l2 + 1)
  rw [e]
theorem part_none (s : Nat) : decide ((pairsV (partB B rd s)).length = 0) = noneB B s := by
  unfold noneB
  rw [part_pairs hrd]
theorem part_ok (h : blkOk B = true) (s : Nat) : blkOk (partB B rd s) = true := by
  have hmem : ∀ j, j < B.rs.length → rd j ∈ B.rs := fun j hj => by
    rw [← hrd j hj]
    unfold rdGet
    rw [List.getD_eq_getElem?_getD, show ((j : Int)).toNat = j by omega, List.getElem?_eq_getElem hj]
    exact List.getElem_mem hj
  unfold blkOk at h ⊢
  rw [Bool.and_eq_true] at h ⊢
  refine ⟨?_, ?_⟩
  · have h1 := h.1
    unfold headOk at h1 ⊢
    rw [Bool.and_eq_true] at h1 ⊢
    refine ⟨h1.1, ?_⟩
    have h2 := of_decide_eq_true h1.2
    have := subL_len rd s B.rs.length
    exact decide_eq_true (by show ((subL rd s B.rs.length).length : Int) ≤ 5; omega)
  · have h2 := List.all_eq_true.1 h.2
    refine List.all_eq_true.2 fun x hx => ?_
    obtain ⟨j, h3, _, rfl⟩ := subL_mem.1 hx
    exact h2 _ (hmem j h3)
end
/-- What is told of readings that clash. -/
theorem clash_spec {B : Blk} (h : blkOk B = true) : (0 < (pairsV B).length ∧ clashV B = (0, 4)) ∨
    ((pairsV B).length = 0 ∧ ∃ b : Nat, clashV B = ((b : Int), 0) ∧ b < 2 ^ B.rs.length ∧ noneB B b = true ∧ ∀ t, t < 2 ^ B.rs.length → noneB B t = true → keyC b ≤ keyC t) := by
  obtain ⟨_, _, _, hn, _⟩ := blk_b h
  rw [clash_eq]
  unfold clashD
  rw [if_pos h]
  rcases Nat.eq_zero_or_pos (pairsV B).length with h0 | h0
  · right
    rw [if_pos h0]
    have hq : noneB B (2 ^ B.rs.length - 1) = true := by
      unfold noneB
      have e : ((2 ^ B.rs.length - 1 : Nat) : Int) = 2 ^ B.rs.length - 1 := by
        have h1 := Nat.pow_pos (n := B.rs.length) (a := 2) (by decide)
        have h2 : ((2 ^ B.rs.length : Nat) : Int) = 2 ^ B.rs.length := Int.natCast_pow 2 _
        omega
      rw [e, pairsS_every (by omega)]
      exact decide_eq_true h0
    obtain ⟨h1, h2, h3, h4⟩ := bestC_least (q := noneB B) (n := B.rs.length) (by omega) hq (2 ^ B.rs.length) (Nat.le_refl _)
    exact ⟨h0, _, rfl, h2, h1, h4⟩
  · left
    rw [if_neg (by omega)]
    exact ⟨h0, rfl⟩
end Go.X.W
end
