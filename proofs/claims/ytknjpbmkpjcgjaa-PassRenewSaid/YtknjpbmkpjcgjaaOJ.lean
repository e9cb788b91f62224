/- Laws of sets of items, and of a year later. -/
import Derived.Test.YtknjpbmkpjcgjaaOI

section
set_option linter.unusedVariables false
set_option linter.unusedSimpArgs false
set_option linter.unusedSectionVars false
/- Pass: laws of sets of items, and of a year later (plain). -/
set_option linter.unusedVariables false
set_option linter.unusedSimpArgs false
set_option maxRecDepth 10000
set_option maxHeartbeats 4000000
namespace Go.X.Ps
open Go Go.Proofs Go.X

/-! ### Sums -/
/-- Of the items of a set, so many at first. -/
def sumS (B : Nat → Int) (S : Int) : Nat → Int
  | 0 => 0
  | i + 1 => if hasB S i = true then sumS B S i + B i else sumS B S i
def allS (B : Nat → Int) (S : Int) : Nat → Bool
  | 0 => true
  | i + 1 => allS B S i && (!hasB S i || decide (0 ≤ B i))
theorem togS_eq (B : Nat → Int) (S : Int) : ∀ i, togS B S i = if allS B S i = true then some (sumS B S i) else none
  | 0 => rfl
  | i + 1 => by
    rw [togS, togS_eq B S i, allS, sumS]
    by_cases h : allS B S i = true
    · rw [if_pos h, h]
      by_cases hb : hasB S i = true
      · by_cases h0 : 0 ≤ B i
        · simp [hb, h0]
        · simp [hb, h0]
      · simp [hb]
    · rw [if_neg h]
      simp [h]
theorem allS_iff {B : Nat → Int} {S : Int} : ∀ {i}, allS B S i = true ↔ ∀ j, j < i → hasB S j = true → 0 ≤ B j
  | 0 => by simp [allS]
  | i + 1 => by
    rw [allS, Bool.and_eq_true, allS_iff (i := i)]
    constructor
    · rintro ⟨h1, h2⟩ j hj hb
      rcases Nat.lt_succ_iff_lt_or_eq.1 hj with h | rfl
      · exact h1 j h hb
      · simpa [hb] using h2
    · intro h
      refine ⟨fun j hj => h j (by omega), ?_⟩
      cases hb : hasB S i with
      | false => rfl
      | true => simpa using h i (by omega) hb
theorem sumS_or {B : Nat → Int} {a b c : Int} : ∀ {i}, (∀ j, j < i → hasB c j = (hasB a j || hasB b j)) → (∀ j, j < i → ¬ (hasB a j = true ∧ hasB b j = true)) → sumS B c i = sumS B a i + sumS B b i
  | 0, _, _ => rfl
  | i + 1, h1, h2 => by
    have ih := sumS_or (B := B) (i := i) (fun j hj => h1 j (by omega)) (fun j hj => h2 j (by omega))
    have e1 := h1 i (by omega)
    have e2 := h2 i (by omega)
    rw [sumS, sumS, sumS, ih, e1]
    cases ha : hasB a i <;> cases hb : hasB b i <;> simp [ha, hb] at e2 ⊢ <;> omega
theorem allS_or {B : Nat → Int} {a b c : Int} : ∀ {i}, (∀ j, j < i → hasB c j = (hasB a j || hasB b j)) → allS B c i = (allS B a i && allS B b i)
  | 0, _ => rfl
  | i + 1, h1 => by
    have ih := allS_or (B := B) (i := i) (fun j hj => h1 j (by omega))
    rw [allS, allS, allS, ih, h1 i (by omega)]
    cases allS B a i <;> cases allS B b i <;> cases hasB a i <;> cases hasB b i <;> cases decide (0 ≤ B i) <;> rfl
theorem sumS_congr {B B' : Nat → Int} {S : Int} : ∀ {i}, (∀ j, j < i → hasB S j = true → B j = B' j) → sumS B S i = sumS B' S i
  | 0, _ => rfl
  | i + 1, h => by
    have ih := sumS_congr (B := B) (B' := B') (S := S) (i := i) (fun j hj => h j (by omega))
    rw [sumS, sumS, ih]
    split
    · rw [h i (by omega) (by assumption)]
    · rfl
theorem sumS_stop {B : Nat → Int} {S : Int} {i : Nat} (h : ∀ j, i ≤ j → hasB S j = false) : ∀ k, sumS B S (i + k) = sumS B S i
  | 0 => rfl
  | k + 1 => by
    show sumS B S (i + k + 1) = _
    rw [sumS, h (i + k) (by omega), if_neg (by decide), sumS_stop h k]
/-! ### Sets -/
theorem hasB_nat (s i : Nat) : hasB (s : Int) i = s.testBit i := rfl
theorem every_eq {it : Int} (h : 1 ≤ it ∧ it ≤ 6) : ∃ k : Nat, it = (k : Int) ∧ (1 ≤ k ∧ k ≤ 6) ∧ 1 * (2 : Int) ^ it.toNat - 1 = ((2 ^ k - 1 : Nat) : Int) := by
  refine ⟨it.toNat, by omega, by omega, ?_⟩
  have := Nat.one_le_two_pow (n := it.toNat)
  rw [Int.natCast_sub this]
  push_cast
  omega
/-- What is told of a set. -/
theorem tog_in {it ag : Int} {ps : List Pp} {s : Nat} {y : Int} {k : Nat} (hv : validV it ag ps = true) (hk : it = (k : Int)) (h6 : k ≤ 6) (hs : s < 2 ^ k) (hy : 0 ≤ y ∧ y ≤ 20) :
    togE it ag ps (s : Int) y = (if allS (bnN ag ps y) (s : Int) 6 = true then 0 else 4) ∧ togR it ag ps (s : Int) y = (if allS (bnN ag ps y) (s : Int) 6 = true then sumS (bnN ag ps y) (s : Int) 6 else 0) := by
  have hI : togI it ag ps (s : Int) y = true := by
    unfold togI
    rw [inB_in hy, Bool.and_true]
    refine inB_in ?_
    subst hk
    rw [Int.toNat_natCast]
    have : ((2 : Int) ^ k) = ((2 ^ k : Nat) : Int) := by push_cast; rfl
    rw [this]
    omega
  unfold togE togR
  rw [hv, hI, togS_eq]
  by_cases h : allS (bnN ag ps y) (s : Int) 6 = true
  · simp [h, errO]
  · simp [h, errO]
theorem known_in {it ag : Int} {ps : List Pp} {y : Int} (hv : validV it ag ps = true) (hy : 0 ≤ y ∧ y ≤ 20) :
    knownE it ag ps y = 0 ∧ knownR it ag ps y = ((setN (fun i => decide (0 ≤ bnN ag ps y i)) 6 : Nat) : Int) := by
  have e : knownE it ag ps y = 0 := by unfold knownE; rw [hv, inB_in hy]; rfl
  refine ⟨e, ?_⟩
  unfold knownR
  rw [if_pos e]
theorem lt_bit {s k i : Nat} (h : s < 2 ^ k) (hi : k ≤ i) : s.testBit i = false := Nat.testBit_lt_two_pow (Nat.lt_of_lt_of_le h (Nat.pow_le_pow_right (by decide) hi))
theorem pow_64 {k : Nat} (h : k ≤ 6) : 2 ^ k ≤ 64 := Nat.pow_le_pow_right (n := 2) (by decide) h
/-! ### A year later -/
theorem chain_down {ag it y : Int} {ps : List Pp} {c : Ch} {j : Nat} {l : List Int} (hr : PpOk ag ps.length (pget ps)) (h0 : it ≠ -1) (h : bnL ag ps it (y + 1) = some c) (hl : c.ps = (j : Int) :: l) (hy : (pget ps j).yr ≤ y) :
    ∃ b, bnL ag ps it y = some b ∧ b.w ≤ c.w := by
  have hw := bst_some h
  cases hw with
  | nil => exact absurd rfl h0
  | cons h0a h1 h2 h3 =>
    rename_i i d
    have hl : (i : Int) :: d.ps = (j : Int) :: l := hl
    obtain ⟨hij, -⟩ := List.cons.inj hl
    obtain rfl : i = j := by omega
    have h2' : holdsV it y (pget ps i) ag = true := by
      unfold holdsV inB at *
      simp only [Bool.and_eq_true, decide_eq_true_eq] at *
      omega
    have hr2 : PpB ag ps.length (pget ps) := fun j hj => ⟨(hr.2.2 j hj).1.1, (hr.2.2 j hj).2.2.1⟩
    have hw2 := WalkC.cons h0 h1 h2' h3
    obtain ⟨b, hb, _⟩ := bst_le hr2 hw2
    refine ⟨b, hb, ?_⟩
    have := bst_w hr2 hb hw2
    have hd := (hr.2.2 i h1).2.2.1
    have e : addsV (y + 1) (pget ps i) = addsV y (pget ps i) + (pget ps i).dr := by
      unfold addsV
      rw [show y + 1 - (pget ps i).yr = (y - (pget ps i).yr) + 1 by omega, Int.mul_add, Int.mul_one]
      omega
    show b.w ≤ addsV (y + 1) (pget ps i) + d.w
    rw [e]
    have : b.w ≤ addsV y (pget ps i) + d.w := this
    omega
end Go.X.Ps
end

section
set_option linter.unusedVariables false
set_option linter.unusedSimpArgs false
set_option linter.unusedSectionVars false
/- Pass: laws of what is told of sets of items (plain). -/
set_option linter.unusedVariables false
set_option linter.unusedSimpArgs false
set_option maxRecDepth 10000
set_option maxHeartbeats 4000000
namespace Go.X.Ps
open Go Go.Proofs Go.X

theorem not_bit {x y : Nat} (hx : x < 2 ^ 64) (hy : y < 2 ^ 64) (i : Nat) : (x - (x &&& y)).testBit i = (x.testBit i && !y.testBit i) := by
  have h := and_not_nat (BitVec.ofNat 64 x) (BitVec.ofNat 64 y)
  rw [BitVec.toNat_ofNat, BitVec.toNat_ofNat, Nat.mod_eq_of_lt hx, Nat.mod_eq_of_lt hy] at h
  rw [← h]
  have e : ∀ z : BitVec 64, z.toNat.testBit i = z.getLsbD i := fun z => rfl
  rw [e, BitVec.getLsbD_and, BitVec.getLsbD_not]
  have ex : (BitVec.ofNat 64 x).getLsbD i = x.testBit i := by rw [← e, BitVec.toNat_ofNat, Nat.mod_eq_of_lt hx]
  have ey : (BitVec.ofNat 64 y).getLsbD i = y.testBit i := by rw [← e, BitVec.toNat_ofNat, Nat.mod_eq_of_lt hy]
  rw [ex, ey]
  by_cases hi : i < 64
  · simp [hi]
  · have : x.testBit i = false := Nat.testBit_lt_two_pow (Nat.lt_of_lt_of_le hx (Nat.pow_le_pow_right (by decide) (by omega)))
    rw [this]
    rfl
theorem sub_zero_iff {x y : Nat} (hx : x < 2 ^ 64) (hy : y < 2 ^ 64) : x - (x &&& y) = 0 ↔ ∀ i, x.testBit i = true → y.testBit i = true := by
  constructor
  · intro h i hi
    have := not_bit hx hy i
    rw [h, Nat.zero_testBit, hi] at this
    simpa using this.symm
  · intro h
    refine Nat.eq_of_testBit_eq fun i => ?_
    rw [not_bit hx hy, Nat.zero_testBit]
    cases hi : x.testBit i with
    | false => rfl
    | true => rw [h i hi]; rfl
theorem bnN_le {it ag : Int} {ps : List Pp} {y : Int} (hr : PpOk ag ps.length (pget ps)) (i : Nat) : bnN ag ps y i ≤ 10000 := bnd_le hr i
theorem sumS_le {B : Nat → Int} {S : Int} (hB : ∀ i, B i ≤ 10000) : ∀ {i}, allS B S i = true → 0 ≤ sumS B S i ∧ sumS B S i ≤ 10000 * (i : Int)
  | 0, _ => ⟨Int.le_refl _, Int.le_refl _⟩
  | i + 1, h => by
    rw [allS, Bool.and_eq_true] at h
    have ih := sumS_le hB h.1
    have := hB i
    rw [sumS]
    split
    · rename_i hb
      have h0 : 0 ≤ B i := by simpa [hb] using h.2
      push_cast
      omega
    · push_cast
      omega
theorem hasB_zero (i : Nat) : hasB ((0 : Nat) : Int) i = false := Nat.zero_testBit i
theorem allS_zero (B : Nat → Int) : ∀ i, allS B ((0 : Nat) : Int) i = true
  | 0 => rfl
  | i + 1 => by rw [allS, allS_zero B i, hasB_zero]; rfl
theorem sumS_zero (B : Nat → Int) : ∀ i, sumS B ((0 : Nat) : Int) i = 0
  | 0 => rfl
  | i + 1 => by rw [sumS, hasB_zero, if_neg (by decide)]; exact sumS_zero B i
theorem tog_le {it ag : Int} {ps : List Pp} {s : Nat} {y : Int} {k : Nat} (hr : PpOk ag ps.length (pget ps)) (hv : validV it ag ps = true) (hk : it = (k : Int)) (h6 : k ≤ 6) (hs : s < 2 ^ k) (hy : 0 ≤ y ∧ y ≤ 20) : 0 ≤ togR it ag ps (s : Int) y ∧ togR it ag ps (s : Int) y ≤ 60000 := by
  rw [(tog_in hv hk h6 hs hy).2]
  split
  · have := sumS_le (S := (s : Int)) (bnN_le (it := it) (y := y) hr) (by assumption)
    omega
  · omega
theorem known_all {ag : Int} {ps : List Pp} {y : Int} {A : Nat} (hA : A < 64) : decide (((A - (A &&& setN (fun i => decide (0 ≤ bnN ag ps y i)) 6) : Nat) : Int) = 0) = allS (bnN ag ps y) (A : Int) 6 := by
  have hN : setN (fun i => decide (0 ≤ bnN ag ps y i)) 6 < 2 ^ 6 := setN_lt _ 6
  have e := sub_zero_iff (x := A) (y := setN (fun i => decide (0 ≤ bnN ag ps y i)) 6) (by omega) (by omega)
  rw [Bool.eq_iff_iff, decide_eq_true_eq, Int.natCast_eq_zero, e, allS_iff]
  constructor
  · intro h j hj hb
    have := h j hb
    rw [setN_bit] at this
    simpa [hj] using this
  · intro h j hj
    have h6 : j < 6 := by
      rcases Nat.lt_or_ge j 6 with h | h
      · exact h
      · rw [lt_bit (k := 6) hA h] at hj; cases hj
    rw [setN_bit]
    simpa [h6] using h j h6 hj
theorem togCond {it ag : Int} {ps : List Pp} {y : Int} {k A B0 C D : Nat} (hr : PpOk ag ps.length (pget ps)) (hv : validV it ag ps = true) (hk : it = (k : Int)) (h6 : k ≤ 6) (hA : A < 2 ^ k) (hB : B0 < 2 ^ k) (hC : (B0 : Int).toNat - ((B0 : Int).toNat &&& (A : Int).toNat) = C) (hD : (A : Int).toNat ||| (C : Int).toNat = D) (hy : 0 ≤ y ∧ y ≤ 20) :
    (!decide (knownE it ag ps y = 0) ||
                            !decide (togE it ag ps 0 y = 0) ||
                          !decide (togR it ag ps 0 y = 0) ||
                        !decide (togE it ag ps (↑A) y = 0) ==
                            decide
                              ((((A : Int).toNat - ((A : Int).toNat &&& (knownR it ag ps y).toNat) : Nat) : Int) =
                                0) ||
                      !decide (togE it ag ps (↑D) y = 0) ==
                          (decide (togE it ag ps (↑A) y = 0) &&
                            decide (togE it ag ps (↑C) y = 0)) ||
                    decide (togE it ag ps (↑D) y = 0) &&
                      !decide
                          (togR it ag ps (↑D) y =
                            togR it ag ps (↑A) y +
                              togR it ag ps (↑C) y)) = false := by
  simp only [Int.toNat_natCast] at hC hD
  have h64 := pow_64 h6
  have hC1 : C < 2 ^ k := by omega
  have hD1 : D < 2 ^ k := hD ▸ Nat.or_lt_two_pow hA hC1
  have bC : ∀ i, hasB (C : Int) i = (B0.testBit i && !A.testBit i) := fun i => by rw [hasB_nat, ← hC, not_bit (by omega) (by omega)]
  have bD : ∀ i, hasB (D : Int) i = (hasB (A : Int) i || hasB (C : Int) i) := fun i => by rw [hasB_nat, hasB_nat, hasB_nat, ← hD, Nat.testBit_or]
  obtain ⟨a1, a2⟩ := tog_in (s := A) hv hk h6 hA hy
  obtain ⟨c1, c2⟩ := tog_in (s := C) hv hk h6 hC1 hy
  obtain ⟨d1, d2⟩ := tog_in (s := D) hv hk h6 hD1 hy
  obtain ⟨z1, z2⟩ := tog_in (s := 0) hv hk h6 (by have := Nat.one_le_two_pow (n := k); omega) hy
  rw [allS_zero, if_pos rfl] at z1 z2
  rw [sumS_zero] at z2
  have z1 : togE it ag ps 0 y = 0 := z1
  have z2 : togR it ag ps 0 y = 0 := z2
  obtain ⟨k1, k2⟩ := known_in (it := it) hv hy
  rw [z1, z2, k1, k2, a1, a2, c1, c2, d1, d2]
  simp only [Int.toNat_natCast]
  rw [known_all (by omega)]
  have eS := sumS_or (B := bnN ag ps y) (i := 6) (fun j _ => bD j) (fun j _ => by rw [bC, hasB_nat]; cases A.testBit j <;> simp)
  have eA := allS_or (B := bnN ag ps y) (i := 6) (fun j _ => bD j)
  rw [eS, eA]
  cases allS (bnN ag ps y) (A : Int) 6 <;> cases allS (bnN ag ps y) (C : Int) 6 <;> simp
theorem wO_in {ag : Int} {ps : List Pp} {q y : Int} (hr : PpOk ag ps.length (pget ps)) : 0 ≤ wO (bnL ag ps q y) ∧ wO (bnL ag ps q y) ≤ 10000 := by
  cases h : bnL ag ps q y with
  | none => exact ⟨Int.le_refl _, by decide⟩
  | some c =>
    have := bestW_bound hr.2.1 hr.2.2 ps.length _ _ c h
    have h8 := hr.1
    show 0 ≤ c.w ∧ c.w ≤ 10000
    omega
theorem sumS_in {B : Nat → Int} {S : Int} (hB : ∀ i, 0 ≤ B i ∧ B i ≤ 10000) : ∀ i : Nat, 0 ≤ sumS B S i ∧ sumS B S i ≤ 10000 * (i : Int)
  | 0 => ⟨Int.le_refl _, Int.le_refl _⟩
  | i + 1 => by
    have ih := sumS_in (S := S) hB i
    have := hB i
    rw [sumS]
    split <;> push_cast <;> omega
theorem bnN_some {ag : Int} {ps : List Pp} {y : Int} {i : Nat} (hr : PpOk ag ps.length (pget ps)) : decide (0 ≤ bnN ag ps y i) = (bnL ag ps (i : Int) y).isSome := by
  have h := wO_in (q := (i : Int)) (y := y) hr
  unfold bnN
  cases hb : bnL ag ps (i : Int) y with
  | none => rfl
  | some c =>
    rw [hb] at h
    exact decide_eq_true h.1
/-- An item is among those that have a bound just if it has one. -/
theorem known_bit {it ag : Int} {ps : List Pp} {y : Int} {i : Nat} (hv : validV it ag ps = true) (hr : PpOk ag ps.length (pget ps)) (hy : 0 ≤ y ∧ y ≤ 20) (hi : i < 6) :
    decide (((((knownR it ag ps y).fdiv (2 ^ ((i : Nat) : Int).toNat)).toNat &&& (1 : Int).toNat : Nat) : Int) = 1) = (bnL ag ps (i : Int) y).isSome := by
  have hk := (known_in (it := it) hv hy).2
  rw [hasB_eq (by rw [hk]; exact Int.natCast_nonneg _), hk, hasB_nat, setN_bit, ← bnN_some hr]
  simp [hi]
theorem map_pget (ps : List Pp) : (List.range ps.length).map (pget ps) = ps := by
  apply List.ext_getElem
  · simp
  · intro i h1 h2
    simp [pget, List.getD, h2]
theorem valid_ps {it ag : Int} {ps : List Pp} (hv : validV it ag ps = true) : PpOk ag ps.length (pget ps) := (valid_ok (r := pget ps) (n := ps.length) (by rw [map_pget]; exact hv)).1
theorem toget {n : Nat} {L : Nat → Pp} {ps : List Pp} (hps : papL n (fun i => ppC (L i)) = ps) {j : Nat} (hj : j < n) : pget ps j = L j := by
  rw [← hps, pget_papL hj]
  rfl
theorem tolen {n : Nat} {L : Nat → Pp} {ps : List Pp} (hps : papL n (fun i => ppC (L i)) = ps) : ps.length = n := by rw [← hps, papL_len]
theorem chain_in {it ag : Int} {ps : List Pp} {q z : Int} (hv : validV it ag ps = true) (hit : 1 ≤ it ∧ it ≤ 6) (hq : 0 ≤ q ∧ q < it) (hz : 0 ≤ z ∧ z ≤ 20) : chainL it ag ps q z = psO (bnL ag ps q z) := by
  unfold chainL
  rw [hv, isItem_in hit hq, inB_in hz]
  rfl
theorem later {it ag : Int} {ps : List Pp} {n : Nat} {L : Nat → Pp} {q y : Int} (hps : papL n (fun i => ppC (L i)) = ps) (hv : validV it ag ps = true) (hit : 1 ≤ it ∧ it ≤ 6) (hq : 0 ≤ q ∧ q < it) (hy : 0 ≤ y ∧ y ≤ 19)
    (h : (!decide (boundE it ag ps q (y + 1) = 0) ||
            decide (((chainL it ag ps q (y + 1)).length : Int) = 0) ||
          decide ((chainL it ag ps q (y + 1)).getD (Int.toNat 0) 0 < 0) ||
        decide ((n : Int) ≤ (chainL it ag ps q (y + 1)).getD (Int.toNat 0) 0) ||
      decide
        (y < (L ((chainL it ag ps q (y + 1)).getD (Int.toNat 0) 0).toNat).yr)) = false) :
    boundE it ag ps q (y + 1) = 0 ∧ boundE it ag ps q y = 0 ∧ boundR it ag ps q y ≤ boundR it ag ps q (y + 1) := by
  have hr := valid_ps hv
  obtain ⟨E1, R1⟩ := bound_in (z := y + 1) hv hit hq ⟨by omega, by omega⟩
  obtain ⟨E0, R0⟩ := bound_in (z := y) hv hit hq ⟨by omega, by omega⟩
  have hc := chain_in (z := y + 1) hv hit hq ⟨by omega, by omega⟩
  simp only [Bool.or_eq_false_iff, Bool.not_eq_false', decide_eq_true_eq, decide_eq_false_iff_not] at h
  obtain ⟨⟨⟨⟨h1, h2⟩, h3⟩, h4⟩, h5⟩ := h
  rw [hc] at h2 h3 h4 h5
  cases hb : bnL ag ps q (y + 1) with
  | none => rw [hb] at h2; exact absurd rfl h2
  | some c =>
    rw [hb] at h2 h3 h4 h5
    simp only [psO] at h2 h3 h4 h5
    cases hl : c.ps with
    | nil => rw [hl] at h2; exact absurd rfl h2
    | cons f l =>
      rw [hl] at h3 h4 h5
      have e : (f :: l).getD (Int.toNat 0) 0 = f := rfl
      rw [e] at h3 h4 h5
      have hj : c.ps = ((f.toNat : Nat) : Int) :: l := by rw [hl, Int.toNat_of_nonneg (by omega)]
      obtain ⟨b, hb2, hw⟩ := chain_down hr (by omega) hb hj (by rw [toget hps (by omega)]; omega)
      refine ⟨h1, by rw [E0, hb2]; rfl, ?_⟩
      rw [R0, R1, hb, hb2]
      exact hw
theorem togEnd {it ag : Int} {ps : List Pp} {y s0 : Int} {k A : Nat} (hv : validV it ag ps = true) (hk : it = (k : Int)) (h6 : k ≤ 6) (hA : A < 2 ^ k) (hy : 0 ≤ y ∧ y ≤ 20) (hs : sumS (fun i => wO (bnL ag ps (i : Int) y)) (A : Int) k = s0) :
    ((!decide (togE it ag ps (↑A) y = 0) ||
            decide (s0 = togR it ag ps (↑A) y)) &&
          (decide (togE it ag ps (↑A) y = 0) ||
            decide (togE it ag ps (↑A) y = 4) &&
              decide (togR it ag ps (↑A) y = 0)) &&
        true) = true := by
  obtain ⟨a1, a2⟩ := tog_in (s := A) hv hk h6 hA hy
  rw [a1, a2]
  cases h : allS (bnN ag ps y) (A : Int) 6 with
  | false => rfl
  | true =>
    have e1 : sumS (fun i => wO (bnL ag ps (i : Int) y)) (A : Int) (k + (6 - k)) = sumS (fun i => wO (bnL ag ps (i : Int) y)) (A : Int) k := sumS_stop (fun j hj => lt_bit hA hj) _
    rw [show k + (6 - k) = 6 by omega] at e1
    have e2 : sumS (fun i => wO (bnL ag ps (i : Int) y)) (A : Int) 6 = sumS (bnN ag ps y) (A : Int) 6 := sumS_congr fun j hj hb => by
      have h0 := allS_iff.1 h j hj hb
      show wO (bnL ag ps (j : Int) y) = bO (bnL ag ps (j : Int) y)
      have h0 : 0 ≤ bO (bnL ag ps (j : Int) y) := h0
      cases hc : bnL ag ps (j : Int) y with
      | none => rw [hc] at h0; exact absurd h0 (by decide)
      | some c => rfl
    rw [← hs, ← e1, e2]
    simp
end Go.X.Ps
end
