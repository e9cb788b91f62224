/- Items numbered otherwise, certificates in another order, and later years. -/
import Derived.Test.YtknjpbmkpjcgjaaPB
import Derived.Test.YtknjpbmkpjcgjaaOI

section
set_option linter.unusedVariables false
set_option linter.unusedSimpArgs false
set_option linter.unusedSectionVars false
/- Pass: items numbered otherwise, certificates in another order, and later years, in plain Lean. -/
set_option linter.unusedVariables false
set_option linter.unusedSimpArgs false
set_option maxRecDepth 10000
set_option maxHeartbeats 4000000
namespace Go.X.Ps
open Go Go.Proofs Go.X

def turnQ (it q : Int) : Int := if q < 0 then q else it - 1 - q
def turnP (it : Int) (x : Pp) : Pp := ⟨turnQ it x.of, turnQ it x.by_, x.wr, x.yr, x.dr⟩
/-- Items in range. -/
def inP (it : Int) (x : Pp) : Prop := (0 ≤ x.of ∧ x.of < it) ∧ -1 ≤ x.by_ ∧ x.by_ < it
theorem turnQ_pos {it q : Int} (h : 0 ≤ q ∧ q < it) : turnQ it q = it - 1 - q := by unfold turnQ; rw [if_neg (by omega)]
theorem turnQ_two {it q : Int} (h : -1 ≤ q ∧ q < it) : turnQ it (turnQ it q) = q := by
  by_cases h0 : q < 0
  · have e : turnQ it q = q := if_pos h0
    rw [e, e]
  · rw [turnQ_pos ⟨by omega, h.2⟩, turnQ_pos ⟨by omega, by omega⟩]
    omega
theorem turnQ_in {it q : Int} (h : -1 ≤ q ∧ q < it) : -1 ≤ turnQ it q ∧ turnQ it q < it := by
  unfold turnQ
  split <;> omega
theorem turnP_two {it : Int} {x : Pp} (h : inP it x) : turnP it (turnP it x) = x := by
  unfold turnP
  obtain ⟨a, b, c, d, e⟩ := x
  obtain ⟨h1, h2⟩ := h
  simp only at h1 h2
  show Pp.mk (turnQ it (turnQ it a)) (turnQ it (turnQ it b)) c d e = Pp.mk a b c d e
  rw [turnQ_two (by omega), turnQ_two h2]
theorem turnP_in {it : Int} {x : Pp} (h : inP it x) : inP it (turnP it x) := by
  obtain ⟨h1, h2⟩ := h
  refine ⟨?_, turnQ_in h2⟩
  show 0 ≤ turnQ it x.of ∧ turnQ it x.of < it
  rw [turnQ_pos h1]
  omega
theorem walk_turn {it ag : Int} {n n' : Nat} {r r' : Nat → Pp} (hb : ∀ i, i < n → inP it (r i)) (h : ∀ i, i < n → ∃ j, j < n' ∧ r' j = turnP it (r i)) {q y : Int} {c : Ch} (hw : WalkC ag n r q y c) : ∃ c', WalkC ag n' r' (turnQ it q) y c' ∧ c'.w = c.w := by
  induction hw with
  | nil =>
    refine ⟨ch0, ?_, rfl⟩
    have : turnQ it (-1) = -1 := rfl
    rw [this]
    exact .nil
  | @cons q y i c h0 h1 h2 h3 ih =>
    obtain ⟨c', hc, hw⟩ := ih
    obtain ⟨j, hj, e⟩ := h i h1
    have hq : (r i).of = q := by
      unfold holdsV at h2
      rw [Bool.and_eq_true, decide_eq_true_eq] at h2
      exact h2.1
    have hin := (hb i h1).1
    have hh : holdsV (turnQ it q) y (r' j) ag = true := by
      rw [e]
      unfold holdsV at h2 ⊢
      rw [Bool.and_eq_true, decide_eq_true_eq] at h2 ⊢
      exact ⟨congrArg (turnQ it) h2.1, h2.2⟩
    refine ⟨linkC y j (r' j) c', WalkC.cons (by rw [← hq, turnQ_pos hin]; omega) hj hh (by rw [e]; exact hc), ?_⟩
    show addsV y (r' j) + c'.w = addsV y (r i) + c.w
    rw [e, hw]
    rfl
/-- What two sets of certificates have in common, if they tell the same of an item. -/
theorem turn_bst {it ag : Int} {n n' : Nat} {r r' : Nat → Pp} (hr : PpB ag n r) (hr' : PpB ag n' r') (hb : ∀ i, i < n → inP it (r i)) (h1 : ∀ i, i < n → ∃ j, j < n' ∧ r' j = turnP it (r i)) (h2 : ∀ j, j < n' → ∃ i, i < n ∧ r' j = turnP it (r i)) {q y : Int} (hq : -1 ≤ q ∧ q < it) :
    (bst ag n' r' (turnQ it q) y).map Ch.w = (bst ag n r q y).map Ch.w := by
  have hb' : ∀ j, j < n' → inP it (r' j) := fun j hj => by
    obtain ⟨i, hi, e⟩ := h2 j hj
    rw [e]; exact turnP_in (hb i hi)
  have h2' : ∀ j, j < n' → ∃ i, i < n ∧ r i = turnP it (r' j) := fun j hj => by
    obtain ⟨i, hi, e⟩ := h2 j hj
    exact ⟨i, hi, by rw [e, turnP_two (hb i hi)]⟩
  cases ha : bst ag n r q y with
  | none =>
    cases hb2 : bst ag n' r' (turnQ it q) y with
    | none => rfl
    | some b =>
      exfalso
      obtain ⟨c', hc, _⟩ := walk_turn hb' h2' (bst_some hb2)
      rw [turnQ_two hq] at hc
      exact bst_none hr ha c' hc
  | some a =>
    obtain ⟨c', hc, hw⟩ := walk_turn hb h1 (bst_some ha)
    obtain ⟨b, hb2, _⟩ := bst_le hr' hc
    rw [hb2]
    have l1 := bst_w hr' hb2 hc
    obtain ⟨c2, hc2, hw2⟩ := walk_turn hb' h2' (bst_some hb2)
    rw [turnQ_two hq] at hc2
    have l2 := bst_w hr ha hc2
    show some b.w = some a.w
    congr 1
    omega
theorem map_hold {o o' : Option Ch} (h : o.map Ch.w = o'.map Ch.w) (lim : Int) : holdO lim o = holdO lim o' := by
  cases o with
  | none => cases o' with
    | none => rfl
    | some b => cases h
  | some a => cases o' with
    | none => cases h
    | some b =>
      have h : a.w = b.w := by injection h
      show (true && decide (a.w ≤ lim)) = (true && decide (b.w ≤ lim))
      rw [h]
theorem map_wO {o o' : Option Ch} (h : o.map Ch.w = o'.map Ch.w) : wO o = wO o' ∧ o.isSome = o'.isSome := by
  cases o <;> cases o' <;> simp at h
  · exact ⟨rfl, rfl⟩
  · exact ⟨h, rfl⟩
/-! ### The turned certificates -/
def trV (it : Int) (n : Nat) (L : Nat → Pp) (j : Nat) : Pp := turnP it (L (n - 1 - j))
theorem bad_in {it : Int} {x : Pp} (h : badV it x = false) : inP it x ∧ ¬ x.by_ = x.of ∧ (0 ≤ x.wr ∧ x.wr ≤ 50) ∧ (0 ≤ x.yr ∧ x.yr ≤ 20) ∧ 0 ≤ x.dr ∧ x.dr ≤ 10 := by
  unfold badV inB at h
  simp only [Bool.or_eq_false_iff, Bool.not_eq_false', Bool.and_eq_true, decide_eq_true_eq, decide_eq_false_iff_not] at h
  unfold inP
  omega
theorem in_bad {it : Int} {x : Pp} (h : inP it x) (h2 : ¬ x.by_ = x.of) (h3 : 0 ≤ x.wr ∧ x.wr ≤ 50) (h4 : 0 ≤ x.yr ∧ x.yr ≤ 20) (h5 : 0 ≤ x.dr ∧ x.dr ≤ 10) : badV it x = false := by
  unfold inP at h
  unfold badV inB
  simp only [Bool.or_eq_false_iff, Bool.not_eq_false', Bool.and_eq_true, decide_eq_true_eq, decide_eq_false_iff_not]
  omega
theorem turn_bad {it : Int} {x : Pp} (h : badV it x = false) : badV it (turnP it x) = false := by
  obtain ⟨h1, h2, h3, h4, h5⟩ := bad_in h
  refine in_bad (turnP_in h1) (fun e => h2 ?_) h3 h4 h5
  have e : turnQ it x.by_ = turnQ it x.of := e
  rw [← turnQ_two h1.2, ← turnQ_two (it := it) (q := x.of) (by have := h1.1; omega), e]
theorem valid_of {it ag : Int} {n : Nat} {L L' : Nat → Pp} (h : validV it ag ((List.range n).map L) = true) (h2 : ∀ j, j < n → badV it (L' j) = false) : validV it ag ((List.range n).map L') = true := by
  have h0 := h
  unfold validV at h0
  simp only [Bool.and_eq_true, decide_eq_true_eq, List.length_map, List.length_range] at h0
  exact valid_iff h0.1 h0.2.1 h0.2.2.1 h2
theorem tr_valid {it ag : Int} {n : Nat} {L : Nat → Pp} (h : validV it ag ((List.range n).map L) = true) : validV it ag ((List.range n).map (trV it n L)) = true :=
  valid_of h fun j hj => turn_bad (valid_all h (n - 1 - j) (by omega))
theorem tr_fwd {it : Int} {n : Nat} {L : Nat → Pp} : ∀ i, i < n → ∃ j, j < n ∧ trV it n L j = turnP it (L i) := fun i hi => ⟨n - 1 - i, by omega, by unfold trV; rw [show n - 1 - (n - 1 - i) = i by omega]⟩
theorem tr_back {it : Int} {n : Nat} {L : Nat → Pp} : ∀ j, j < n → ∃ i, i < n ∧ trV it n L j = turnP it (L i) := fun j hj => ⟨n - 1 - j, by omega, rfl⟩
theorem tr_bst {it ag : Int} {n : Nat} {L : Nat → Pp} (hv : validV it ag ((List.range n).map L) = true) {q y : Int} (hq : -1 ≤ q ∧ q < it) : (bst ag n (trV it n L) (turnQ it q) y).map Ch.w = (bst ag n L q y).map Ch.w :=
  turn_bst (ppb_L (valid_ok hv).1) (ppb_L (valid_ok (tr_valid hv)).1) (fun i hi => (bad_in (valid_all hv i hi)).1) tr_fwd tr_back hq
/-- The set of the same certificates, in their new order. -/
def revN (n S : Nat) : Nat := setN (fun i => S.testBit (n - 1 - i)) n
theorem revN_bit {n S i : Nat} (h : i < n) : (revN n S).testBit i = S.testBit (n - 1 - i) := by
  unfold revN
  rw [setN_bit]
  simp [h]
theorem revN_lt (n S : Nat) : revN n S < 2 ^ n := setN_lt _ n
theorem revN_two {n S : Nat} (h : S < 2 ^ n) : revN n (revN n S) = S := by
  apply Nat.eq_of_testBit_eq
  intro i
  by_cases hi : i < n
  · rw [revN_bit hi, revN_bit (by omega), show n - 1 - (n - 1 - i) = i by omega]
  · have e1 : (revN n (revN n S)).testBit i = false := Nat.testBit_lt_two_pow (Nat.lt_of_lt_of_le (revN_lt n _) (Nat.pow_le_pow_right (by decide) (by omega)))
    have e2 : S.testBit i = false := Nat.testBit_lt_two_pow (Nat.lt_of_lt_of_le h (Nat.pow_le_pow_right (by decide) (by omega)))
    rw [e1, e2]
theorem revN_pop : ∀ n, n ≤ 8 → ∀ S, S < 2 ^ n → popN (revN n S) = popN S := by
  have h : ((List.range 9).all fun n => (List.range (2 ^ n)).all fun S => decide (popN (revN n S) = popN S)) = true := by kernel_rfl
  intro n hn S hS
  exact of_decide_eq_true (List.all_eq_true.1 (List.all_eq_true.1 h n (List.mem_range.2 (by omega))) S (List.mem_range.2 hS))
theorem rn_mem {n : Nat} {L : Nat → Pp} {S : Nat} {y : Int} {x : Pp} : x ∈ rnw n L (S : Int) y ↔ (∃ j, j < n ∧ x = L j) ∨ ∃ j, j < n ∧ S.testBit j = true ∧ x = rnX (L j) y := by
  constructor
  · intro h
    unfold rnw rnB at h
    rcases List.mem_append.1 h with h | h
    · obtain ⟨j, hj, rfl⟩ := List.mem_map.1 h
      exact .inl ⟨j, List.mem_range.1 hj, rfl⟩
    · obtain ⟨j, hj, hb, rfl⟩ := rnL_mem h
      exact .inr ⟨j, hj, by unfold hasB at hb; rwa [Int.toNat_natCast] at hb, rfl⟩
  · rintro (⟨j, hj, rfl⟩ | ⟨j, hj, hb, rfl⟩)
    · unfold rnw rnB
      exact List.mem_append_left _ (List.mem_map.2 ⟨j, List.mem_range.2 hj, rfl⟩)
    · unfold rnw rnB
      exact List.mem_append_right _ (rnL_in (by unfold hasB; rwa [Int.toNat_natCast]) hj)
theorem tr_rn {it : Int} {n : Nat} {L : Nat → Pp} {S : Nat} {y : Int} (x : Pp) : x ∈ rnw n L (S : Int) y → turnP it x ∈ rnw n (trV it n L) (revN n S : Nat) y := by
  intro h
  rcases rn_mem.1 h with ⟨j, hj, rfl⟩ | ⟨j, hj, hb, rfl⟩
  · obtain ⟨i, hi, e⟩ := tr_fwd (it := it) (L := L) j hj
    exact rn_mem.2 (.inl ⟨i, hi, e.symm⟩)
  · refine rn_mem.2 (.inr ⟨n - 1 - j, by omega, by rw [revN_bit (by omega), show n - 1 - (n - 1 - j) = j by omega]; exact hb, ?_⟩)
    unfold trV
    rw [show n - 1 - (n - 1 - j) = j by omega]
    rfl
theorem rn_tr {it : Int} {n : Nat} {L : Nat → Pp} {S : Nat} {y : Int} (x : Pp) : x ∈ rnw n (trV it n L) (revN n S : Nat) y → ∃ z, z ∈ rnw n L (S : Int) y ∧ x = turnP it z := by
  intro h
  rcases rn_mem.1 h with ⟨j, hj, rfl⟩ | ⟨j, hj, hb, rfl⟩
  · exact ⟨L (n - 1 - j), rn_mem.2 (.inl ⟨n - 1 - j, by omega, rfl⟩), rfl⟩
  · rw [revN_bit hj] at hb
    exact ⟨rnX (L (n - 1 - j)) y, rn_mem.2 (.inr ⟨n - 1 - j, by omega, hb, rfl⟩), rfl⟩
theorem rn_bad {it : Int} {n : Nat} {L : Nat → Pp} {S : Nat} {y : Int} (hb : ∀ j, j < n → badV it (L j) = false) (hy : 0 ≤ y ∧ y ≤ 20) {x : Pp} (h : x ∈ rnw n L (S : Int) y) : badV it x = false := by
  rcases rn_mem.1 h with ⟨j, hj, rfl⟩ | ⟨j, hj, _, rfl⟩
  · exact hb j hj
  · obtain ⟨h1, h2, h3, h4, h5⟩ := bad_in (hb j hj)
    exact in_bad h1 h2 h3 hy h5
theorem tr_eno {it ag : Int} {n : Nat} {L : Nat → Pp} (hv : validV it ag ((List.range n).map L) = true) {S : Nat} {y lim : Int} (hy : 0 ≤ y ∧ y ≤ 20) : enoB it ag n (trV it n L) (revN n S : Nat) y lim = enoB it ag n L (S : Int) y lim := by
  obtain ⟨hr, hit, hn8⟩ := valid_ok hv
  obtain ⟨hr', _, _⟩ := valid_ok (tr_valid hv)
  have hR := rnw_ok (S := (S : Int)) hr (by omega) hy
  have hR' := rnw_ok (S := ((revN n S : Nat) : Int)) hr' (by omega) hy
  rw [eno_hold hR, eno_hold hR']
  have key : ∀ q : Int, -1 ≤ q ∧ q < it → (bst ag (rnw n (trV it n L) (revN n S : Nat) y).length (pget (rnw n (trV it n L) (revN n S : Nat) y)) (turnQ it q) y).map Ch.w = (bst ag (rnw n L (S : Int) y).length (pget (rnw n L (S : Int) y)) q y).map Ch.w := fun q hq =>
    turn_bst (ppb_L hR) (ppb_L hR') (fun i hi => (bad_in (rn_bad (fun j hj => valid_all hv j hj) hy (pget_mem hi))).1) (fun i hi => mem_pget (tr_rn _ (pget_mem hi))) (fun j hj => by
      obtain ⟨z, hz, e⟩ := rn_tr _ (pget_mem hj)
      obtain ⟨i, hi, e2⟩ := mem_pget hz
      exact ⟨i, hi, by rw [e, e2]⟩) hq
  have step : ∀ i : Nat, i < it.toNat → holdO lim (bst ag (rnw n (trV it n L) (revN n S : Nat) y).length (pget (rnw n (trV it n L) (revN n S : Nat) y)) (((it.toNat - 1 - i : Nat)) : Int) y) = holdO lim (bst ag (rnw n L (S : Int) y).length (pget (rnw n L (S : Int) y)) (i : Int) y) := fun i hi => by
    have := map_hold (key (i : Int) ⟨by omega, by omega⟩) lim
    rwa [turnQ_pos ⟨by omega, by omega⟩, show it - 1 - (i : Int) = ((it.toNat - 1 - i : Nat) : Int) by omega] at this
  rw [Bool.eq_iff_iff, List.all_eq_true, List.all_eq_true]
  constructor
  · intro h i hi
    have hi := List.mem_range.1 hi
    rw [← step i hi]
    exact h _ (List.mem_range.2 (by omega))
  · intro h i hi
    have hi := List.mem_range.1 hi
    have := step (it.toNat - 1 - i) (by omega)
    rw [show it.toNat - 1 - (it.toNat - 1 - i) = i by omega] at this
    rw [this]
    exact h _ (List.mem_range.2 (by omega))
end Go.X.Ps
end

section
set_option linter.unusedVariables false
set_option linter.unusedSimpArgs false
set_option linter.unusedSectionVars false
/- Pass: what is told of turned certificates, and of later years, in plain Lean. -/
set_option linter.unusedVariables false
set_option linter.unusedSimpArgs false
set_option maxRecDepth 10000
set_option maxHeartbeats 4000000
namespace Go.X.Ps
open Go Go.Proofs Go.X

section
variable {it ag : Int} {n : Nat} {L : Nat → Pp}
theorem tr_bnL (hv : validV it ag (papL n fun i => ppC (L i)) = true) {q y : Int} (hq : 0 ≤ q ∧ q < it) : (bnL ag (papL n fun i => ppC (trV it n L i)) (it - 1 - q) y).map Ch.w = (bnL ag (papL n fun i => ppC (L i)) q y).map Ch.w := by
  have h := tr_bst (L := L) (n := n) hv (q := q) (y := y) ⟨by omega, hq.2⟩
  rw [turnQ_pos hq] at h
  rw [bnL_L, bnL_L]
  exact h
theorem tr_valid' (hv : validV it ag (papL n fun i => ppC (L i)) = true) : validV it ag (papL n fun i => ppC (trV it n L i)) = true := tr_valid (L := L) (n := n) hv
theorem tr_bound (hv : validV it ag (papL n fun i => ppC (L i)) = true) (hit : 1 ≤ it ∧ it ≤ 6) {q y : Int} (hq : 0 ≤ q ∧ q < it) (hy : 0 ≤ y ∧ y ≤ 20) :
    boundR it ag (papL n fun i => ppC (trV it n L i)) (it - 1 - q) y = boundR it ag (papL n fun i => ppC (L i)) q y ∧ boundE it ag (papL n fun i => ppC (trV it n L i)) (it - 1 - q) y = boundE it ag (papL n fun i => ppC (L i)) q y := by
  obtain ⟨a1, a2⟩ := bound_in hv hit hq hy
  obtain ⟨b1, b2⟩ := bound_in (q := it - 1 - q) (tr_valid' hv) hit ⟨by omega, by omega⟩ hy
  obtain ⟨h1, h2⟩ := map_wO (tr_bnL hv hq (y := y))
  rw [a1, a2, b1, b2, h1, h2]
  exact ⟨rfl, rfl⟩
theorem tr_until (hv : validV it ag (papL n fun i => ppC (L i)) = true) (hit : 1 ≤ it ∧ it ≤ 6) {q y lim : Int} (hq : 0 ≤ q ∧ q < it) (hy : 0 ≤ y ∧ y ≤ 20) (hl : 0 ≤ lim ∧ lim ≤ 2000) :
    untilR it ag (papL n fun i => ppC (trV it n L i)) (it - 1 - q) y lim = untilR it ag (papL n fun i => ppC (L i)) q y lim ∧ untilE it ag (papL n fun i => ppC (trV it n L i)) (it - 1 - q) y lim = untilE it ag (papL n fun i => ppC (L i)) q y lim := by
  have a1 := until_in hv hit hq hy hl
  have b1 := until_in (q := it - 1 - q) (tr_valid' hv) hit ⟨by omega, by omega⟩ hy hl
  have hh : (fun z => holdO lim (bnL ag (papL n fun i => ppC (trV it n L i)) (it - 1 - q) z)) = fun z => holdO lim (bnL ag (papL n fun i => ppC (L i)) q z) := funext fun z => map_hold (tr_bnL hv hq (y := z)) lim
  have hE : untilE it ag (papL n fun i => ppC (trV it n L i)) (it - 1 - q) y lim = untilE it ag (papL n fun i => ppC (L i)) q y lim := by rw [a1, b1, map_hold (tr_bnL hv hq (y := y)) lim]
  refine ⟨?_, hE⟩
  unfold untilR
  rw [hE, hh]
theorem tr_enoP (hv : validV it ag (papL n fun i => ppC (L i)) = true) {y lim : Int} (hy : 0 ≤ y ∧ y ≤ 20) (S : Nat) : enoP it ag (papL n fun i => ppC (trV it n L i)) y lim (revN n S) = enoP it ag (papL n fun i => ppC (L i)) y lim S := by
  rw [enoP_papL, enoP_papL]
  exact tr_eno (L := L) (n := n) hv hy
theorem tr_ren (hv : validV it ag (papL n fun i => ppC (L i)) = true) (hn : n ≤ 8) {y lim : Int} (hy : 0 ≤ y ∧ y ≤ 20) (hl : 0 ≤ lim ∧ lim ≤ 2000) :
    renE it ag (papL n fun i => ppC (trV it n L i)) y lim = renE it ag (papL n fun i => ppC (L i)) y lim ∧ sizeN (renR it ag (papL n fun i => ppC (trV it n L i)) y lim).toNat = sizeN (renR it ag (papL n fun i => ppC (L i)) y lim).toNat := by
  have hlen : ∀ g : Nat → List SV, (papL n g).length = n := fun g => papL_len n g
  have hp8 : 2 ^ n ≤ 2 ^ 8 := Nat.pow_le_pow_right (by decide) hn
  have hE := tr_enoP (lim := lim) hv hy
  rcases ren_spec hv hy hl with ⟨a1, m, a2, a3, a4, a5⟩ | ⟨a1, a2, a3⟩
  · rcases ren_spec (tr_valid' hv) hy hl with ⟨b1, k, b2, b3, b4, b5⟩ | ⟨b1, b2, b3⟩
    · refine ⟨by rw [a1, b1], ?_⟩
      rw [hlen] at a3 b3
      rw [hlen] at a5 b5
      rw [a2, b2, Int.toNat_natCast, Int.toNat_natCast, size_all _ (by omega), size_all _ (by omega)]
      have h1 := (b5 (revN n m) (revN_lt n m) (by rw [hE]; exact a4)).1
      have h2 := (a5 (revN n k) (revN_lt n k) (by rw [← hE, revN_two b3]; exact b4)).1
      rw [revN_pop n hn m a3] at h1
      rw [revN_pop n hn k b3] at h2
      omega
    · rw [hlen] at a3 b3
      have := b3 (revN n m) (revN_lt n m)
      rw [hE, a4] at this
      cases this
  · rcases ren_spec (tr_valid' hv) hy hl with ⟨b1, k, b2, b3, b4, b5⟩ | ⟨b1, b2, b3⟩
    · rw [hlen] at a3 b3
      have := a3 (revN n k) (revN_lt n k)
      rw [← hE, revN_two b3, b4] at this
      cases this
    · exact ⟨by rw [a1, b1], by rw [a2, b2]⟩
/-! ### Later years -/
def shP (d : Int) (x : Pp) : Pp := ⟨x.of, x.by_, x.wr, x.yr + d, x.dr⟩
theorem sh_chains {d : Int} {rec rec' : Int → Int → Option Ch} {q y : Int} {r r' : Nat → Pp} (hrec : ∀ a b, rec' a (b + d) = rec a b) : ∀ {m : Nat}, (∀ j, j < m → r' j = shP d (r j)) → chainsC rec' ag q (y + d) r' m = chainsC rec ag q y r m
  | 0, _ => rfl
  | m + 1, h => by
    rw [chainsC, chainsC, sh_chains hrec (m := m) (fun j hj => h j (by omega)), h m (by omega)]
    congr 1
    unfold oneC
    have e1 : holdsV q (y + d) (shP d (r m)) ag = holdsV q y (r m) ag := by
      unfold holdsV inB shP
      rw [Bool.eq_iff_iff]
      simp only [Bool.and_eq_true, decide_eq_true_eq]
      omega
    have e2 : rec' (shP d (r m)).by_ (shP d (r m)).yr = rec (r m).by_ (r m).yr := hrec _ _
    have e3 : ∀ c, linkC (y + d) m (shP d (r m)) c = linkC y m (r m) c := fun c => by
      unfold linkC addsV shP
      simp only
      rw [show y + d - ((r m).yr + d) = y - (r m).yr by omega]
    rw [e1, e2]
    simp only [e3]
theorem sh_best {d : Int} {r r' : Nat → Pp} (h : ∀ j, j < n → r' j = shP d (r j)) : ∀ (k : Nat) (q y : Int), bestW ag n r' k q (y + d) = bestW ag n r k q y
  | 0, q, y => rfl
  | k + 1, q, y => by
    rw [bestW, bestW, sh_chains (fun a b => sh_best h k a b) h]
theorem sh_bst {d : Int} {r r' : Nat → Pp} (h : ∀ j, j < n → r' j = shP d (r j)) (q y : Int) : bst ag n r' q (y + d) = bst ag n r q y := sh_best h n q y
theorem sh_bnL (d q y : Int) : bnL ag (papL n fun i => ppC (shP d (L i))) q (y + d) = bnL ag (papL n fun i => ppC (L i)) q y := by
  rw [bnL_L, bnL_L]
  exact sh_bst (fun j _ => rfl) q y
theorem sh_bound {d : Int} (hv : validV it ag (papL n fun i => ppC (L i)) = true) (hv2 : validV it ag (papL n fun i => ppC (shP d (L i))) = true) (hit : 1 ≤ it ∧ it ≤ 6) {q y : Int} (hq : 0 ≤ q ∧ q < it) (hy : 0 ≤ y ∧ y ≤ 20) (hd : 0 ≤ d ∧ y + d ≤ 20) :
    boundR it ag (papL n fun i => ppC (shP d (L i))) q (y + d) = boundR it ag (papL n fun i => ppC (L i)) q y ∧ boundE it ag (papL n fun i => ppC (shP d (L i))) q (y + d) = boundE it ag (papL n fun i => ppC (L i)) q y ∧ chainL it ag (papL n fun i => ppC (shP d (L i))) q (y + d) = chainL it ag (papL n fun i => ppC (L i)) q y := by
  obtain ⟨a1, a2⟩ := bound_in hv hit hq hy
  obtain ⟨b1, b2⟩ := bound_in (q := q) (z := y + d) hv2 hit hq ⟨by omega, hd.2⟩
  have a3 := chain_in hv hit hq hy
  have b3 := chain_in (q := q) (z := y + d) hv2 hit hq ⟨by omega, hd.2⟩
  rw [a1, a2, a3, b1, b2, b3, sh_bnL]
  exact ⟨rfl, rfl, rfl⟩
theorem sh_rnL {d S y : Int} : ∀ i, rnL (fun j => shP d (L j)) S (y + d) i = (rnL L S y i).map (shP d)
  | 0 => rfl
  | i + 1 => by
    rw [rnL, rnL, sh_rnL i]
    split
    · rw [List.map_append]; rfl
    · rfl
theorem sh_rnw {d S y : Int} : rnw n (fun j => shP d (L j)) S (y + d) = (rnw n L S y).map (shP d) := by
  unfold rnw rnB
  rw [List.map_append, sh_rnL, List.map_map]
  rfl
theorem sh_eno {d S y lim : Int} : enoB it ag n (fun j => shP d (L j)) S (y + d) lim = enoB it ag n L S y lim := by
  unfold enoB
  have e : bnN ag (rnw n (fun j => shP d (L j)) S (y + d)) (y + d) = bnN ag (rnw n L S y) y := by
    funext i
    unfold bnN bnL
    rw [sh_rnw, List.length_map]
    rw [sh_bst (r := pget (rnw n L S y)) (d := d) (fun j hj => by simp [pget, List.getD, hj])]
  rw [e]
theorem sh_ren {d : Int} (hv : validV it ag (papL n fun i => ppC (L i)) = true) (hv2 : validV it ag (papL n fun i => ppC (shP d (L i))) = true) {y lim : Int} (hy : 0 ≤ y ∧ y ≤ 20) (hd : 0 ≤ d ∧ y + d ≤ 20) :
    renE it ag (papL n fun i => ppC (shP d (L i))) (y + d) lim = renE it ag (papL n fun i => ppC (L i)) y lim ∧ renR it ag (papL n fun i => ppC (shP d (L i))) (y + d) lim = renR it ag (papL n fun i => ppC (L i)) y lim := by
  have e0 : renE0 it ag (papL n fun i => ppC (shP d (L i))) (y + d) lim = renE0 it ag (papL n fun i => ppC (L i)) y lim := by
    unfold renE0
    rw [hv, hv2, inB_in hy, inB_in (show 0 ≤ y + d ∧ y + d ≤ 20 from ⟨by omega, hd.2⟩)]
  have eP : enoP it ag (papL n fun i => ppC (shP d (L i))) (y + d) lim = enoP it ag (papL n fun i => ppC (L i)) y lim := by
    rw [enoP_papL, enoP_papL]
    funext S
    exact sh_eno (L := L)
  have eL : renL it ag (papL n fun i => ppC (shP d (L i))) (y + d) lim = renL it ag (papL n fun i => ppC (L i)) y lim := by
    unfold renL renS
    rw [eP, papL_len, papL_len]
  have eE : renE it ag (papL n fun i => ppC (shP d (L i))) (y + d) lim = renE it ag (papL n fun i => ppC (L i)) y lim := by
    unfold renE
    rw [e0, eL]
  refine ⟨eE, ?_⟩
  unfold renR
  rw [eE, eL]
end
end Go.X.Ps
end

section
set_option linter.unusedVariables false
set_option linter.unusedSimpArgs false
set_option linter.unusedSectionVars false
/- Pass: the closure that numbers items otherwise. -/
set_option linter.unusedVariables false
set_option linter.unusedSimpArgs false
set_option maxRecDepth 10000
set_option maxHeartbeats 4000000
namespace Go.X.Ps
open Go Go.Proofs Go.X
def c39 : Ct := fun fr args H => match args with
  | [.si .i64 q, .sp px 0] => (match H px with
    | some (.cells 24 l) => passK H l fun i1 it ag n get => some ⟨some (Pps n get ∧ (1 ≤ it ∧ it ≤ 6) ∧ -1 ≤ q ∧ q < it), none, .si .i64 (turnQ it q), []⟩
    | _ => none)
  | _ => none
theorem c39_mono : CtMono c39 := by
  intro fr args H H' out hH h
  unfold c39 at h ⊢
  split at h
  · split at h
    · rename_i e1
      simp only [hH _ _ e1]
      exact passK_mono hH h
    · cases h
  · cases h
theorem k39 {l : List (Nat × Ct)} (g0 : Good P T l) : COk P 39 c39 := by
  have g := good0
  refine cok (C := tabC _) g.ok Try.func39 (c := code Try.f39) rfl fun fr args H out h hp => ?_
  unfold c39 at h
  split at h
  case h_2 => cases h
  rename_i q px
  split at h
  case h_2 => cases h
  rename_i l e1
  obtain ⟨i1, it, ag, n, get, rfl, e4, h⟩ := passK_some h
  cases h
  obtain ⟨hs, hit, hq⟩ : Pps n get ∧ (1 ≤ it ∧ it ≤ 6) ∧ -1 ≤ q ∧ q < it := hp
  have hh : Hand H [(i1, .ro 5 n fun i => ppC (ppAt get i)), (px, .cells 24 (paA 0 it ag))] := hand_nd ⟨sliceOf_piece e4 fun i hi => (hs i hi).symm, e1, trivial⟩ (by repeat' (first | exact trivial | (intro i hi; exact ⟨trivial, trivial, trivial, trivial, trivial, trivial⟩) | refine And.intro ?_ ?_ | exact (by decide : (0 : Nat) < 2))) (by
    have n1 : i1 ≠ px := fun e => by subst e; unfold sliceOf at e4; rw [e1] at e4; cases e4
    simp [n1])
  refine ⟨[(i1, .ro 5 n fun i => ppC (ppAt get i)), (px, .cells 24 (paA 0 it ag))], [.si .i64 q, .sp 1 0], [(0, .ro 5 n fun i => ppC (ppAt get i)), (1, .cells 24 (paA 0 it ag))], 2, [], rfl, rfl, Nat.le_of_ble_eq_true rfl, hh, rfl, rfl, fun G hG => ?_⟩
  refine Br.mk (fun h => ?_) (fun h => ?_)
  · have h : q < 0 := of_decide_eq_true h
    exact ⟨.inl rfl, end_noid ⟨rfl, (show q = turnQ it q from (if_pos h).symm)⟩ rfl rfl (by repeat' (first | exact trivial | exact rfl | (intro i hi; exact ⟨rfl, rfl⟩) | refine And.intro ?_ ?_))⟩
  · have h : ¬ q < 0 := of_decide_eq_false h
    refine Chk.mk (show InK .i64 (it - 1) from ⟨by omega, by omega⟩) (Chk.mk (show InK .i64 (it - 1 - q) from ⟨by omega, by omega⟩) ?_)
    exact ⟨.inl rfl, end_noid ⟨rfl, (show it - 1 - q = turnQ it q from (if_neg h).symm)⟩ rfl rfl (by repeat' (first | exact trivial | exact rfl | (intro i hi; exact ⟨rfl, rfl⟩) | refine And.intro ?_ ?_))⟩
theorem g39 {l : List (Nat × Ct)} (g : Good P T l) : Good P T ((39, c39) :: l) := g.add (k39 g) c39_mono (body_of Try.func39 (c := code Try.f39) rfl (by decide))
end Go.X.Ps
end
