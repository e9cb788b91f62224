/- Renewed certificates, and whether they are enough. -/
import Derived.Test.YtknjpbmkpjcgjaaOO

section
set_option linter.unusedVariables false
set_option linter.unusedSimpArgs false
set_option linter.unusedSectionVars false
/- Regions of any order: one operation between the others, which may write over a slot; where new cells get the numbers that come. -/
set_option linter.unusedVariables false
set_option linter.unusedSimpArgs false
set_option maxRecDepth 10000
set_option maxHeartbeats 4000000
namespace Go.X
open Go

end Go.X
end

section
set_option linter.unusedVariables false
set_option linter.unusedSimpArgs false
set_option linter.unusedSectionVars false
/- Pass: the document's renewed certificates: how the first ones are copied. -/
set_option linter.unusedVariables false
set_option linter.unusedSimpArgs false
set_option maxRecDepth 10000
set_option maxHeartbeats 4000000
namespace Go.X.Ps
open Go Go.Proofs Go.X

section
variable {C : Nat → Option Ct} {G : Base} {it ag S y : Int} {n : Nat} {r : Nat → Pp} {K : Ex → St → Prop}
end
end Go.X.Ps
end

section
set_option linter.unusedVariables false
set_option linter.unusedSimpArgs false
set_option linter.unusedSectionVars false
/- Pass: powers of two, and the document's sets. -/
set_option linter.unusedVariables false
set_option linter.unusedSimpArgs false
set_option maxRecDepth 10000
set_option maxHeartbeats 1000000
namespace Go.X.Ps
open Go Go.Proofs Go.X

/-!  power -/
/-!  Has, Size -/
/-- How many bits. -/
def sizeN : Nat → Nat
  | 0 => 0
  | n + 1 => (n + 1) % 2 + sizeN ((n + 1) / 2)
decreasing_by omega
theorem sizeN_pos {n : Nat} (h : 0 < n) : sizeN n = n % 2 + sizeN (n / 2) := by
  obtain ⟨m, rfl⟩ : ∃ m, n = m + 1 := ⟨n - 1, by omega⟩
  rw [sizeN]
theorem sizeN_le (n : Nat) : sizeN n ≤ n := by
  induction n using Nat.strongRecOn with
  | _ n ih =>
    rcases Nat.eq_zero_or_pos n with rfl | h
    · simp [sizeN]
    · rw [sizeN_pos h]
      have := ih (n / 2) (by omega)
      omega

def c38 : Ct := plainCt fun
  | [.si .i64 x] => some ⟨some (x < 4611686018427387904), none, .si .i64 (sizeN x.toNat), []⟩
  | _ => none
theorem k38 {l : List (Nat × Ct)} (g : Good P T l) : COk P 38 c38 := cok (C := tabC l) g.ok Try.func38 (c := code Try.f38) rfl fun fr args H out h hp => by
  simp only [c38, plainCt] at h
  split at h
  · rename_i x
    cases h
    have hp : x < 4611686018427387904 := hp
    refine walk_plain rfl (Nat.le_of_ble_eq_true rfl) fun G hG => ?_
    refine loop_ok (g.ok _ _ _) (fun y : {y : Int × Int // y.1 ≤ x ∧ 0 ≤ y.2 ∧ y.2 + sizeN y.1.toNat = sizeN x.toNat} => ⟨[(0, ⟨[], .si .i64 y.1.1⟩), (3, ⟨[], .si .i64 y.1.2⟩)], [], [], 0, []⟩) (fun y => y.1.1.toNat) (fun _ => hG)
      ⟨(x, 0), by refine ⟨by omega, by omega, ?_⟩; simp⟩ ?_ ?_
    · refine ⟨?_, ?_, rfl, rfl, rfl⟩ <;> repeat' (first | exact trivial | exact rfl | refine And.intro ?_ ?_)
    · rintro ⟨⟨y, n⟩, h1, h2, h3⟩
      simp only at h1 h2 h3
      have hle := sizeN_le x.toNat
      refine Br.mk (fun h => ?_) (fun h => ?_)
      · have h : (0 : Int) < y := of_decide_eq_true h
        have e1 : y.tmod 2 = y % 2 := Int.tmod_eq_emod_of_nonneg (by omega)
        have e2 : y.tdiv 2 = y / 2 := Int.tdiv_eq_ediv_of_nonneg (by omega)
        have hs := sizeN_pos (n := y.toNat) (by omega)
        refine Chk.mk (show (2 : Int) ≠ 0 by decide) (Chk.mk (show _ ∧ _ from ?_) (Chk.mk (show _ ∧ _ from ⟨by decide, ?_⟩) ⟨⟨(y / 2, n + y % 2), ?_⟩, ?_, ?_⟩))
        · show _ ≤ n + y.tmod 2 ∧ n + y.tmod 2 ≤ _
          omega
        · show _ ≤ y.tdiv 2 ∧ y.tdiv 2 ≤ _
          omega
        · have e3 : (y / 2).toNat = y.toNat / 2 := by omega
          simp only [e3]
          omega
        · refine ⟨?_, ?_, rfl, rfl, rfl⟩ <;> repeat' (first | exact trivial | exact rfl | refine And.intro ?_ ?_)
          · exact e2
          · show n + y.tmod 2 = n + y % 2
            rw [e1]
        · show (y / 2).toNat < y.toNat
          omega
      · have h : ¬ (0 : Int) < y := of_decide_eq_false h
        refine ⟨.inl rfl, end_plain ⟨rfl, ?_⟩ rfl rfl⟩
        show n = sizeN x.toNat
        rw [show y.toNat = 0 by omega] at h3
        simp [sizeN] at h3
        omega
  · cases h

theorem g38 {l : List (Nat × Ct)} (g : Good P T l) : Good P T ((38, c38) :: l) := g.add (k38 g) (plainCt_mono _) (body_of Try.func38 (c := code Try.f38) rfl (by decide))
theorem size_all : ∀ x, x < 256 → sizeN x = popN x := by
  have h : ((List.range 256).all fun x => decide (sizeN x = popN x)) = true := by
    have e : ∀ k, ∀ x, x < 2 ^ k → sizeN x = (Nat.rec (fun _ => 0) (fun _ r x => if x = 0 then 0 else x % 2 + r (x / 2)) k : Nat → Nat) x := by
      intro k
      induction k with
      | zero => intro x hx; obtain rfl : x = 0 := by omega
                rw [sizeN]; rfl
      | succ k ih =>
        intro x hx
        rcases Nat.eq_zero_or_pos x with rfl | h0
        · rw [sizeN]; rfl
        · rw [sizeN_pos h0, ih (x / 2) (by rw [Nat.pow_succ] at hx; omega)]
          show _ = if x = 0 then 0 else _
          rw [if_neg (by omega)]
    rw [List.all_eq_true]
    intro x hx
    rw [decide_eq_true_eq, e 8 x (by have := List.mem_range.1 hx; omega)]
    have : ((List.range 256).all fun x => decide ((Nat.rec (fun _ => 0) (fun _ r x => if x = 0 then 0 else x % 2 + r (x / 2)) 8 : Nat → Nat) x = popN x)) = true := by decide +kernel
    exact of_decide_eq_true (List.all_eq_true.1 this x hx)
  intro x hx
  exact of_decide_eq_true (List.all_eq_true.1 h x (List.mem_range.2 hx))
end Go.X.Ps
end

section
set_option linter.unusedVariables false
set_option linter.unusedSimpArgs false
set_option linter.unusedSectionVars false
/- Pass: the document's renewed certificates, and their contract. -/
set_option linter.unusedVariables false
set_option linter.unusedSimpArgs false
set_option maxRecDepth 10000
set_option maxHeartbeats 4000000
namespace Go.X.Ps
open Go Go.Proofs Go.X

end Go.X.Ps
end

section
set_option linter.unusedVariables false
set_option linter.unusedSimpArgs false
set_option linter.unusedSectionVars false
/- Pass: are renewed certificates enough, as the law asks? -/
set_option linter.unusedVariables false
set_option linter.unusedSimpArgs false
set_option maxRecDepth 10000
set_option maxHeartbeats 4000000
namespace Go.X.Ps
open Go Go.Proofs Go.X

end Go.X.Ps
end

section
set_option linter.unusedVariables false
set_option linter.unusedSimpArgs false
set_option linter.unusedSectionVars false
/- Pass: laws of renewed certificates (plain). -/
set_option linter.unusedVariables false
set_option linter.unusedSimpArgs false
set_option maxRecDepth 100000
set_option maxHeartbeats 4000000
namespace Go.X.Ps
open Go Go.Proofs Go.X

/-! ### The least of a list of sets -/
theorem lstN_spec {f : Nat → Nat} : ∀ {n : Nat}, 0 < n → (∀ i j, i < j → j < n → f i < f j) → (∃ i, i < n ∧ f i = lstN f n) ∧ ∀ i, i < n → popN (lstN f n) ≤ popN (f i) ∧ (popN (f i) = popN (lstN f n) → lstN f n ≤ f i)
  | 0, h, _ => absurd h (Nat.lt_irrefl 0)
  | n + 1, _, hf => by
    rw [lstN]
    by_cases h0 : n = 0
    · subst h0
      rw [if_pos rfl]
      refine ⟨⟨0, by omega, rfl⟩, fun i hi => ?_⟩
      obtain rfl : i = 0 := by omega
      exact ⟨Nat.le_refl _, fun _ => Nat.le_refl _⟩
    · rw [if_neg h0]
      obtain ⟨⟨k, hk, hk2⟩, hall⟩ := lstN_spec (f := f) (n := n) (by omega) (fun i j h1 h2 => hf i j h1 (by omega))
      by_cases hp : popN (f n) < popN (lstN f n)
      · rw [if_pos hp]
        refine ⟨⟨n, by omega, rfl⟩, fun i hi => ?_⟩
        by_cases hin : i = n
        · subst hin; exact ⟨Nat.le_refl _, fun _ => Nat.le_refl _⟩
        · have := hall i (by omega)
          exact ⟨by omega, fun h => by omega⟩
      · rw [if_neg hp]
        refine ⟨⟨k, by omega, hk2⟩, fun i hi => ?_⟩
        by_cases hin : i = n
        · subst hin
          refine ⟨by omega, fun _ => ?_⟩
          have := hf k i hk (by omega)
          omega
        · exact hall i (by omega)
theorem renL_mem {it ag : Int} {ps : List Pp} {y lim : Int} {S : Nat} : S ∈ renL it ag ps y lim ↔ S < 2 ^ ps.length ∧ enoP it ag ps y lim S = true := by
  unfold renL renS
  rw [List.mem_filter, List.mem_range]
theorem renL_lt {it ag : Int} {ps : List Pp} {y lim : Int} : ∀ i j, i < j → j < (renL it ag ps y lim).length → (renL it ag ps y lim).getD i 0 < (renL it ag ps y lim).getD j 0 := by
  intro i j h1 h2
  have hp : (renL it ag ps y lim).Pairwise (· < ·) := List.Pairwise.filter _ List.pairwise_lt_range
  have := List.pairwise_iff_getElem.1 hp i j (by omega) h2 h1
  simpa [List.getD, h2, show i < (renL it ag ps y lim).length by omega] using this
/-- What is told of renewals. -/
theorem ren_spec {it ag : Int} {ps : List Pp} {y lim : Int} (hv : validV it ag ps = true) (hy : 0 ≤ y ∧ y ≤ 20) (hl : 0 ≤ lim ∧ lim ≤ 2000) :
    (renE it ag ps y lim = 0 ∧ ∃ m : Nat, renR it ag ps y lim = (m : Int) ∧ m < 2 ^ ps.length ∧ enoP it ag ps y lim m = true ∧ ∀ S, S < 2 ^ ps.length → enoP it ag ps y lim S = true → popN m ≤ popN S ∧ (popN S = popN m → m ≤ S)) ∨
    (renE it ag ps y lim = 4 ∧ renR it ag ps y lim = 0 ∧ ∀ S, S < 2 ^ ps.length → enoP it ag ps y lim S = false) := by
  have e0 : renE0 it ag ps y lim = 0 := by
    unfold renE0
    rw [hv, inB_in hy, inB_in hl]
    rfl
  have eE : renE it ag ps y lim = if 0 < (renL it ag ps y lim).length then 0 else 4 := by unfold renE; rw [if_pos e0]
  by_cases h : 0 < (renL it ag ps y lim).length
  · left
    rw [if_pos h] at eE
    refine ⟨eE, lstL (renL it ag ps y lim), by unfold renR; rw [if_pos eE], ?_⟩
    obtain ⟨⟨k, hk, hk2⟩, hall⟩ := lstN_spec (f := fun i => (renL it ag ps y lim).getD i 0) h renL_lt
    have hm : lstL (renL it ag ps y lim) ∈ renL it ag ps y lim := by
      have e : (renL it ag ps y lim).getD k 0 = lstL (renL it ag ps y lim) := hk2
      rw [← e]
      simp [List.getD, hk]
    obtain ⟨m1, m2⟩ := renL_mem.1 hm
    refine ⟨m1, m2, fun S h1 h2 => ?_⟩
    obtain ⟨i, hi, hi2⟩ := List.mem_iff_getElem.1 (renL_mem.2 ⟨h1, h2⟩)
    have := hall i hi
    have e : (renL it ag ps y lim).getD i 0 = S := by simp [List.getD, hi, hi2]
    rw [e] at this
    exact this
  · right
    rw [if_neg h] at eE
    refine ⟨eE, by unfold renR; rw [if_neg (by rw [eE]; decide)], fun S h1 => ?_⟩
    cases h2 : enoP it ag ps y lim S with
    | false => rfl
    | true =>
      have := renL_mem.2 ⟨h1, h2⟩
      have := List.length_pos_of_mem this
      omega
/-! ### More is enough, too -/
theorem rnL_in {r : Nat → Pp} {S y : Int} {j : Nat} (hb : hasB S j = true) : ∀ {i}, j < i → rnX (r j) y ∈ rnL r S y i
  | 0, h => absurd h (Nat.not_lt_zero _)
  | i + 1, h => by
    rw [rnL]
    by_cases e : j = i
    · subst e
      rw [if_pos hb]
      exact List.mem_append_right _ List.mem_cons_self
    · have := rnL_in (r := r) (y := y) hb (i := i) (by omega)
      split
      · exact List.mem_append_left _ this
      · exact this
theorem mem_pget {l : List Pp} {x : Pp} (h : x ∈ l) : ∃ j, j < l.length ∧ pget l j = x := by
  obtain ⟨j, h1, h2⟩ := List.mem_iff_getElem.1 h
  exact ⟨j, h1, by simp [pget, List.getD, h1, h2]⟩
theorem pget_mem {l : List Pp} {j : Nat} (h : j < l.length) : pget l j ∈ l := by
  have : pget l j = l[j] := by simp [pget, List.getD, h]
  rw [this]
  exact List.getElem_mem h
theorem ren_b {it ag : Int} {ps : List Pp} {y lim : Int} (hv : validV it ag ps = true) (h8 : ps.length ≤ 8) (hy : 0 ≤ y ∧ y ≤ 20) (hl : 0 ≤ lim ∧ lim ≤ 2000) : 0 ≤ renR it ag ps y lim ∧ renR it ag ps y lim < 256 := by
  have hE8 : 2 ^ ps.length ≤ 2 ^ 8 := Nat.pow_le_pow_right (by decide) h8
  rcases ren_spec hv hy hl with ⟨_, m, e, h, _⟩ | ⟨_, e, _⟩
  · rw [e]; omega
  · rw [e]; omega
end Go.X.Ps
end
