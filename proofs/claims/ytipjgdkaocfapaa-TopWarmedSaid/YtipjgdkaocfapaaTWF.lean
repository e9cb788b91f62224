/- TopWarmed: region 24, all orders come to one state; TopWarmed: arguments opened: blocks, whose readings are slices. -/
import Derived.Test.YtipjgdkaocfapaaTWE
import Derived.Test.YtipjgdkaocfapaaTWD
import Derived.Test.YtipjgdkaocfapaaTWC

section
set_option linter.unusedVariables false
set_option linter.unusedSimpArgs false
set_option linter.unusedSectionVars false
/- TopWarmed: region 24, all orders come to one state. -/
set_option linter.unusedVariables false
set_option linter.unusedSimpArgs false
set_option maxRecDepth 10000
set_option maxHeartbeats 4000000
namespace Go.X.W
open Go Go.Proofs Go.X
section
variable {G : Base} {p : Par} {vs : List Value} {c : Int} {i : Nat} {K : Ex → St → Prop}
def StepN (G : Base) (p : Par) (vs : List Value) (i j : Nat) (H H' : List (Nat × HB)) (sl' : List (Nat × FE)) (nx' : Nat) : Prop := ∃ o, op24[j]? = some o ∧ o.guard = none ∧ ∀ (tail : List (Nat × FE)) (Q : Exit → Act → World → Prop) (Kn : St → Prop), Cont (X3 G) Q Kn (fun _ _ => False) → Kn ⟨sl' ++ ((an24 j).flatMap (sl24 p i vs) ++ (b24 p i ++ tail)), [], H', nx', []⟩ →
  execL (X3 G) [o] Q Kn (fun _ _ => False) 0 [o] ⟨(an24 j).flatMap (sl24 p i vs) ++ (b24 p i ++ tail), [], H, 25, []⟩
theorem st24_3 (b8 b12 : Bool) : StepN G p vs i 3 (hh24 p i vs c false false b8 false b12) ((25, .row 3 1 1 [.si .i64 (lnV p i)]) :: hh24 p i vs c false false b8 false b12) [(134, ⟨[], .sl 25⟩)] 26 :=
  ⟨_, rfl, rfl, fun tail Q Kn hC hK => hK⟩
theorem st24_4 (hi : i < 10) (b8 b12 : Bool) : StepN G p vs i 4 (hh24 p i vs c true false b8 false b12) ((25, .vec 3 1 (i + 1) (lnG p)) :: (7, .dead) :: hh24 p i vs c true false b8 false b12) [(135, ⟨[], .sl 25⟩)] 26 :=
  ⟨_, rfl, rfl, fun tail Q Kn hC hK => fb_append (Te := 0) 7 20 i 1 _ _ (lnG p) (ok3 G) hC rfl rfl rfl rfl rfl rfl rfl rfl rfl rfl rfl rfl (by decide) (by decide) rfl rfl rfl rfl (by omega) (fun k hk => by
    rcases Nat.lt_or_ge k i with h1 | h1
    · rw [if_pos h1]
    · obtain rfl : k = i := by omega
      rw [if_neg (by omega), show k - k = 0 by omega]
      rfl) hK⟩
theorem st24_8 (b3 b4 b12 : Bool) : StepN G p vs i 8 (hh24 p i vs c b3 b4 false false b12) ((25, .row 3 1 1 [.si .i64 (coV p i)]) :: hh24 p i vs c b3 b4 false false b12) [(139, ⟨[], .sl 25⟩)] 26 :=
  ⟨_, rfl, rfl, fun tail Q Kn hC hK => hK⟩
theorem st24_9 (hi : i < 10) (b12 : Bool) : StepN G p vs i 9 (hh24 p i vs c true true true false b12) ((25, .vec 3 1 (i + 1) (coG p)) :: (8, .dead) :: hh24 p i vs c true true true false b12) [(140, ⟨[], .sl 25⟩)] 26 :=
  ⟨_, rfl, rfl, fun tail Q Kn hC hK => fb_append (Te := 0) 8 22 i 1 _ _ (coG p) (ok3 G) hC rfl rfl rfl rfl rfl rfl rfl rfl rfl rfl rfl rfl (by decide) (by decide) rfl rfl rfl rfl (by omega) (fun k hk => by
    rcases Nat.lt_or_ge k i with h1 | h1
    · rw [if_pos h1]
    · obtain rfl : k = i := by omega
      rw [if_neg (by omega), show k - k = 0 by omega]
      rfl) hK⟩
theorem st24_12 (b3 b4 b8 b9 : Bool) : StepN G p vs i 12 (hh24 p i vs c b3 b4 b8 b9 false) ((25, .row 36 6 1 (wbC (rtW p vs i))) :: hh24 p i vs c b3 b4 b8 b9 false) [(143, ⟨[], .sl 25⟩)] 26 :=
  ⟨_, rfl, rfl, fun tail Q Kn hC hK => hK⟩
theorem st24_0_0 (S : List (Nat × HB)) : StepN G p vs i 0 (ba24 p i vs c ++ S) (ba24 p i vs c ++ S) (sl24 p i vs 0) 25 := by
  refine ⟨_, rfl, rfl, fun tail Q Kn hC hK => ?_⟩
  first | exact hK | exact fb_again (ok3 G) hC rfl hK
theorem st24_0_1 (S : List (Nat × HB)) : StepN G p vs i 1 (ba24 p i vs c ++ S) (ba24 p i vs c ++ S) (sl24 p i vs 1) 25 := by
  refine ⟨_, rfl, rfl, fun tail Q Kn hC hK => ?_⟩
  first | exact hK | exact fb_again (ok3 G) hC rfl hK
theorem st24_0_2 (S : List (Nat × HB)) : StepN G p vs i 2 (ba24 p i vs c ++ S) (ba24 p i vs c ++ S) (sl24 p i vs 2) 25 := by
  refine ⟨_, rfl, rfl, fun tail Q Kn hC hK => ?_⟩
  first | exact hK | exact fb_again (ok3 G) hC rfl hK
theorem st24_0_5 (S : List (Nat × HB)) : StepN G p vs i 5 (ba24 p i vs c ++ S) (ba24 p i vs c ++ S) (sl24 p i vs 5) 25 := by
  refine ⟨_, rfl, rfl, fun tail Q Kn hC hK => ?_⟩
  first | exact hK | exact fb_again (ok3 G) hC rfl hK
theorem st24_0_6 (S : List (Nat × HB)) : StepN G p vs i 6 (ba24 p i vs c ++ S) (ba24 p i vs c ++ S) (sl24 p i vs 6) 25 := by
  refine ⟨_, rfl, rfl, fun tail Q Kn hC hK => ?_⟩
  first | exact hK | exact fb_again (ok3 G) hC rfl hK
theorem st24_0_7 (S : List (Nat × HB)) : StepN G p vs i 7 (ba24 p i vs c ++ S) (ba24 p i vs c ++ S) (sl24 p i vs 7) 25 := by
  refine ⟨_, rfl, rfl, fun tail Q Kn hC hK => ?_⟩
  first | exact hK | exact fb_again (ok3 G) hC rfl hK
theorem st24_0_10 (S : List (Nat × HB)) : StepN G p vs i 10 (ba24 p i vs c ++ S) (ba24 p i vs c ++ S) (sl24 p i vs 10) 25 := by
  refine ⟨_, rfl, rfl, fun tail Q Kn hC hK => ?_⟩
  first | exact hK | exact fb_again (ok3 G) hC rfl hK
theorem st24_0_11 (S : List (Nat × HB)) : StepN G p vs i 11 (ba24 p i vs c ++ S) (ba24 p i vs c ++ S) (sl24 p i vs 11) 25 := by
  refine ⟨_, rfl, rfl, fun tail Q Kn hC hK => ?_⟩
  first | exact hK | exact fb_again (ok3 G) hC rfl hK
theorem st24_0 (j : Nat) (hj : j < 13) (h : ¬ (j = 3 ∨ j = 4 ∨ j = 8 ∨ j = 9 ∨ j = 12)) (S : List (Nat × HB)) : StepN G p vs i j (ba24 p i vs c ++ S) (ba24 p i vs c ++ S) (sl24 p i vs j) 25 := by
  rcases (show j = 0 ∨ j = 1 ∨ j = 2 ∨ j = 5 ∨ j = 6 ∨ j = 7 ∨ j = 10 ∨ j = 11 by omega) with rfl | rfl | rfl | rfl | rfl | rfl | rfl | rfl
  · exact st24_0_0 S
  · exact st24_0_1 S
  · exact st24_0_2 S
  · exact st24_0_5 S
  · exact st24_0_6 S
  · exact st24_0_7 S
  · exact st24_0_10 S
  · exact st24_0_11 S
theorem no24 {l : List Bool} (hcl : clB2 an24 l = true) {a b : Nat} (hb : b ∈ an24 a) (h : l.getD b false = false) : l.getD a false = false := by
  cases h7 : l.getD a false with
  | false => rfl
  | true => have := clB_at (anc := an24) hcl h7 hb; rw [this] at h; cases h
theorem reg24 (hG : ∀ j, 3 ≤ j → G.ρ j = none) (hi : i < 10)
    (hK : AnyS (X3 G) op24 4 (ar24 (List.replicate 13 true)) ⟨slF (sl24 p i vs) (b24 p i) (List.replicate 13 true), [], hh24 p i vs c true true true true true, 25, []⟩ K) :
    AnyS (X3 G) op24 17 (Array.replicate 17 false) ⟨b24 p i, [], hh24 p i vs c false false false false false, 25, []⟩ K := by
  refine any_latN (D := []) (ok3 G) 13 ar24 (fun i => i) (exM 13) (sl24 p i vs) (b24 p i) (Hf24 p i vs c) (fun _ => 25) an24 4 3 hG (fun a ha j hj => by have := an24_lt a j hj; omega) (latX_sym lat24) ?_ ?_ ?_ (List.replicate 13 false) rfl (by decide)
  · repeat' (first | exact trivial | exact ⟨rfl, rfl⟩ | refine And.intro ?_ ?_)
  · intro j hj l hl' hf ha hcl
    have n3 : j ≠ 3 → (l.set j true).getD 3 false = l.getD 3 false := getN
    have n4 : j ≠ 4 → (l.set j true).getD 4 false = l.getD 4 false := getN
    have n8 : j ≠ 8 → (l.set j true).getD 8 false = l.getD 8 false := getN
    have n9 : j ≠ 9 → (l.set j true).getD 9 false = l.getD 9 false := getN
    have n12 : j ≠ 12 → (l.set j true).getD 12 false = l.getD 12 false := getN
    have e := getS (l := l) (i := j) (by omega)
    have f := getF (l := l) (i := j) (by omega) hf
    simp only [Hf24]
    by_cases h3 : j = 3
    · subst h3
      have f4 := no24 hcl (show 3 ∈ an24 4 by decide) f
      have f9 := no24 hcl (show 4 ∈ an24 9 by decide) f4
      rw [e, f, n4 (by decide), f4, n8 (by decide), n9 (by decide), f9, n12 (by decide)]
      obtain ⟨o, q1, q2, q3⟩ := st24_3 (G := G) (p := p) (vs := vs) (c := c) (i := i) (l.getD 8 false) (l.getD 12 false)
      exact ⟨o, q1, q2, .inr ⟨sw 20, _, _, _, wk24_3 _ _, (keep24 (vs := vs) (by omega)).1, fun k hk hk' => (keep24 (by omega)).2 k hk (by omega) (by omega) (by omega) (by omega) (by omega), q3⟩⟩
    by_cases h4 : j = 4
    · subst h4
      have f3 : l.getD 3 false = true := ha 3 (by decide)
      have f9 := no24 hcl (show 4 ∈ an24 9 by decide) f
      rw [e, f, n3 (by decide), f3, n8 (by decide), n9 (by decide), f9, n12 (by decide)]
      obtain ⟨o, q1, q2, q3⟩ := st24_4 (G := G) (p := p) (vs := vs) (c := c) hi (l.getD 8 false) (l.getD 12 false)
      exact ⟨o, q1, q2, .inr ⟨sw 21, _, _, _, wk24_4 _ _, (keep24 (vs := vs) (by omega)).1, fun k hk hk' => (keep24 (by omega)).2 k hk (by omega) (by omega) (by omega) (by omega) (by omega), q3⟩⟩
    by_cases h8 : j = 8
    · subst h8
      have f9 := no24 hcl (show 8 ∈ an24 9 by decide) f
      rw [e, f, n3 (by decide), n4 (by decide), n9 (by decide), f9, n12 (by decide)]
      obtain ⟨o, q1, q2, q3⟩ := st24_8 (G := G) (p := p) (vs := vs) (c := c) (i := i) (l.getD 3 false) (l.getD 4 false) (l.getD 12 false)
      exact ⟨o, q1, q2, .inr ⟨sw 22, _, _, _, wk24_8 _ _ _, (keep24 (vs := vs) (by omega)).1, fun k hk hk' => (keep24 (by omega)).2 k hk (by omega) (by omega) (by omega) (by omega) (by omega), q3⟩⟩
    by_cases h9 : j = 9
    · subst h9
      have f4 : l.getD 4 false = true := ha 4 (by decide)
      have f8 : l.getD 8 false = true := ha 8 (by decide)
      have f3 : l.getD 3 false = true := clB_at (anc := an24) hcl f4 (by decide)
      rw [e, f, n3 (by decide), f3, n4 (by decide), f4, n8 (by decide), f8, n12 (by decide)]
      obtain ⟨o, q1, q2, q3⟩ := st24_9 (G := G) (p := p) (vs := vs) (c := c) hi (l.getD 12 false)
      exact ⟨o, q1, q2, .inr ⟨sw 23, _, _, _, wk24_9 _, (keep24 (vs := vs) (by omega)).1, fun k hk hk' => (keep24 (by omega)).2 k hk (by omega) (by omega) (by omega) (by omega) (by omega), q3⟩⟩
    by_cases h12 : j = 12
    · subst h12
      rw [e, f, n3 (by decide), n4 (by decide), n8 (by decide), n9 (by decide)]
      obtain ⟨o, q1, q2, q3⟩ := st24_12 (G := G) (p := p) (vs := vs) (c := c) (i := i) (l.getD 3 false) (l.getD 4 false) (l.getD 8 false) (l.getD 9 false)
      exact ⟨o, q1, q2, .inr ⟨sw 24, _, _, _, wk24_12 _ _ _ _, (keep24 (vs := vs) (by omega)).1, fun k hk hk' => (keep24 (by omega)).2 k hk (by omega) (by omega) (by omega) (by omega) (by omega), q3⟩⟩
    rw [n3 h3, n4 h4, n8 h8, n9 h9, n12 h12]
    obtain ⟨o, q1, q2, q3⟩ := st24_0 (G := G) (p := p) (vs := vs) (c := c) (i := i) j hj (by omega) (pa24 p i (l.getD 3 false) (l.getD 4 false) ++ (pb24 p i (l.getD 8 false) (l.getD 9 false) ++ pc24 p i vs (l.getD 12 false)))
    exact ⟨o, q1, q2, .inl q3⟩
  · intro l hl he
    obtain rfl := exM_all' hl he
    exact hK
end
end Go.X.W
end

section
set_option linter.unusedVariables false
set_option linter.unusedSimpArgs false
set_option linter.unusedSectionVars false
/- A cell that holds a slice that is told of is looked at, with a slot that holds it too; before any operation. -/
set_option linter.unusedVariables false
set_option linter.unusedSimpArgs false
set_option maxRecDepth 10000
namespace Go.X
open Go
theorem underX_of {F : Nat → Option FE} {p : Prop} (h : p) : ∀ {π : GP}, underGP F π p
  | [] => h
  | (a, b) :: r => by
    simp only [underGP]
    split
    · exact fun _ => underX_of h
    · exact underX_of h
section
variable {X : Cx} {st : St} {K : Ex → St → Prop}
/-- What follows the first of two. -/
def KSeq (X : Cx) (b : Code) (K : Ex → St → Prop) : Ex → St → Prop := fun e st => match e with
  | .normal => SemC X b st K
  | e => K e st
def KBlk (n : Nat) (K : Ex → St → Prop) : Ex → St → Prop := fun e st => match e with
  | .exit m => (match Nat.beq m n with
    | true => K .normal st
    | false => K (.exit m) st)
  | e => K e st
theorem sem_seq {x y : Code} (h : SemC X x st (KSeq X y K)) : SemC X (.seq x y) st K := by
  intro ρ a w hm
  refine wpIn_seq (wpIn_mono (h ρ a w hm) ?_)
  rintro e a' w' ⟨x', st', ρ', rfl, hm', hk⟩
  cases x' with
  | normal => exact hk ρ' a' w' hm'
  | ret => exact ⟨.ret, st', ρ', rfl, hm', hk⟩
  | exit n => exact ⟨.exit n, st', ρ', rfl, hm', hk⟩
  | panic ch => exact ⟨.panic ch, st', ρ', rfl, hm', hk⟩
theorem sem_block {n : Nat} {x : Code} (h : SemC X x st (KBlk n K)) : SemC X (.block n x) st K := by
  intro ρ a w hm
  refine wpIn_block (wpIn_mono (h ρ a w hm) ?_)
  rintro e a' w' ⟨x', st', ρ', rfl, hm', hk⟩
  cases x' with
  | normal => exact ⟨.normal, st', ρ', rfl, hm', hk⟩
  | ret => exact ⟨.ret, st', ρ', rfl, hm', hk⟩
  | panic ch => exact ⟨.panic ch, st', ρ', rfl, hm', hk⟩
  | exit m =>
    simp only [KBlk] at hk
    simp only [Ex.to, Exit.inBlock]
    by_cases hmn : m = n
    · subst hmn
      simp only [Nat.beq_refl] at hk
      rw [if_pos rfl]
      exact ⟨.normal, st', ρ', rfl, hm', hk⟩
    · have hb : Nat.beq m n = false := by
        cases hbb : Nat.beq m n with
        | false => rfl
        | true => exact absurd (Nat.eq_of_beq_eq_true hbb) hmn
      simp only [hb] at hk
      rw [if_neg hmn]
      exact ⟨.exit m, st', ρ', rfl, hm', hk⟩
theorem loop_okS {body : Code} {α : Type} (n0 : Nat) (I : α → St) (μ : α → Nat) (hn : ∀ j, n0 ≤ j → X.G.ρ j = none) (x0 : α) (s0 : Nat → Nat)
    (h0 : WeakR n0 s0 st (I x0)) (hr : ∀ x, SemC X body (I x) (RoundR n0 I μ x K)) : SemC X (.loop body) st K := by
  intro ρ a w hm
  refine wpIn_loop_rel (fun j a w => ∃ x ρ, μ x = j ∧ Mod X ρ (I x) a w) ⟨x0, _, rfl, hm.ren h0 hn⟩ ?_
  rintro j a' w' ⟨x, ρ', rfl, hm'⟩
  refine wpIn_mono (hr x ρ' a' w' hm') ?_
  rintro e a₂ w₂ ⟨y, st₂, ρ₂, rfl, hm₂, hk⟩
  cases y with
  | normal =>
    obtain ⟨x', s, h1, h2⟩ := hk
    exact ⟨_, h2, x', _, rfl, hm₂.ren h1 hn⟩
  | ret => exact ⟨.ret, st₂, ρ₂, rfl, hm₂, hk⟩
  | exit n => exact ⟨.exit n, st₂, ρ₂, rfl, hm₂, hk⟩
  | panic ch => exact ⟨.panic ch, st₂, ρ₂, rfl, hm₂, hk⟩
end
section
variable {X : Cx} {ρ : Env} {st : St} {a : Act} {w : World}
end
end Go.X
end

section
set_option linter.unusedVariables false
set_option linter.unusedSimpArgs false
set_option linter.unusedSectionVars false
/- TopWarmed: the loop over blocks. -/
set_option linter.unusedVariables false
set_option linter.unusedSimpArgs false
set_option maxRecDepth 10000
set_option maxHeartbeats 4000000
namespace Go.X.W
open Go Go.Proofs Go.X
theorem isSl_told {v : Value} {n : Nat} (h : isSl v n) {C : Value → Nat → (Nat → List SV) → Prop} {get : Nat → List SV} (hC : C v n get) : toldV C v n get := by
  rcases h with h | ⟨ad, c, rfl⟩
  · exact .inl h
  · exact .inr ⟨ad, c, rfl, hC⟩
theorem wbF_at (p : Par) {i : Nat} (hi : i < p.N) : wbF p.N p.g (p.g i).v (p.g i).n (rdG (p.g i).rd) := ⟨i, hi, rfl, rfl, rfl⟩
/-- What is known of i blocks. -/
def InvB (p : Par) (x : Nat × List Value) : Prop := x.1 ≤ p.N ∧ x.2.length = x.1 ∧ (∀ j, j < x.1 → blkOk (inW p j) = true) ∧ ∀ j, j < x.1 → isSl (x.2.getD j (.slice none 0 0)) (p.g j).n
theorem getD_snoc {vs : List Value} {v d : Value} {j : Nat} (h : j < vs.length) : (vs ++ [v]).getD j d = vs.getD j d := by
  simp [List.getD, List.getElem?_append_left h]
theorem getD_last {vs : List Value} {v d : Value} {j : Nat} (h : vs.length = j) : (vs ++ [v]).getD j d = v := by
  subst h; simp [List.getD]
theorem rtF_snoc {p : Par} {vs : List Value} {v : Value} {i : Nat} (h : vs.length = i) : ∀ v' n' get', rtF p (vs ++ [v]) v' n' get' → addC (rtF p vs) v (p.g i).n (rdG (rrV p i)) v' n' get' := by
  rintro v' n' get' ⟨j, hj, rfl, rfl, rfl⟩
  rw [List.length_append, List.length_singleton] at hj
  rcases Nat.lt_or_ge j vs.length with h1 | h1
  · exact .inr ⟨j, h1, getD_snoc h1, rfl, rfl⟩
  · obtain rfl : j = i := by omega
    exact .inl ⟨getD_last h, rfl, rfl⟩
theorem rtG_snoc {p : Par} {vs : List Value} {v : Value} {j : Nat} (h : j < vs.length) : rtG p vs j = rtG p (vs ++ [v]) j := by
  unfold rtG rtW
  rw [getD_snoc h]
section
variable {G : Base} {p : Par} {K : Ex → St → Prop}
theorem blkLoop (hG : ∀ j, 3 ≤ j → G.ρ j = none) (hp : ParOk p) (hR : ∀ F gs H nx, K .ret ⟨(14, ⟨[], .sb true⟩) :: F, gs, H, nx, []⟩)
    (hK : ∀ vs, InvB p (p.N, vs) → K (.exit 0) ⟨(58, ⟨[], .sb (decide ((p.N : Int) < (p.N : Int)))⟩) :: bF p p.N, [], (6, .cells 3 [.si .i64 (cS p p.N)]) :: hB p p.N vs, 12, []⟩) :
    SemC (X3 G) (lpB 0 (code Try.f3)) ⟨bF p 0, [], (6, .cells 3 [.si .i64 0]) :: hB p 0 [], 12, []⟩ K := by
  have hN := hp.N
  refine loop_okS 3 (fun x : {x : Nat × List Value // InvB p x} => ⟨bF p x.1.1, [], (6, .cells 3 [.si .i64 (cS p x.1.1)]) :: hB p x.1.1 x.1.2, 12, []⟩) (fun x => p.N - x.1.1) hG ⟨(0, []), Nat.zero_le _, rfl, fun j hj => absurd hj (Nat.not_lt_zero _), fun j hj => absurd hj (Nat.not_lt_zero _)⟩ (fun j => j) ?_ ?_
  · refine ⟨?_, ?_, rfl, rfl, rfl, rfl, trivial⟩ <;> repeat' (first | exact trivial | exact rfl | (intro i hi; exact ⟨rfl, rfl⟩) | (intro v m g h; exact h) | refine And.intro ?_ ?_)
  rintro ⟨⟨i, vs⟩, hi, hvl, hok, hsl⟩
  have hi : i ≤ p.N := hi
  have hvl : vs.length = i := hvl
  have hok : ∀ j, j < i → blkOk (inW p j) = true := hok
  have hsl : ∀ j, j < i → isSl (vs.getD j (.slice none 0 0)) (p.g j).n := hsl
  have hc0 := cS_nn p i
  have hc1 := cS_le i hok
  refine sem_seq (exec_ok (ok3 G) _ _ _ ?_)
  refine (show KSeq _ _ _ .normal _ from ?_)
  refine sem_seq (exec_ok (ok3 G) _ _ _ ?_)
  refine Br.mk (fun h => ?_) (fun h => ?_)
  · have h : (i : Int) < (p.N : Int) := of_decide_eq_true h
    have hiN : i < p.N := by omega
    have htd := hp.told i hiN
    refine (show KSeq _ _ _ .normal _ from ?_)
    refine sem_seq (sem_block (sem_seq (exec_ok (ok3 G) _ _ _ ?_)))
    refine Chk.mk (show (0 : Int) ≤ (i : Int) ∧ (i : Int) < (p.N : Int) from ⟨by omega, h⟩) ?_
    refine (show KSeq _ _ _ .normal _ from ?_)
    refine sem_lookCell 2 12 36 (p.g i).n 4 (p.g i).v (rdG (p.g i).rd) _ (wbS (p.g i) 13) rfl rfl (isSl_told htd (wbF_at p hiN)) rfl ?_
    refine (exec_ok (ok3 G) _ _ _ ?_)
    refine Chk.mk (fun _ => ⟨rds_rd _ _, rfl, trivial⟩) ?_
    refine Br.mk (fun h2 => ?_) (fun h2 => ?_)
    · refine (show K .ret _ from ?_)
      exact hR _ _ _ _
    have h2 : (decide ((40 : Int) < ((p.g i).n : Int)) || !blkOk (inW p i)) = false := h2
    have hB : blkOk (inW p i) = true := by
      cases hb : blkOk (inW p i) with
      | true => rfl
      | false => rw [hb] at h2; simp at h2
    refine (show SemC _ _ _ _ from ?_)
    refine any_region fol ?_
    have hb := blk_b hB
    simp only [inW] at hb
    refine any_weaken (st' := ⟨ba12 p i, [], Hf12 p i vs (cS p i) (List.replicate 10 false), 15, []⟩) 3 (fun j => j) hG (by
      refine ⟨?_, ?_, rfl, rfl, rfl, rfl, trivial⟩ <;> repeat' (first | exact trivial | exact rfl | (intro i hi; exact ⟨rfl, rfl⟩) | (intro v m g h; exact h) | refine And.intro ?_ ?_)) ?_
    refine reg12 hG hp ⟨by omega, by omega⟩ ⟨by omega, by omega, by omega⟩ ⟨by omega, by omega, by omega⟩ ?_
    refine any_step [10] (ok3 G) (by kernel_rfl) (by decide) ⟨?_, trivial⟩
    refine any_done (by kernel_rfl) ?_
    refine (show SemC _ _ _ _ from ?_)
    refine sem_nilVec 15 36 41 4 (rdG (rrV p i)) _ (wbS (p.g i) 16) rfl rfl ?_
    have ecn : cn12 (cS p i) ((List.replicate 10 true).getD 3 false) ((List.replicate 10 true).getD 7 false) = cS p i + 2 := by show cS p i + 1 + 1 = _; omega
    refine sem_weaken (st' := ⟨b17 p i 0, [], (6, .cells 3 [.si .i64 (cS p i + 2)]) :: H17 p i 0 vs, 17, []⟩) 3 (fun j => j) hG (by
      refine ⟨?_, ?_, rfl, rfl, rfl, rfl, trivial⟩ <;> repeat' (first | exact trivial | exact rfl | exact ecn | (intro i hi; exact ⟨rfl, rfl⟩) | (intro v m g h; exact h) | refine And.intro ?_ ?_)) ?_
    refine rdLoop hG hp hB (by omega) ?_
    refine Chk.mk ⟨rds_rd _ _, rfl, trivial⟩ ?_
    refine Br.mk (fun h3 => ?_) (fun h3 => ?_)
    · exfalso
      have h3 : ((!decide ((hullE (rtB p i) true fun q => [q.1]).2 = 0) || decide (lnV p i < (hullE (rtB p i) true fun q => [q.1]).1.1)) || decide ((hullE (rtB p i) true fun q => [q.1]).1.2 < lnV p i)) = true := h3
      rw [rt_hull hp hB] at h3
      have := rt_in hp hB
      simp at h3
      omega
    refine (show SemC _ _ _ _ from ?_)
    refine sem_freezeN 16 11 [] [15] (ok3 G) ⟨rfl, fun i hi => rfl, rfl, rfl, by decide, fun v hv => ?_⟩
    refine (show SemC _ _ _ _ from ?_)
    refine any_region fol ?_
    have ew : Go.X.SV.sv v = .sv ((vs ++ [v]).getD i (.slice none 0 0)) := by rw [getD_last hvl]
    have ehl : (hullE (rtB p i) true fun q => [q.1]).1 = hlV p i := by rw [rt_hull hp hB]
    have eh1 : (hullE (rtB p i) true fun q => [q.1]).1.1 = (hlV p i).1 := by rw [ehl]
    have eh2 : (hullE (rtB p i) true fun q => [q.1]).1.2 = (hlV p i).2 := by rw [ehl]
    refine any_weaken (st' := ⟨b24 p i, [], hh24 p i (vs ++ [v]) (cS p (i + 1)) false false false false false, 25, []⟩) 3 (fun j => j) hG (by
      refine ⟨?_, ?_, rfl, rfl, rfl, rfl, trivial⟩ <;> repeat' (first | exact trivial | exact rfl | exact ew | exact eh1 | exact eh2 | exact rtF_snoc hvl | (intro k hk; exact ⟨rfl, rfl⟩) | (intro k hk; exact ⟨(rtG_snoc (by omega) : rtG p vs k = rtG p (vs ++ [v]) k), rfl⟩) | (intro v m g h; exact h) | refine And.intro ?_ ?_)) ?_
    refine reg24 hG (by omega) ?_
    refine any_step [13] (ok3 G) (by kernel_rfl) (by decide) ⟨?_, trivial⟩
    refine fb_append (Te := 0) 9 24 i 1 _ _ (rtG p (vs ++ [v])) (ok3 G) cont_any rfl rfl rfl rfl rfl rfl rfl rfl rfl rfl rfl rfl (by decide) (by decide) rfl rfl rfl rfl (by omega) (fun k hk => ?_) ?_
    · rcases Nat.lt_or_ge k i with h1 | h1
      · rw [if_pos h1]
      · obtain rfl : k = i := by omega
        rw [if_neg (by omega), show k - k = 0 by omega]
        rfl
    refine any_step [14] (ok3 G) (by kernel_rfl) (by decide) ⟨?_, trivial⟩
    refine any_step [15] (ok3 G) (by kernel_rfl) (by decide) ⟨?_, trivial⟩
    refine any_step [16] (ok3 G) (by kernel_rfl) (by decide) ⟨?_, trivial⟩
    refine any_done (by kernel_rfl) ?_
    have hbb := rt_b hp hB
    refine drawn_ok (ok3 G) fol [0,1,0,4,12,0,32,96,252,508,1023,2047,4095] [] 10 (by kernel_rfl) ?_
    refine Chk.mk (show InK .i64 (200 + (hlV p i).1) from ⟨by omega, by omega⟩) (Chk.mk (show InK .i64 (200 + (hlV p i).2) from ⟨by omega, by omega⟩) ?_)
    refine fb_append (Te := 0) 10 62 i 1 _ _ (fun j => spanC (spV p j)) (ok3 G) cont_std rfl rfl rfl rfl rfl rfl rfl rfl rfl rfl rfl rfl (by decide) (by decide) rfl rfl rfl rfl (by omega) (fun k hk => ?_) ?_
    · rcases Nat.lt_or_ge k i with h1 | h1
      · rw [if_pos h1]
      · obtain rfl : k = i := by omega
        rw [if_neg (by omega), show k - k = 0 by omega]
        rfl
    refine (show KSeq _ _ _ .normal _ from ?_)
    refine exec_ok (ok3 G) _ _ _ ?_
    refine Chk.mk (show InK .i64 ((i : Int) + 1) from ⟨by omega, by omega⟩) ⟨⟨(i + 1, vs ++ [v]), (by omega : i + 1 ≤ p.N), by simp [hvl], fun j hj => ?_, fun j hj => ?_⟩, (fun j => match j with | 7 => 21 | 8 => 23 | 9 => 25 | 10 => 66 | j => j), ?_, by show p.N - (i + 1) < p.N - i; omega⟩
    · rcases Nat.lt_or_ge j i with h1 | h1
      · exact hok j h1
      · obtain rfl : j = i := by have : j < i + 1 := hj; omega
        exact hB
    · show isSl ((vs ++ [v]).getD j (.slice none 0 0)) (p.g j).n
      rcases Nat.lt_or_ge j i with h1 | h1
      · rw [getD_snoc (by omega)]; exact hsl j h1
      · obtain rfl : j = i := by have : j < i + 1 := hj; omega
        rw [getD_last hvl]; exact hv
    · refine ⟨?_, ?_, rfl, rfl, rfl, rfl, trivial⟩ <;> repeat' (first | exact trivial | exact rfl | (intro k hk; exact ⟨rfl, rfl⟩) | (intro v m g h; exact h) | refine And.intro ?_ ?_)
  · have h : ¬ (i : Int) < (p.N : Int) := of_decide_eq_false h
    obtain rfl : i = p.N := by omega
    exact hK vs ⟨Nat.le_refl _, hvl, hok, hsl⟩
end
end Go.X.W
end

section
set_option linter.unusedVariables false
set_option linter.unusedSimpArgs false
set_option linter.unusedSectionVars false
/- TopWarmed: the loop over rooms. -/
set_option linter.unusedVariables false
set_option linter.unusedSimpArgs false
set_option maxRecDepth 10000
set_option maxHeartbeats 4000000
namespace Go.X.W
open Go Go.Proofs Go.X
theorem shr_bit {S k : Nat} : ((((S : Nat) : Int).fdiv (2 ^ (k : Int).toNat)).toNat &&& (1 : Int).toNat : Nat) = (S.testBit k).toNat := by
  have e2 : ((2 : Int) ^ k) = ((2 ^ k : Nat) : Int) := by rw [Int.natCast_pow]; rfl
  rw [Int.toNat_natCast, e2, Int.fdiv_eq_ediv_of_nonneg _ (Int.natCast_nonneg _), ← Int.natCast_ediv, Int.toNat_natCast]
  show S / 2 ^ k &&& 1 = _
  rw [Nat.and_one_is_mod, ← Nat.shiftRight_eq_div_pow, Nat.testBit, Nat.and_comm, Nat.and_one_is_mod]
  rcases Nat.mod_two_eq_zero_or_one (S >>> k) with h | h <;> rw [h] <;> rfl
theorem shr_b {S w : Nat} (h : S < 256) : InK .i64 (((S : Nat) : Int).fdiv (2 ^ (w : Int).toNat)) ∧ 0 ≤ ((S : Nat) : Int).fdiv (2 ^ (w : Int).toNat) := by
  have e2 : ((2 : Int) ^ w) = ((2 ^ w : Nat) : Int) := by rw [Int.natCast_pow]; rfl
  have e3 : ((S : Nat) : Int).fdiv (2 ^ (w : Int).toNat) = ((S / 2 ^ w : Nat) : Int) := by
    rw [Int.toNat_natCast, e2, Int.fdiv_eq_ediv_of_nonneg _ (Int.natCast_nonneg _), ← Int.natCast_ediv]
  rw [e3]
  have : S / 2 ^ w ≤ S := Nat.div_le_self _ _
  generalize S / 2 ^ w = D at *
  exact ⟨⟨by show (-9223372036854775808 : Int) ≤ _; omega, by show _ ≤ (9223372036854775807 : Int); omega⟩, by omega⟩
/-- The room of the first blocks of a stack. -/
def rmV (p : Par) (x : Nat) : Nat → Int
  | 0 => 100
  | i + 1 => if x.testBit i then min (rmV p x i) (roomV (rtB p i) p.much) else rmV p x i
theorem rmV_b {p : Par} {x : Nat} : ∀ i, 0 ≤ rmV p x i ∧ rmV p x i ≤ 100
  | 0 => by unfold rmV; omega
  | i + 1 => by
    have h := rmV_b (p := p) (x := x) i
    have h2 := room_b (rtB p i) p.much
    unfold rmV
    split <;> omega
theorem rmV_le {p : Par} {x : Nat} : ∀ i j, j < i → x.testBit j = true → rmV p x i ≤ roomV (rtB p j) p.much
  | i + 1, j, hj, hb => by
    rcases Nat.lt_or_ge j i with h | h
    · have := rmV_le (p := p) i j h hb
      unfold rmV
      split <;> omega
    · obtain rfl : j = i := by omega
      unfold rmV
      rw [if_pos hb]
      omega
/-- A stack is found. -/
structure Fnd where
  x : Nat
  lo : Int
  hi : Int
  c : Int
def b35 (p : Par) (f : Fnd) (i : Nat) : List (Nat × FE) := [(6, ⟨[], .si .u8 p.warmth⟩), (8, ⟨[], .sp 3 0⟩), (16, ⟨[], fnD⟩), (17, ⟨[], .sl 7⟩), (18, ⟨[], .sl 8⟩), (19, ⟨[], .sl 9⟩), (30, ⟨[], .sp 12 0⟩), (31, ⟨[], .si .i64 (f.x : Int)⟩), (33, ⟨[], .si .i64 (rmV p f.x i)⟩), (34, ⟨[], .si .i64 p.much⟩), (187, ⟨[], .sl 9⟩), (188, ⟨[], .si .i64 (p.N : Int)⟩), (189, ⟨[], .si .i64 (i : Int)⟩)]
def h35 (p : Par) (vs : List Value) (f : Fnd) : List (Nat × HB) := (12, .cells 24 [.si .i64 f.lo, .si .i64 f.hi]) :: (6, .cells 3 [.si .i64 f.c]) :: hB p p.N vs
theorem rtF_at {p : Par} {vs : List Value} {i : Nat} (h : i < vs.length) : rtF p vs (vs.getD i (.slice none 0 0)) (p.g i).n (rdG (rrV p i)) := ⟨i, h, rfl, rfl, rfl⟩
section
variable {G : Base} {p : Par} {vs : List Value} {f : Fnd} {K : Ex → St → Prop}
theorem roomLoop (hG : ∀ j, 3 ≤ j → G.ρ j = none) (hp : ParOk p) (hI : InvB p (p.N, vs)) (hx : f.x < 256)
    (hK : K (.exit 4) ⟨(190, ⟨[], .sb (decide ((p.N : Int) < (p.N : Int)))⟩) :: b35 p f p.N, [], h35 p vs f, 13, []⟩) :
    SemC (X3 G) (lpB 4 (code Try.f3)) ⟨b35 p f 0, [], h35 p vs f, 13, []⟩ K := by
  have hN := hp.N
  obtain ⟨_, hvl, hok, hsl⟩ := hI
  have hvl : vs.length = p.N := hvl
  have hok : ∀ j, j < p.N → blkOk (inW p j) = true := hok
  have hsl : ∀ j, j < p.N → isSl (vs.getD j (.slice none 0 0)) (p.g j).n := hsl
  refine loop_okS 3 (fun i : {i : Nat // i ≤ p.N} => ⟨b35 p f i.1, [], h35 p vs f, 13, []⟩) (fun i => p.N - i.1) hG ⟨0, Nat.zero_le _⟩ (fun j => j) ?_ ?_
  · refine ⟨?_, ?_, rfl, rfl, rfl, rfl, trivial⟩ <;> repeat' (first | exact trivial | exact rfl | (intro i hi; exact ⟨rfl, rfl⟩) | (intro v m g h; exact h) | refine And.intro ?_ ?_)
  rintro ⟨i, hi⟩
  have hi : i ≤ p.N := hi
  refine sem_seq (exec_ok (ok3 G) _ _ _ ?_)
  refine (show KSeq _ _ _ .normal _ from ?_)
  refine sem_seq (exec_ok (ok3 G) _ _ _ ?_)
  refine Br.mk (fun h => ?_) (fun h => ?_)
  · have h : (i : Int) < (p.N : Int) := of_decide_eq_true h
    have hiN : i < p.N := by omega
    have hB := hok i hiN
    have hrm := room_b (rtB p i) p.much
    refine (show KSeq _ _ _ .normal _ from ?_)
    refine sem_seq (sem_block (sem_seq (exec_ok (ok3 G) _ _ _ ?_)))
    refine Chk.mk (show (0 : Int) ≤ (i : Int) ∧ (i : Int) < (p.N : Int) from ⟨by omega, h⟩) ?_
    refine (show KSeq _ _ _ .normal _ from ?_)
    refine sem_lookCell 11 13 36 (p.g i).n 4 (vs.getD i (.slice none 0 0)) (rdG (rrV p i)) _ (wbS (rtW p vs i) 14) rfl rfl (isSl_told (hsl i hiN) (rtF_at (by omega))) rfl ?_
    refine (exec_ok (ok3 G) _ _ _ ?_)
    refine Chk.mk ⟨rds_rd _ _, rfl, trivial⟩ ?_
    refine Br.mk (fun h3 => ?_) (fun h3 => ?_)
    · exfalso
      have h3 : (!decide ((roomE (rtB p i) p.much).2 = 0) || decide ((roomE (rtB p i) p.much).1 < 0)) = true := h3
      rw [rt_room hp hB] at h3
      simp at h3
      omega
    refine Chk.mk (show (0 : Int) ≤ (i : Int) ∧ (i : Int).toNat ≤ IntKind.i64.bits from ⟨by omega, by show (i : Int).toNat ≤ 64; omega⟩) ?_
    have hsb := shr_b (S := f.x) (w := i) hx
    refine Chk.mk ⟨hsb.2, by decide, hsb.1, by decide, by decide⟩ ?_
    refine Br.mk (fun h4 => ?_) (fun h4 => ?_)
    · have h4 : decide (((((f.x : Nat) : Int).fdiv (2 ^ (i : Int).toNat)).toNat &&& (1 : Int).toNat : Nat) = (1 : Int)) = true := h4
      rw [shr_bit] at h4
      have hbit : f.x.testBit i = true := by
        cases hb : f.x.testBit i with
        | true => rfl
        | false => rw [hb] at h4; simp at h4
      have er : min (rmV p f.x i) (roomE (rtB p i) p.much).1 = rmV p f.x (i + 1) := by rw [rt_room hp hB, rmV, if_pos hbit]
      refine (show KSeq _ _ _ .normal _ from ?_)
      refine exec_ok (ok3 G) _ _ _ ?_
      refine Chk.mk (show InK .i64 ((i : Int) + 1) from ⟨by omega, by omega⟩) ⟨⟨i + 1, (by omega : i + 1 ≤ p.N)⟩, (fun j => j), ?_, by show p.N - (i + 1) < p.N - i; omega⟩
      refine ⟨?_, ?_, rfl, rfl, rfl, rfl, trivial⟩ <;> repeat' (first | exact trivial | exact rfl | exact er | (intro k hk; exact ⟨rfl, rfl⟩) | (intro v m g h; exact h) | refine And.intro ?_ ?_)
    · have h4 : decide (((((f.x : Nat) : Int).fdiv (2 ^ (i : Int).toNat)).toNat &&& (1 : Int).toNat : Nat) = (1 : Int)) = false := h4
      rw [shr_bit] at h4
      have hbit : f.x.testBit i = false := by
        cases hb : f.x.testBit i with
        | false => rfl
        | true => rw [hb] at h4; simp at h4
      have er : rmV p f.x i = rmV p f.x (i + 1) := by rw [rmV, if_neg (by rw [hbit]; decide)]
      refine (show KSeq _ _ _ .normal _ from ?_)
      refine exec_ok (ok3 G) _ _ _ ?_
      refine Chk.mk (show InK .i64 ((i : Int) + 1) from ⟨by omega, by omega⟩) ⟨⟨i + 1, (by omega : i + 1 ≤ p.N)⟩, (fun j => j), ?_, by show p.N - (i + 1) < p.N - i; omega⟩
      refine ⟨?_, ?_, rfl, rfl, rfl, rfl, trivial⟩ <;> repeat' (first | exact trivial | exact rfl | exact er | (intro k hk; exact ⟨rfl, rfl⟩) | (intro v m g h; exact h) | refine And.intro ?_ ?_)
  · have h : ¬ (i : Int) < (p.N : Int) := of_decide_eq_false h
    obtain rfl : i = p.N := by omega
    exact hK
end
end Go.X.W
end

section
set_option linter.unusedVariables false
set_option linter.unusedSimpArgs false
set_option linter.unusedSectionVars false
/- TopWarmed: the loop over lengths. -/
set_option linter.unusedVariables false
set_option linter.unusedSimpArgs false
set_option maxRecDepth 10000
set_option maxHeartbeats 4000000
namespace Go.X.W
open Go Go.Proofs Go.X
/-- Where a stack's length stands behind some blocks. -/
structure Sm where
  i : Nat
  lg : Int
  wm : Int
  mn : Nat
  c : Int
def wLo (p : Par) (x : Nat) (i : Nat) : Int := S.wS (fun j => (spV p j).1) p.flo x i
def wHi (p : Par) (x : Nat) (i : Nat) : Int := S.wS (fun j => (spV p j).2) p.fhi x i
structure SmOk (p : Par) (x : Nat) (z : Sm) : Prop where
  i : z.i ≤ p.N
  mn : z.mn = S.cntB x z.i
  lo : wLo p x z.i ≤ z.lg
  hi : z.lg ≤ wHi p x z.i
  d1 : -((z.mn : Int) * p.much) ≤ z.wm - z.lg
  d2 : z.wm - z.lg ≤ (z.mn : Int) * p.much
  c0 : 0 ≤ z.c
  c1 : z.c ≤ 1000 + (z.i : Int)
theorem SmOk.step {p : Par} {x : Nat} {z : Sm} (h : SmOk p x z) (hi : z.i < p.N) (hb : x.testBit z.i = true) {th sh lg wm c : Int} (hth : (z.mn = 0 ∧ th = 0) ∨ (0 < z.mn ∧ p.flo ≤ th ∧ th ≤ p.fhi)) (hin : (hlV p z.i).1 ≤ lnV p z.i ∧ lnV p z.i ≤ (hlV p z.i).2)
    (hsh : -p.much ≤ sh - lnV p z.i ∧ sh - lnV p z.i ≤ p.much) (e1 : lg = z.lg + th + 200 + lnV p z.i) (e2 : wm = z.wm + th + 200 + sh) (hc : 0 ≤ c ∧ c ≤ 1000 + ((z.i + 1 : Nat) : Int)) : SmOk p x ⟨z.i + 1, lg, wm, z.mn + 1, c⟩ := by
  have h1 := h.lo
  have h2 := h.hi
  have h3 := h.d1
  have h4 := h.d2
  have h5 := h.mn
  have s1 : (spV p z.i).1 = 200 + (hlV p z.i).1 := rfl
  have s2 : (spV p z.i).2 = 200 + (hlV p z.i).2 := rfl
  have em : ((z.mn + 1 : Nat) : Int) * p.much = (z.mn : Int) * p.much + p.much := by
    rw [show ((z.mn + 1 : Nat) : Int) = (z.mn : Int) + 1 by omega, Int.add_mul, Int.one_mul]
  refine ⟨hi, ?_, ?_, ?_, ?_, ?_, hc.1, hc.2⟩
  · show z.mn + 1 = S.cntB x (z.i + 1)
    rw [S.cntB, if_pos hb, h5]
  · show wLo p x (z.i + 1) ≤ lg
    unfold wLo at h1 ⊢
    rw [S.wS, if_pos hb, ← h5]
    rcases hth with ⟨k1, k2⟩ | ⟨k1, k2, k3⟩
    · rw [if_neg (by omega)]; omega
    · rw [if_pos k1]; omega
  · show lg ≤ wHi p x (z.i + 1)
    unfold wHi at h2 ⊢
    rw [S.wS, if_pos hb, ← h5]
    rcases hth with ⟨k1, k2⟩ | ⟨k1, k2, k3⟩
    · rw [if_neg (by omega)]; omega
    · rw [if_pos k1]; omega
  · show -(((z.mn + 1 : Nat) : Int) * p.much) ≤ wm - lg
    rw [em]; omega
  · show wm - lg ≤ ((z.mn + 1 : Nat) : Int) * p.much
    rw [em]; omega
theorem cntB_le (x : Nat) : ∀ i, S.cntB x i ≤ i
  | 0 => Nat.le_refl _
  | i + 1 => by
    have := cntB_le x i
    unfold S.cntB
    split <;> omega
theorem wS_b {f : Nat → Int} {film : Int} {x : Nat} (hf : 0 ≤ film ∧ film ≤ 5) : ∀ i, (∀ j, j < i → 0 ≤ f j ∧ f j ≤ 1200) → 0 ≤ S.wS f film x i ∧ S.wS f film x i ≤ 1205 * (i : Int)
  | 0, _ => by unfold S.wS; omega
  | i + 1, h => by
    have h1 := wS_b hf i (fun j hj => h j (by omega)) (x := x) (f := f)
    have h2 := h i (by omega)
    unfold S.wS
    split
    · split <;> omega
    · omega
def b46 (p : Par) (x : Nat) (t : Int) (z : Sm) : List (Nat × FE) := [(8, ⟨[], .sp 3 0⟩), (16, ⟨[], fnD⟩), (17, ⟨[], .sl 7⟩), (18, ⟨[], .sl 8⟩), (19, ⟨[], .sl 9⟩), (30, ⟨[], .sp 12 0⟩), (31, ⟨[], .si .i64 (x : Int)⟩), (34, ⟨[], .si .i64 p.much⟩), (39, ⟨[], .si .i64 t⟩), (40, ⟨[], .si .i64 z.lg⟩), (41, ⟨[], .si .i64 z.wm⟩), (42, ⟨[], .si .i64 (z.mn : Int)⟩), (223, ⟨[], .sl 7⟩), (224, ⟨[], .si .i64 (p.N : Int)⟩), (225, ⟨[], .si .i64 (z.i : Int)⟩)]
def h46 (p : Par) (vs : List Value) (lo hi c : Int) : List (Nat × HB) := (12, .cells 24 [.si .i64 lo, .si .i64 hi]) :: (6, .cells 3 [.si .i64 c]) :: hB p p.N vs
section
variable {G : Base} {p : Par} {vs : List Value} {x : Nat} {lo hi t : Int} {K : Ex → St → Prop}
theorem lenLoop (hG : ∀ j, 3 ≤ j → G.ρ j = none) (hp : ParOk p) (hI : InvB p (p.N, vs)) (hx : x < 256) (hf : 0 ≤ p.flo ∧ p.flo ≤ p.fhi ∧ p.fhi ≤ 5) (hs : ∀ j, j < p.N → 1 ≤ (spV p j).1 ∧ (spV p j).2 ≤ 500)
    (ht : ∀ j, j < p.N → x.testBit j = true → -roomV (rtB p j) p.much ≤ t ∧ t ≤ roomV (rtB p j) p.much) {c : Int} (hc : 0 ≤ c ∧ c ≤ 1000)
    (hK : ∀ z, SmOk p x z → z.i = p.N → K (.exit 6) ⟨(226, ⟨[], .sb (decide ((z.i : Int) < (p.N : Int)))⟩) :: b46 p x t z, [], h46 p vs lo hi z.c, 13, []⟩) :
    SemC (X3 G) (lpB 6 (code Try.f3)) ⟨b46 p x t ⟨0, 0, 0, 0, c⟩, [], h46 p vs lo hi c, 13, []⟩ K := by
  have hN := hp.N
  obtain ⟨_, hvl, hok, hsl⟩ := hI
  have hvl : vs.length = p.N := hvl
  have hok : ∀ j, j < p.N → blkOk (inW p j) = true := hok
  refine loop_okR (ok3 G) 3 (fun z : {z : Sm // SmOk p x z} => ⟨b46 p x t z.1, [], h46 p vs lo hi z.1.c, 13, []⟩) (fun z => p.N - z.1.i) hG ⟨⟨0, 0, 0, 0, c⟩, Nat.zero_le _, rfl, Int.le_refl _, Int.le_refl _, by simp, by simp, hc.1, by simp; omega⟩ (fun j => j) ?_ ?_
  · refine ⟨?_, ?_, rfl, rfl, rfl, rfl, trivial⟩ <;> repeat' (first | exact trivial | exact rfl | (intro i hi; exact ⟨rfl, rfl⟩) | (intro v m g h; exact h) | refine And.intro ?_ ?_)
  rintro ⟨⟨i, lg, wm, mn, c⟩, hz⟩
  have hi' : i ≤ p.N := hz.i
  have hmn : mn = S.cntB x i := hz.mn
  have hlo : wLo p x i ≤ lg := hz.lo
  have hhi : lg ≤ wHi p x i := hz.hi
  have hd1 : -((mn : Int) * p.much) ≤ wm - lg := hz.d1
  have hd2 : wm - lg ≤ (mn : Int) * p.much := hz.d2
  have hc0 : 0 ≤ c := hz.c0
  have hc1 : c ≤ 1000 + (i : Int) := hz.c1
  have hm1 := cntB_le x i
  have hspb : ∀ j, j < i → 0 ≤ (spV p j).1 ∧ (spV p j).1 ≤ 1200 := fun j hj => by
    have h1 := rt_b hp (hok j (by omega)); have h2 := hs j (by omega)
    have e : (spV p j).1 = 200 + (hlV p j).1 := rfl
    omega
  have hspb2 : ∀ j, j < i → 0 ≤ (spV p j).2 ∧ (spV p j).2 ≤ 1200 := fun j hj => by
    have h1 := rt_b hp (hok j (by omega)); have h2 := hs j (by omega)
    have e1 : (spV p j).1 = 200 + (hlV p j).1 := rfl
    have e : (spV p j).2 = 200 + (hlV p j).2 := rfl
    omega
  have hw1 := wS_b (x := x) (film := p.flo) (by omega) i hspb
  have hw2 := wS_b (x := x) (film := p.fhi) (by omega) i hspb2
  have hlg : 0 ≤ lg ∧ lg ≤ 10000 := by unfold wLo at hlo; unfold wHi at hhi; omega
  have hmu := hp.much
  have hmm : 0 ≤ (mn : Int) * p.much ∧ (mn : Int) * p.much ≤ 8 * 255 := ⟨Int.mul_nonneg (by omega) (by omega), Int.mul_le_mul (by omega) (by omega) (by omega) (by decide)⟩
  refine Br.mk (fun h => ?_) (fun h => ?_)
  · have h : (i : Int) < (p.N : Int) := of_decide_eq_true h
    have hiN : i < p.N := by omega
    have hB := hok i hiN
    have hin := rt_in hp hB
    have hbb := rt_b hp hB
    have hss := hs i hiN
    have es1 : (spV p i).1 = 200 + (hlV p i).1 := rfl
    have es2 : (spV p i).2 = 200 + (hlV p i).2 := rfl
    refine Chk.mk (show (0 : Int) ≤ (i : Int) ∧ (i : Int) < (p.N : Int) from ⟨by omega, h⟩) ?_
    refine Chk.mk (show (0 : Int) ≤ (i : Int) ∧ (i : Int).toNat ≤ IntKind.i64.bits from ⟨by omega, by show (i : Int).toNat ≤ 64; omega⟩) ?_
    have hsb := shr_b (S := x) (w := i) hx
    refine Chk.mk ⟨hsb.2, by decide, hsb.1, by decide, by decide⟩ ?_
    refine Br.mk (fun h4 => ?_) (fun h4 => ?_)
    · have h4 : decide (((((x : Nat) : Int).fdiv (2 ^ (i : Int).toNat)).toNat &&& (1 : Int).toNat : Nat) = (0 : Int)) = true := h4
      rw [shr_bit] at h4
      have hbit : x.testBit i = false := by
        cases hb : x.testBit i with
        | false => rfl
        | true => rw [hb] at h4; simp at h4
      refine Chk.mk (show InK .i64 ((i : Int) + 1) from ⟨by omega, by omega⟩) ⟨⟨⟨i + 1, lg, wm, mn, c⟩, (by omega : i + 1 ≤ p.N), ?_, ?_, ?_, hd1, hd2, hc0, ?_⟩, (fun j => j), ?_, by show p.N - (i + 1) < p.N - i; omega⟩
      · show mn = S.cntB x (i + 1)
        rw [S.cntB, hbit]; simp [hmn]
      · show wLo p x (i + 1) ≤ lg
        unfold wLo; rw [S.wS, hbit]; exact hlo
      · show lg ≤ wHi p x (i + 1)
        unfold wHi; rw [S.wS, hbit]; exact hhi
      · show c ≤ 1000 + ((i + 1 : Nat) : Int)
        omega
      · refine ⟨?_, ?_, rfl, rfl, rfl, rfl, trivial⟩ <;> repeat' (first | exact trivial | exact rfl | (intro k hk; exact ⟨rfl, rfl⟩) | (intro v m g h; exact h) | refine And.intro ?_ ?_)
    have h4 : decide (((((x : Nat) : Int).fdiv (2 ^ (i : Int).toNat)).toNat &&& (1 : Int).toNat : Nat) = (0 : Int)) = false := h4
    rw [shr_bit] at h4
    have hbit : x.testBit i = true := by
      cases hb : x.testBit i with
      | true => rfl
      | false => rw [hb] at h4; simp at h4
    have htt := rt_show hp hB (ht i hiN hbit)
    have htb := ht i hiN hbit
    have hrb := room_b (rtB p i) p.much
    have hL := lnV_in hp hB
    have hC := coV_in hp hB
    have hb := blk_b hB
    simp only [inW] at hb
    refine Br.mk (fun h5 => ?_) (fun h5 => ?_)
    · have h5 : (0 : Int) < (mn : Int) := of_decide_eq_true h5
      refine fb_call (ok3 G) cont_std rfl rfl rfl rfl ⟨bd53, callS_draw (c := c) (lo := p.flo) (hi := p.fhi) hp rfl rfl rfl (by omega) (by omega) ?_⟩
      have hdi : p.flo ≤ drawV p.m p.o c p.flo p.fhi ∧ drawV p.m p.o c p.flo p.fhi ≤ p.fhi := drawV_in' hp hf.2.1 hc0
      refine Chk.mk (show InK .i64 (lg + drawV p.m p.o c p.flo p.fhi) from ⟨by omega, by omega⟩) (Chk.mk (show InK .i64 (wm + drawV p.m p.o c p.flo p.fhi) from ⟨by omega, by omega⟩) ?_)
      refine drawn_ok (ok3 G) fol [0,1,0,7,0,16,0,0,192,448,0,0,0,6144,14336,31744,0,131008,262128,0,524288,262095,2621439,8388607] [] 24 (by kernel_rfl) ?_
      refine Chk.mk (show InK .i64 (lg + drawV p.m p.o c p.flo p.fhi + 200) from ⟨by omega, by omega⟩) (Chk.mk (show InK .i64 (lg + drawV p.m p.o c p.flo p.fhi + 200 + lnV p i) from ⟨by omega, by omega⟩) (Chk.mk (show InK .i64 (wm + drawV p.m p.o c p.flo p.fhi + 200) from ⟨by omega, by omega⟩) ?_))
      refine Chk.mk (show (0 : Int) ≤ (i : Int) ∧ (i : Int) < (p.N : Int) from ⟨by omega, h⟩) (Chk.mk (show (0 : Int) ≤ (i : Int) ∧ (i : Int) < (p.N : Int) from ⟨by omega, h⟩) ?_)
      refine Chk.mk (show smB 1000000 (lnV p i) ∧ smB 1000 (p.g i).mark ∧ smB 1000 (coV p i) ∧ smB 1000 t from ⟨⟨by omega, by omega⟩, ⟨by omega, by omega⟩, ⟨by omega, by omega⟩, ⟨by omega, by omega⟩⟩) ?_
      refine Chk.mk (show InK .i64 (wm + drawV p.m p.o c p.flo p.fhi + 200 + showV (p.g i).mark (lnV p i, coV p i) t) from ⟨by omega, by omega⟩) (Chk.mk (show InK .i64 ((mn : Int) + 1) from ⟨by omega, by omega⟩) ?_)
      refine Chk.mk (show InK .i64 ((i : Int) + 1) from ⟨by omega, by omega⟩) ⟨⟨⟨i + 1, lg + drawV p.m p.o c p.flo p.fhi + 200 + lnV p i, wm + drawV p.m p.o c p.flo p.fhi + 200 + showV (p.g i).mark (lnV p i, coV p i) t, mn + 1, c + 1⟩, hz.step hiN hbit (th := drawV p.m p.o c p.flo p.fhi) (.inr ⟨by show 0 < mn; omega, hdi.1, hdi.2⟩) hin htt rfl rfl (by show 0 ≤ c + 1 ∧ c + 1 ≤ 1000 + ((i + 1 : Nat) : Int); omega)⟩, (fun j => j), ?_, by show p.N - (i + 1) < p.N - i; omega⟩
      refine ⟨?_, ?_, rfl, rfl, rfl, rfl, trivial⟩ <;> repeat' (first | exact trivial | exact rfl | (intro k hk; exact ⟨rfl, rfl⟩) | (intro v m g h; exact h) | refine And.intro ?_ ?_)
    · have h5 : ¬ (0 : Int) < (mn : Int) := of_decide_eq_false h5
      refine drawn_ok (ok3 G) fol [0,1,0,7,0,16,0,0,192,448,0,0,0,6144,14336,31744,0,131008,262128,0,524288,262095,2621439,8388607] [] 24 (by kernel_rfl) ?_
      refine Chk.mk (show InK .i64 (lg + 200) from ⟨by omega, by omega⟩) (Chk.mk (show InK .i64 (lg + 200 + lnV p i) from ⟨by omega, by omega⟩) (Chk.mk (show InK .i64 (wm + 200) from ⟨by omega, by omega⟩) ?_))
      refine Chk.mk (show (0 : Int) ≤ (i : Int) ∧ (i : Int) < (p.N : Int) from ⟨by omega, h⟩) (Chk.mk (show (0 : Int) ≤ (i : Int) ∧ (i : Int) < (p.N : Int) from ⟨by omega, h⟩) ?_)
      refine Chk.mk (show smB 1000000 (lnV p i) ∧ smB 1000 (p.g i).mark ∧ smB 1000 (coV p i) ∧ smB 1000 t from ⟨⟨by omega, by omega⟩, ⟨by omega, by omega⟩, ⟨by omega, by omega⟩, ⟨by omega, by omega⟩⟩) ?_
      refine Chk.mk (show InK .i64 (wm + 200 + showV (p.g i).mark (lnV p i, coV p i) t) from ⟨by omega, by omega⟩) (Chk.mk (show InK .i64 ((mn : Int) + 1) from ⟨by omega, by omega⟩) ?_)
      refine Chk.mk (show InK .i64 ((i : Int) + 1) from ⟨by omega, by omega⟩) ⟨⟨⟨i + 1, lg + 200 + lnV p i, wm + 200 + showV (p.g i).mark (lnV p i, coV p i) t, mn + 1, c⟩, hz.step hiN hbit (th := 0) (.inl ⟨by show mn = 0; omega, rfl⟩) hin htt (by show lg + 200 + lnV p i = lg + 0 + 200 + lnV p i; omega) (by show wm + 200 + _ = wm + 0 + 200 + _; omega) (by show 0 ≤ c ∧ c ≤ 1000 + ((i + 1 : Nat) : Int); omega)⟩, (fun j => j), ?_, by show p.N - (i + 1) < p.N - i; omega⟩
      refine ⟨?_, ?_, rfl, rfl, rfl, rfl, trivial⟩ <;> repeat' (first | exact trivial | exact rfl | (intro k hk; exact ⟨rfl, rfl⟩) | (intro v m g h; exact h) | refine And.intro ?_ ?_)
  · have h : ¬ (i : Int) < (p.N : Int) := of_decide_eq_false h
    obtain rfl : i = p.N := by omega
    exact hK _ hz rfl
end
end Go.X.W
end

section
set_option linter.unusedVariables false
set_option linter.unusedSimpArgs false
set_option linter.unusedSectionVars false
/- TopWarmed: the walk. -/
set_option linter.unusedVariables false
set_option linter.unusedSimpArgs false
set_option maxRecDepth 10000
set_option maxHeartbeats 4000000
namespace Go.X.W
open Go Go.Proofs Go.X
def H3 (p : Par) : List (Nat × HB) := [(0, .ro 6 p.N fun i => wbC (p.g i)), (1, .ro 1 p.m fun i => [.si .u16 (p.o i)]), (2, .fam 4 (wbF p.N p.g))]
def A3 (p : Par) : List SV := [.sl 0, .agg [.si .i64 p.flo, .si .i64 p.fhi], .sl 1, .si .u16 p.at_, .si .u8 p.wide, .si .u8 p.much, .si .u8 p.warmth]
theorem few_cases {L : List Span} {lo hi a b : Int} (h : S.errV L lo hi (S.isWantB a b) = 0) : (∃ f, S.foundX L.length (S.qIn L lo hi (a, b)) = some f ∧ S.fewW L lo hi a b = ((f.least : Int), 0)) ∨ S.fewW L lo hi a b = (0, 4) := by
  unfold S.fewW
  rw [if_pos h]
  cases hf : S.foundX L.length (S.qIn L lo hi (a, b)) with
  | none => exact .inr rfl
  | some f => exact .inl ⟨f, rfl, rfl⟩
theorem found_least {n : Nat} {q : Nat → Bool} {f : S.Fd} (h : S.foundX n q = some f) : 0 < f.least ∧ f.least < 2 ^ n ∧ q f.least = true := by
  refine S.J_all (fun f => 0 < f.least ∧ f.least < 2 ^ n ∧ q f.least = true) (fun f x hf hx => ?_) (fun x hx => ?_) h
  · simp only [S.join]
    split
    · exact hx
    · exact hf
  · obtain ⟨y, hy, rfl⟩ := List.mem_map.1 hx
    obtain ⟨h1, h2⟩ := List.mem_filter.1 hy
    rw [Bool.and_eq_true, decide_eq_true_eq] at h2
    exact ⟨h2.1, List.mem_range.1 h1, h2.2⟩
theorem s3 {p : Par} (hp0 : p.N ≤ 8 → ParOk p) : CallS P 3 (A3 p) (H3 p) 3 (fun v _ _ => v = .sb true) (fun _ _ _ => False) := by
  refine callS_exec good3.ok Try.func3 (c := code Try.f3) rfl (Nat.le_of_ble_eq_true rfl) fun G hG => ?_
  refine Br.mk (fun h => ?_) (fun h => ?_)
  · exact rfl
  have h : ¬ (8 : Int) < (p.N : Int) := of_decide_eq_false h
  have hN : p.N ≤ 8 := by omega
  have hp := hp0 hN
  refine fb_call (ok3 G) cont_std rfl rfl rfl rfl ⟨bd15, ?_⟩
  refine callS_at [.sl 0] [(0, .ro 1 p.m fun i => [.si .u16 (p.o i)])] 1 (fun j => 1) (by repeat' (first | exact trivial | exact rfl | refine And.intro ?_ ?_)) rfl (by repeat' (first | exact trivial | exact rfl | (intro i hi; exact ⟨rfl, rfl⟩) | refine And.intro ?_ ?_)) rfl rfl ?_
  refine s15 ⟨rfl, (by repeat' (first | exact trivial | exact rfl | (intro i hi; exact ⟨rfl, rfl⟩) | refine And.intro ?_ ?_)), (by repeat' (first | exact trivial | exact rfl | (intro i hi; exact rfl) | refine And.intro ?_ ?_)), ?_⟩
  refine (show SemC _ _ _ _ from ?_)
  refine nil_slot 17 3 1 (lnG p) rfl ?_
  refine nil_slot 18 3 1 (coG p) rfl ?_
  refine nil_slot 19 36 6 (rtG p []) rfl ?_
  refine sem_nilVec 4 30 24 2 (fun j => spanC (spV p j)) _ [.sl 10, .si .i64 p.flo, .si .i64 p.fhi] rfl rfl ?_
  refine sem_fam0 4 ?_
  refine sem_weaken (st' := ⟨bF p 0, [], (6, .cells 3 [.si .i64 0]) :: hB p 0 [], 12, []⟩) 3 (fun j => match j with | 5 => 6 | 6 => 5 | j => j) hG (by
    refine ⟨?_, ?_, rfl, rfl, rfl, rfl, trivial⟩ <;> repeat' (first | exact trivial | exact rfl | (intro i hi; exact absurd hi (Nat.not_lt_zero _)) | (intro i hi; exact ⟨rfl, rfl⟩) | (rintro v m g ⟨i, hi, _⟩; exact absurd hi (Nat.not_lt_zero _)) | (intro v m g h; exact h) | refine And.intro ?_ ?_)) ?_
  refine blkLoop hG hp (fun F gs H nx => rfl) fun vs hI => ?_
  have hok : ∀ j, j < p.N → blkOk (inW p j) = true := hI.2.2.1
  obtain ⟨L, hL⟩ : ∃ L, (List.range p.N).map (spV p) = L := ⟨_, rfl⟩
  have hLn : L.length = p.N := by rw [← hL]; simp
  refine Chk.mk ⟨S.spans_sp _ _, rfl, trivial⟩ ?_
  refine Br.mk (fun h2 => ?_) (fun h2 => ?_)
  · exact rfl
  have h2 : (!S.setOk ((List.range p.N).map (spV p)) p.flo p.fhi) = false := h2
  have h2 : S.setOk L p.flo p.fhi = true := by rw [← hL]; simpa using h2
  obtain ⟨q1, q2, q3, q4, q5⟩ := S.setOk_len h2
  have ha := hp.at_
  have hw := hp.wide
  have hlo := Int.tmod_nonneg 5001 ha.1
  have hlo2 := Int.tmod_lt_of_pos p.at_ (show (0 : Int) < 5001 by decide)
  obtain ⟨lo, hlo'⟩ : ∃ lo, p.at_.tmod 5001 = lo := ⟨_, rfl⟩
  refine Chk.mk (show InK .i64 p.at_ from ⟨by omega, by omega⟩) (Chk.mk (show (5001 : Int) ≠ 0 by decide) (Chk.mk (show InK .i64 p.wide from ⟨by omega, by omega⟩) (Chk.mk (show InK .i64 (p.at_.tmod 5001 + p.wide) from ⟨by omega, by omega⟩) ?_)))
  refine Chk.mk ⟨S.spans_sp _ _, rfl, (show ((List.range p.N).map (spV p)).length ≤ 40 by rw [hL]; omega)⟩ ?_
  have hwant : S.isWantB (p.at_.tmod 5001) (min 5000 (p.at_.tmod 5001 + p.wide)) = true := by
    unfold S.isWantB
    simp only [Bool.and_eq_true, decide_eq_true_eq]
    omega
  have herr : S.errV L p.flo p.fhi (S.isWantB (p.at_.tmod 5001) (min 5000 (p.at_.tmod 5001 + p.wide))) = 0 := by
    unfold S.errV; rw [h2, hwant]; rfl
  have hfew := few_cases (L := L) herr
  rw [← hL] at hfew
  refine Br.mk (fun h3 => ?_) (fun h3 => ?_)
  · have h3 : (!decide ((S.fewW ((List.range p.N).map (spV p)) p.flo p.fhi (p.at_.tmod 5001) (min 5000 (p.at_.tmod 5001 + p.wide))).2 = 0)) = true := h3
    rcases hfew with ⟨f, hf, he⟩ | he
    · rw [he] at h3; simp at h3
    · refine (show SV.sb (decide ((S.fewW ((List.range p.N).map (spV p)) p.flo p.fhi (p.at_.tmod 5001) (min 5000 (p.at_.tmod 5001 + p.wide))).2 = 4) && true) = .sb true from ?_)
      rw [he]; rfl
  have h3 : (!decide ((S.fewW ((List.range p.N).map (spV p)) p.flo p.fhi (p.at_.tmod 5001) (min 5000 (p.at_.tmod 5001 + p.wide))).2 = 0)) = false := h3
  rcases hfew with ⟨f, hf, he⟩ | he
  case inr => rw [he] at h3; simp at h3
  rw [hL] at hf
  obtain ⟨hx0, hx1, hx2⟩ := found_least hf
  rw [hLn] at hx1
  have hx256 : f.least < 256 := Nat.lt_of_lt_of_le hx1 (S.pow_le8 hN)
  have hmu := hp.much
  refine Chk.mk (show InK .i64 p.much from ⟨by omega, by omega⟩) ?_
  refine (show SemC _ _ _ _ from ?_)
  have ex : (S.fewW ((List.range p.N).map (spV p)) p.flo p.fhi (p.at_.tmod 5001) (min 5000 (p.at_.tmod 5001 + p.wide))).1 = (f.least : Int) := by rw [he]
  refine sem_weaken (st' := ⟨b35 p ⟨f.least, p.at_.tmod 5001, min 5000 (p.at_.tmod 5001 + p.wide), cS p p.N⟩ 0, [], h35 p vs ⟨f.least, p.at_.tmod 5001, min 5000 (p.at_.tmod 5001 + p.wide), cS p p.N⟩, 13, []⟩) 3 (fun j => j) hG (by
    refine ⟨?_, ?_, rfl, rfl, rfl, rfl, trivial⟩ <;> repeat' (first | exact trivial | exact rfl | exact ex | (intro i hi; exact ⟨rfl, rfl⟩) | (intro v m g h; exact h) | refine And.intro ?_ ?_)) ?_
  refine roomLoop hG hp hI hx256 ?_
  have hrb := rmV_b (p := p) (x := f.least) p.N
  have hwm := hp.warmth
  obtain ⟨rm, hrm⟩ : ∃ rm, rmV p f.least p.N = rm := ⟨_, rfl⟩
  have ht0 := Int.tmod_nonneg (2 * rmV p f.least p.N + 1) hwm.1
  have ht1 := Int.tmod_lt_of_pos p.warmth (show (0 : Int) < 2 * rmV p f.least p.N + 1 by omega)
  refine Chk.mk (show InK .i64 p.warmth from ⟨by omega, by omega⟩) (Chk.mk (show InK .i64 (2 * rmV p f.least p.N) from ⟨by omega, by omega⟩) (Chk.mk (show InK .i64 (2 * rmV p f.least p.N + 1) from ⟨by omega, by omega⟩) (Chk.mk (show 2 * rmV p f.least p.N + 1 ≠ 0 by omega) (Chk.mk (show InK .i64 (p.warmth.tmod (2 * rmV p f.least p.N + 1) - rmV p f.least p.N) from ⟨by omega, by omega⟩) ?_))))
  refine (show SemC _ _ _ _ from ?_)
  refine sem_weaken (st' := ⟨b46 p f.least (p.warmth.tmod (2 * rmV p f.least p.N + 1) - rmV p f.least p.N) ⟨0, 0, 0, 0, cS p p.N⟩, [], h46 p vs (p.at_.tmod 5001) (min 5000 (p.at_.tmod 5001 + p.wide)) (cS p p.N), 13, []⟩) 3 (fun j => j) hG (by
    refine ⟨?_, ?_, rfl, rfl, rfl, rfl, trivial⟩ <;> repeat' (first | exact trivial | exact rfl | (intro i hi; exact ⟨rfl, rfl⟩) | (intro v m g h; exact h) | refine And.intro ?_ ?_)) ?_
  have hsp : ∀ j, j < p.N → 1 ≤ (spV p j).1 ∧ (spV p j).2 ≤ 500 := fun j hj => by
    have h := q5 (spV p j) (by rw [← hL]; exact List.mem_map.2 ⟨j, List.mem_range.2 hj, rfl⟩)
    exact ⟨h.1, h.2.2.1⟩
  have hcn := cS_nn p p.N
  have hcl := cS_le p.N hok
  refine lenLoop hG hp hI hx256 ⟨q2, q3, q4⟩ hsp (fun j hj hb => ?_) ⟨by omega, by omega⟩ fun z hz hzi => ?_
  · have h := rmV_le (p := p) (x := f.least) p.N j hj hb
    omega
  obtain ⟨i, lg, wm, mn, c⟩ := z
  obtain rfl : i = p.N := hzi
  have hmn : mn = S.cntB f.least p.N := hz.mn
  have hzlo : wLo p f.least p.N ≤ lg := hz.lo
  have hzhi : lg ≤ wHi p f.least p.N := hz.hi
  have hd1 : -((mn : Int) * p.much) ≤ wm - lg := hz.d1
  have hd2 : wm - lg ≤ (mn : Int) * p.much := hz.d2
  have hm1 := cntB_le f.least p.N
  have hmm : 0 ≤ (mn : Int) * p.much ∧ (mn : Int) * p.much ≤ 8 * 255 := ⟨Int.mul_nonneg (by omega) (by omega), Int.mul_le_mul (by omega) (by omega) (by omega) (by decide)⟩
  have hof := S.ofW_ofL (L := L) (lo := p.flo) (hi := p.fhi) hx0 (by rw [hLn]; exact hx1)
  rw [← hL, S.ofW_map] at hof
  rw [← hL] at hx2
  have hx2 : (decide (p.at_.tmod 5001 ≤ (S.ofL ((List.range p.N).map (spV p)) p.flo p.fhi f.least).1) && decide ((S.ofL ((List.range p.N).map (spV p)) p.flo p.fhi f.least).2 ≤ min 5000 (p.at_.tmod 5001 + p.wide))) = true := hx2
  simp only [Bool.and_eq_true, decide_eq_true_eq] at hx2
  have e1 : wLo p f.least p.N = (S.ofL ((List.range p.N).map (spV p)) p.flo p.fhi f.least).1 := congrArg Prod.fst hof
  have e2 : wHi p f.least p.N = (S.ofL ((List.range p.N).map (spV p)) p.flo p.fhi f.least).2 := congrArg (fun q => q.2.1) hof
  have e3 : ((S.cntB f.least p.N : Nat) : Int) = (S.sizeN f.least : Int) := congrArg (fun q => q.2.2) hof
  have hpos := S.sizeN_ge hx0
  have hlg : p.at_.tmod 5001 ≤ lg ∧ lg ≤ min 5000 (p.at_.tmod 5001 + p.wide) := by omega
  refine Chk.mk (show InK .i64 (wm - lg) from ⟨by omega, by omega⟩) ?_
  refine Chk.mk (underX_of (show InK .i64 (0 - (wm - lg)) from ⟨by omega, by omega⟩)) (Chk.mk (underX_of (show InK .i64 ((mn : Int) * p.much) from ⟨by omega, by omega⟩)) ?_)
  refine (show SV.sb ((((decide ((0 : Int) < (mn : Int)) && decide (p.at_.tmod 5001 ≤ lg)) && decide (lg ≤ min 5000 (p.at_.tmod 5001 + p.wide))) && decide (max (wm - lg) (0 - (wm - lg)) ≤ (mn : Int) * p.much)) && true) = .sb true from ?_)
  rw [decide_eq_true (show (0 : Int) < (mn : Int) by omega), decide_eq_true hlg.1, decide_eq_true hlg.2, decide_eq_true (show max (wm - lg) (0 - (wm - lg)) ≤ (mn : Int) * p.much by omega)]
  rfl
end Go.X.W
end

section
set_option linter.unusedVariables false
set_option linter.unusedSimpArgs false
set_option linter.unusedSectionVars false
/- TopWarmed: arguments opened: blocks, whose readings are slices. -/
set_option linter.unusedVariables false
set_option linter.unusedSimpArgs false
set_option linter.unusedSectionVars false
set_option maxRecDepth 100000
set_option maxHeartbeats 1600000
namespace Go.X.W
open Go Go.Proofs Go.X Go.ChangeShapes Go.WideShapes Go.ChangeAt Go.RowKit Go.Joins

theorem wf_u16 {x : Int} (h : (Lit.int .u16 x).wf = true) : 0 ≤ x ∧ x < 65536 := by
  simp only [Lit.wf, IntKind.min, IntKind.max, IntKind.signed, IntKind.bits, Bool.and_eq_true, decide_eq_true_eq] at h; simp at h; omega
theorem wf_u8 {x : Int} (h : (Lit.int .u8 x).wf = true) : 0 ≤ x ∧ x < 256 := by
  simp only [Lit.wf, IntKind.min, IntKind.max, IntKind.signed, IntKind.bits, Bool.and_eq_true, decide_eq_true_eq] at h; simp at h; omega
/-- A struct's field. -/
def fld (P : Program) (t i : Nat) : Field := match P.underlying t with
  | some (.struct fs) => (match fs[i]? with
    | some f => f
    | none => ⟨ "", 0, 0, false, "", "", 0⟩)
  | _ => ⟨ "", 0, 0, false, "", "", 0⟩
theorem und24 : Try.prog.underlying 24 = some (.struct #[fld Try.prog 24 0, fld Try.prog 24 1]) := by kernel_rfl
theorem und36 : Try.prog.underlying 36 = some (.struct #[fld Try.prog 36 0, fld Try.prog 36 1, fld Try.prog 36 2, fld Try.prog 36 3]) := by kernel_rfl
theorem fld36 : ((fld Try.prog 36 0).type = 3 ∧ (fld Try.prog 36 0).offset = 0) ∧ ((fld Try.prog 36 1).type = 24 ∧ (fld Try.prog 36 1).offset = 1) ∧ ((fld Try.prog 36 2).type = 24 ∧ (fld Try.prog 36 2).offset = 3) ∧ ((fld Try.prog 36 3).type = 34 ∧ (fld Try.prog 36 3).offset = 5) :=
  ⟨⟨by kernel_rfl, by kernel_rfl⟩, ⟨by kernel_rfl, by kernel_rfl⟩, ⟨by kernel_rfl, by kernel_rfl⟩, ⟨by kernel_rfl, by kernel_rfl⟩⟩
theorem und34 : Try.prog.underlying 34 = some (.slice 41) := by kernel_rfl
theorem lay3 : lay Try.prog 3 3 = some [.i64] := by kernel_rfl
theorem lay24 : lay Try.prog 3 24 = some [.i64, .i64] := by kernel_rfl
theorem lay41 : lay Try.prog 4 41 = some [.i64, .i64, .i64, .i64] := by kernel_rfl
theorem cells3 : Try.prog.cellsOf 3 = 1 := by kernel_rfl
theorem cells24 : Try.prog.cellsOf 24 = 2 := by kernel_rfl
theorem cells34 : Try.prog.cellsOf 34 = 1 := by kernel_rfl
theorem cells36 : Try.prog.cellsOf 36 = 6 := by kernel_rfl
theorem cells41 : Try.prog.cellsOf 41 = 4 := by kernel_rfl
theorem own : ownKnob Try.prog.godebug = none := by kernel_rfl
theorem laidOut : laidOutB Try.prog = true := by kernel_rfl

theorem und22 : Try.prog.underlying 22 = some (.slice 36) := by kernel_rfl
theorem und25 : Try.prog.underlying 25 = some (.slice 26) := by kernel_rfl
theorem lay26 : lay Try.prog 3 26 = some [.u16] := by kernel_rfl
theorem cells26 : Try.prog.cellsOf 26 = 1 := by kernel_rfl
theorem und26 : Try.prog.underlying 26 = some (.int .u16) := by kernel_rfl
theorem und5 : Try.prog.underlying 5 = some (.int .u8) := by kernel_rfl
section
variable {H : Type} {enc : TypeId × Value → H} {W : World} {base : Nat}

theorem open_span {v : Value} {d : DataW H} {p : List MemPlace} (hv : Value.okWide Try.prog W .any base 24 v) (h : DataW.Trod enc Try.prog W 0 (fun _ => true) true 24 v d p) :
    ∃ lo hi : Int, v = .agg #[.int .i64 lo, .int .i64 hi] ∧ (Lit.int .i64 lo).wf = true ∧ (Lit.int .i64 hi).wf = true := by
  obtain ⟨cs, rfl, hsz⟩ := okWide_struct und24 hv
  obtain ⟨fuel, hf⟩ := h
  obtain ⟨ns, q1, q2, q3⟩ := trod_lay 3 24 _ fuel _ _ lay24 hf
  match ns, q1 with
  | [x, y], _ =>
    refine ⟨x, y, ?_, q3 (.i64, x) (by simp), q3 (.i64, y) (by simp)⟩
    have q2 : cs.toList = [.int .i64 x, .int .i64 y] := q2
    congr 1
    exact Array.toList_inj.1 (by rw [q2])

theorem open_num {t : TypeId} {k : IntKind} (ht : Try.prog.underlying t = some (.int k)) {v : Value} {d : DataW H} {p : List MemPlace} (hv : Value.okWide Try.prog W .any base t v) (h : DataW.Trod enc Try.prog W 0 (fun _ => true) true t v d p) :
    ∃ x : Int, v = .int k x ∧ (Lit.int k x).wf = true := by
  obtain ⟨x, rfl, _, _, wx⟩ := open_int ht hv h
  exact ⟨x, rfl, wx⟩

theorem open_u16s {v : Value} {d : DataW H} {p : List MemPlace} (hv : Value.okWide Try.prog W .any base 25 v) (h : DataW.Trod enc Try.prog W 0 (fun _ => true) true 25 v d p) :
    ∃ (a : Option Addr) (n cap : Nat) (f : Nat → Int), v = .slice a n cap ∧ n ≤ maxLen ∧ (∀ j, j < n → 0 ≤ f j ∧ f j < 65536) ∧ ∀ ρ : Env, HBok ρ W (.ro 1 n fun i => [.si .u16 (f i)]) (.sl a n cap 1) := by
  obtain ⟨a', n', cap', rfl⟩ := okWide_slice und25 hv
  obtain ⟨fuel, hf⟩ := h
  obtain ⟨a, n, cap, N, hcs, hm, hN, hw, hk⟩ := open_ro und25 lay26 cells26 (by decide) hf
  have hcs : [Value.slice a' n' cap'] = [.slice a n cap] := hcs
  refine ⟨a, n, cap, fun i => (N i).getD 0 0, (by injection hcs), hm, fun j hj => ?_, fun ρ => ?_⟩
  · have h1 := hN j
    have h2 := hw j hj
    match hn : N j, h1 with
    | [x], _ =>
      rw [hn] at h2
      show 0 ≤ (N j).getD 0 0 ∧ (N j).getD 0 0 < 65536
      rw [hn]
      exact wf_u16 (h2 (.u16, x) (by simp))
  · have e : (fun i => intS [.u16] (N i)) = fun i => [SV.si .u16 ((N i).getD 0 0)] := by
      funext i
      have := hN i
      match hn : N i, this with
      | [x], _ => rfl
    have := hk ρ
    rw [e] at this
    exact this

/-- A slice of anything that can be opened. -/
theorem open_roG {D : Type} (d0 : D) (V : D → List Value) (S : D → List SV) (R : D → Prop) (z : Nat) (hz : 0 < z) (hV : ∀ d, (V d).length = z) (h1 : ∀ d, (V d).all (·.oneCell') = true) (hS : ∀ ρ d, denL ρ (S d) = some (V d))
    {t e : TypeId} {fuel : Nat} {cs : List Value} {x : DataW H × List MemPlace} (ht : Try.prog.underlying t = some (.slice e)) (hC : Try.prog.cellsOf e = z)
    (hel : ∀ fuel c y, c.length = z → DataW.trod enc Try.prog W 0 (fun _ => true) true fuel e c = some y → ∃ d, c = V d ∧ R d)
    (h : DataW.trod enc Try.prog W 0 (fun _ => true) true fuel t cs = some x) :
    ∃ (a : Option Addr) (len cap : Nat) (f : Nat → D), cs = [.slice a len cap] ∧ isSl (.slice a len cap) len ∧ len ≤ maxLen ∧ (∀ i, i < len → R (f i)) ∧ ∀ ρ : Env, HBok ρ W (.ro z len fun i => S (f i)) (.sl a len cap z) := by
  rcases DataW.trod_slice ht h with ⟨rfl, _⟩ | ⟨a, len, cap, elems, rest, m, _, rfl, _, _, hle, hm, hlen, hel', _⟩
  · exact ⟨none, 0, 0, fun _ => d0, rfl, .inl ⟨rfl, rfl⟩, Nat.zero_le _, fun i hi => absurd hi (Nat.not_lt_zero _), fun ρ => ⟨rfl, rfl, Nat.le_refl _, fun h => by omega⟩⟩
  · have key : ∀ i, i < len → ∃ d : D, R d ∧ ∀ j v, (V d)[j]? = some v → W.cell? (a.add (i * z + j)) = some v := by
      intro i hi
      have h1 := hel' i hi
      rw [List.getElem?_eq_getElem (by omega)] at h1
      simp only [Option.bind_eq_some_iff] at h1
      obtain ⟨c1, h2, h3⟩ := h1
      obtain ⟨h0, h4, h5⟩ := World.cells?_some h2
      obtain ⟨d, rfl, hR⟩ := hel _ _ _ (by simp_all) h3
      refine ⟨d, hR, fun j v hv => ?_⟩
      have hj : j < (V d).length := (List.getElem?_eq_some_iff.1 hv).1
      rw [← Go.X.add_add, ← hC, h5 j (by have := hV d; omega)]
      exact hv
    have hN : ∃ f : Nat → D, ∀ i, i < len → R (f i) ∧ ∀ j v, (V (f i))[j]? = some v → W.cell? (a.add (i * z + j)) = some v := by
      refine ⟨fun i => if hi : i < len then (key i hi).choose else d0, fun i hi => ?_⟩
      simp only [hi, dif_pos]
      exact (key i hi).choose_spec
    obtain ⟨f, hf⟩ := hN
    refine ⟨some a, len, cap, f, rfl, .inr ⟨a, cap, rfl⟩, by omega, fun i hi => (hf i hi).1, fun ρ => ⟨rfl, rfl, hle, fun hpos => ⟨a, rfl, ?_, fun i hi => ⟨_, hS ρ (f i), h1 _, hV _, (hf i hi).2⟩⟩⟩⟩
    obtain ⟨v, hv⟩ : ∃ v, (V (f 0))[0]? = some v := ⟨_, List.getElem?_eq_getElem (by rw [hV]; exact hz)⟩
    have := (hf 0 hpos).2 0 v hv
    rw [Nat.zero_mul, Nat.zero_add, Go.X.addr_zero] at this
    rcases Nat.lt_or_ge a.block W.heap.size with hlt | hge
    · exact hlt
    · simp [World.cell?, Array.getElem?_eq_none hge] at this
/-- Readings, by their value. -/
theorem open_rdsS {fuel : Nat} {cs : List Value} {x : DataW H × List MemPlace} (h : DataW.trod enc Try.prog W 0 (fun _ => true) true fuel 34 cs = some x) :
    ∃ (v : Value) (n : Nat) (rd : Nat → Rd), cs = [v] ∧ isSl v n ∧ n ≤ maxLen ∧ famOk W 4 v n (rdG rd) := by
  obtain ⟨a, n, cap, f, rfl, hs, hm, _, hk⟩ := open_roG (D := Rd) (0, 0, 0, 0) (fun r => [.int .i64 r.1, .int .i64 r.2.1, .int .i64 r.2.2.1, .int .i64 r.2.2.2]) rdC (fun _ => True) 4 (by decide) (fun _ => rfl) (fun _ => rfl)
    (fun ρ d => by simp [rdC, den, denL]) und34 cells41 (fun fuel c y hc hy => by
      obtain ⟨ns, q1, q2, _⟩ := trod_lay 4 41 _ _ _ _ lay41 hy
      match ns, q1 with
      | [a, b, c, d], _ => exact ⟨(a, b, c, d), q2, trivial⟩) h
  refine ⟨_, n, f, rfl, hs, hm, ?_⟩
  obtain ⟨_, _, h1, h2⟩ := hk fun _ => none
  exact ⟨a, cap, rfl, h1, h2⟩
def wbV (d : Wb) : List Value := [.int .i64 d.mark, .int .i64 d.l1, .int .i64 d.l2, .int .i64 d.c1, .int .i64 d.c2, d.v]
theorem open_blocks {fuel : Nat} {cs : List Value} {x : DataW H × List MemPlace} (h : DataW.trod enc Try.prog W 0 (fun _ => true) true fuel 22 cs = some x) :
    ∃ (a : Option Addr) (n cap : Nat) (g : Nat → Wb), cs = [.slice a n cap] ∧ n ≤ maxLen ∧ (∀ i, i < n → isSl (g i).v (g i).n ∧ famOk W 4 (g i).v (g i).n (rdG (g i).rd)) ∧ ∀ ρ : Env, HBok ρ W (.ro 6 n fun i => wbC (g i)) (.sl a n cap 6) := by
  obtain ⟨a, n, cap, f, e, hs, hm, hR, hk⟩ := open_roG (D := {d : Wb // isSl d.v d.n}) ⟨⟨0, 0, 0, 0, 0, 0, fun _ => (0, 0, 0, 0), .slice none 0 0⟩, .inl ⟨rfl, rfl⟩⟩ (fun d => wbV d.1) (fun d => wbC d.1) (fun d => famOk W 4 d.1.v d.1.n (rdG d.1.rd)) 6 (by decide) (fun _ => rfl)
    (fun d => by have := d.2.one; simpa [wbV, Value.oneCell'] using this) (fun ρ d => by have := d.2.one; simp [wbC, wbV, den, denL, this]) und22 cells36 (fun fuel c y hc hy => by
      obtain ⟨⟨ht0, ho0⟩, ⟨ht1, ho1⟩, ⟨ht2, ho2⟩, ht3, ho3⟩ := fld36
      obtain ⟨xs, m, _, _, hl, hlen, hfd⟩ := DataW.trod_struct und36 hy
      match xs, hlen with
      | [y0, y1, y2, y3], _ =>
        have h0 := hfd 0 (fld Try.prog 36 0) rfl
        have h1 := hfd 1 (fld Try.prog 36 1) rfl
        have h2 := hfd 2 (fld Try.prog 36 2) rfl
        have h3 := hfd 3 (fld Try.prog 36 3) rfl
        rw [ht0, ho0, cells3] at h0
        rw [ht1, ho1, cells24] at h1
        rw [ht2, ho2, cells24] at h2
        rw [ht3, ho3, cells34] at h3
        match c, hc with
        | [e0, e1, e2, e3, e4, e5], _ =>
          obtain ⟨v, n, rd, f3, hs, hm, hk⟩ := open_rdsS h3
          obtain ⟨n0, q1, q2, q3⟩ := trod_lay 3 3 _ _ _ _ lay3 h0
          obtain ⟨n1, r1, r2, r3⟩ := trod_lay 3 24 _ _ _ _ lay24 h1
          obtain ⟨n2, s1, s2, s3⟩ := trod_lay 3 24 _ _ _ _ lay24 h2
          match n0, q1, n1, r1, n2, s1 with
          | [x], _, [y, z], _, [u, w], _ =>
            have f3 : [e5] = [v] := f3
            have q2 : [e0] = [.int .i64 x] := q2
            have r2 : [e1, e2] = [.int .i64 y, .int .i64 z] := r2
            have s2 : [e3, e4] = [.int .i64 u, .int .i64 w] := s2
            cases f3
            cases q2
            cases r2
            cases s2
            exact ⟨⟨⟨x, y, z, u, w, n, rd, _⟩, hs⟩, rfl, hk⟩) h
  exact ⟨a, n, cap, fun i => (f i).1, e, hm, fun i hi => ⟨(f i).2, hR i hi⟩, hk⟩
end
end Go.X.W
end
