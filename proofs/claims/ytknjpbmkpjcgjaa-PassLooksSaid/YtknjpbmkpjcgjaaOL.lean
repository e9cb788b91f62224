/- Certificates without one. -/
import Derived.Test.YtknjpbmkpjcgjaaOJ

section
set_option linter.unusedVariables false
set_option linter.unusedSimpArgs false
set_option linter.unusedSectionVars false
/- Pass: the document's certificates without one. -/
set_option linter.unusedVariables false
set_option linter.unusedSimpArgs false
set_option maxRecDepth 10000
set_option maxHeartbeats 4000000
namespace Go.X.Ps
open Go Go.Proofs Go.X

/-- The first ones, but one. -/
def woL (r : Nat → Pp) (k : Nat) : Nat → List Pp
  | 0 => []
  | i + 1 => if i = k then woL r k i else woL r k i ++ [r i]
theorem woL_len (r : Nat → Pp) (k : Nat) : ∀ i, (woL r k i).length = if k < i then i - 1 else i
  | 0 => by simp [woL]
  | i + 1 => by
    have ih := woL_len r k i
    rw [woL]
    by_cases h : i = k
    · rw [if_pos h, ih, if_neg (by omega), if_pos (by omega)]; omega
    · rw [if_neg h, List.length_append, ih]
      by_cases h2 : k < i
      · rw [if_pos h2, if_pos (by omega)]; simp; omega
      · rw [if_neg h2, if_neg (by omega)]; rfl
theorem woL_get (r : Nat → Pp) (k : Nat) : ∀ i j, j < (woL r k i).length → pget (woL r k i) j = woP r k j
  | 0, j, h => absurd h (Nat.not_lt_zero _)
  | i + 1, j, h => by
    have ih := woL_get r k i
    have hl := woL_len r k i
    rw [woL] at h ⊢
    by_cases hk : i = k
    · rw [if_pos hk] at h ⊢; exact ih j h
    · rw [if_neg hk] at h ⊢
      rw [List.length_append] at h
      have h : j < (woL r k i).length + 1 := h
      by_cases hj : j < (woL r k i).length
      · rw [← ih j hj]; simp [pget, List.getD, List.getElem?_append_left hj]
      · obtain rfl : j = (woL r k i).length := by omega
        have e : pget (woL r k i ++ [r i]) (woL r k i).length = r i := by simp [pget, List.getD]
        rw [e, hl]
        unfold woP
        by_cases h2 : k < i
        · rw [if_pos h2, if_neg (by omega)]; congr 1; omega
        · rw [if_neg h2, if_pos (by omega)]
noncomputable def opw6 : Array Oper := regO 6 (code Try.f35)
noncomputable abbrev X35 (G : Base) : Cx := ⟨P, T, tabC [], G, none, Try.f35.ntmps⟩
theorem x35_ok {G : Base} : (X35 G).Ok := good0.ok _ _ _
def b35 (k i : Nat) : List (Nat × FE) := [(1, ⟨[], .si .i64 (k : Int)⟩), (2, ⟨[], .sp 1 0⟩), (4, ⟨[], .sp 2 0⟩), (5, ⟨[], .sp 3 0⟩), (6, ⟨[], .si .i64 (i : Int)⟩)]
def H35 (it ag : Int) (n : Nat) (r : Nat → Pp) (W : List Pp) : List (Nat × HB) :=
  [(4, .vec 49 5 W.length fun j => ppC (pget W j)), (3, .cells 24 [.si .i64 it, .si .i64 ag, .sl 4]), (2, .cells 24 [.si .i64 0, .si .i64 0, .sv (.slice none 0 0)]), (1, .cells 24 (paA 0 it ag)), (0, .ro 5 n fun i => ppC (r i))]
def arrw (l : List Bool) : Array Bool := ((List.range 11).map fun j => if j < 8 then l.getD j false else false).toArray
def ancw : Nat → List Nat
  | 1 => [0]
  | 3 => [2]
  | 5 => [3, 4]
  | 6 => [5]
  | 7 => [6]
  | _ => []
def exw (l : List Bool) : Bool := (List.range 8).all fun j => l.getD j false
theorem ancw_lt : ∀ i, ∀ j ∈ ancw i, j < i := by
  intro i j hj
  unfold ancw at hj
  split at hj <;> simp at hj <;> omega
theorem latw : (clL ancw 8).all (latX opw6 8 arrw (fun i => i) exw ancw) = true := by kernel_rfl
def slow (r : Nat → Pp) (i : Nat) : Nat → List (Nat × FE)
  | 0 => [(22, ⟨[], .sp 3 2⟩)]
  | 1 => [(23, ⟨[], .sl 4⟩)]
  | 2 => [(24, ⟨[], .sp 1 2⟩)]
  | 3 => [(25, ⟨[], .sl 0⟩)]
  | 4 => [(26, ⟨[], .si .i64 (i : Int)⟩)]
  | 5 => [(27, ⟨[], .se 0 (i : Int) 0⟩)]
  | 6 => [(28, ⟨[], .agg (ppC (r i))⟩)]
  | 7 => [(29, ⟨[], .sl 5⟩)]
  | _ => []
def Hw (it ag : Int) (n : Nat) (r : Nat → Pp) (W : List Pp) (i : Nat) (l : List Bool) : List (Nat × HB) := if l.getD 7 false = true then (5, .row 49 5 1 (ppC (r i))) :: H35 it ag n r W else H35 it ag n r W
def nw (l : List Bool) : Nat := if l.getD 7 false = true then 6 else 5
theorem regw {G : Base} (hG : ∀ j, 1 ≤ j → G.ρ j = none) {it ag : Int} {n k i : Nat} {r : Nat → Pp} {W : List Pp} {K : Ex → St → Prop} (hi : i < n) (hW : W.length ≤ 900000)
    (h : K .normal ⟨b35 k i, [], H35 it ag n r (W ++ [r i]), 5, []⟩) :
    AnyS (X35 G) opw6 11 (Array.replicate 11 false) ⟨b35 k i, [], H35 it ag n r W, 5, []⟩ K := by
  refine any_latD (D := []) x35_ok 8 arrw (fun i => i) exw (slow r i) (b35 k i) (Hw it ag n r W i) nw ancw 3 (fun i hi j hj => by have := ancw_lt i j hj; omega) (latX_of ancw_lt latw) ?_ ?_ ?_ (List.replicate 8 false) rfl (by decide)
  · repeat' (first | exact trivial | exact ⟨rfl, rfl⟩ | refine And.intro ?_ ?_)
  · intro j hj l hl hf ha hcl
    rcases (show j = 7 ∨ j = 0 ∨ j = 1 ∨ j = 2 ∨ j = 3 ∨ j = 4 ∨ j = 5 ∨ j = 6 by omega) with rfl | rfl | rfl | rfl | rfl | rfl | rfl | rfl
    · refine ⟨_, rfl, rfl, fun tail Q Kn hC hK => ?_⟩
      have h7 := getF (show 7 < l.length by omega) hf
      simp only [Hw, nw, getS (l := l) (i := 7) (by omega), h7, if_true, if_false, Bool.false_eq_true] at hK ⊢
      exact hK
    all_goals
      refine ⟨_, rfl, rfl, fun tail Q Kn hC hK => ?_⟩
      simp only [Hw, nw, getN (l := l) (show 0 ≠ 7 by decide), getN (l := l) (show 1 ≠ 7 by decide), getN (l := l) (show 2 ≠ 7 by decide), getN (l := l) (show 3 ≠ 7 by decide), getN (l := l) (show 4 ≠ 7 by decide), getN (l := l) (show 5 ≠ 7 by decide), getN (l := l) (show 6 ≠ 7 by decide)] at hK ⊢
      cases h7 : l.getD 7 false <;> simp only [h7, if_true, if_false, Bool.false_eq_true] at hK ⊢ <;> first | exact hK | exact Chk.mk (show (0 : Int) ≤ (i : Int) ∧ (i : Int) < (n : Int) from ⟨by omega, by omega⟩) hK | exact fb_again x35_ok hC rfl hK
  · intro l hl he
    match l, hl, he with
    | [a0, a1, a2, a3, a4, a5, a6, a7], _, he =>
      have he : (a0 && (a1 && (a2 && (a3 && (a4 && (a5 && (a6 && (a7 && true)))))))) = true := he
      simp only [Bool.and_eq_true] at he
      obtain ⟨rfl, rfl, rfl, rfl, rfl, rfl, rfl, rfl, -⟩ := he
      refine any_step [8] x35_ok (by kernel_rfl) (by decide) ⟨?_, trivial⟩
      refine fb_append (Te := 0) 4 5 W.length 1 (fun j => ppC (pget W j)) _ (fun j => ppC (pget (W ++ [r i]) j)) x35_ok cont_any rfl rfl rfl rfl rfl rfl rfl rfl rfl rfl rfl rfl (by decide) (by decide) rfl rfl rfl rfl ?_ ?_ ?_
      · omega
      · exact fun j hj => pget_snoc (x := r i) (get2 := fun q => takeL 5 (dropL (q * 5) (ppC (r i)))) rfl hj
      · refine any_step [9] x35_ok (by kernel_rfl) (by decide) ⟨?_, trivial⟩
        refine any_step [10] x35_ok (by kernel_rfl) (by decide) ⟨?_, trivial⟩
        refine any_weaken 1 (fun j => match j with | 4 => 6 | j => j) hG ?_ (any_done (by kernel_rfl) h)
        refine ⟨?_, ?_, rfl, rfl, rfl, rfl, trivial⟩
        · repeat' (first | exact trivial | exact rfl | refine And.intro ?_ ?_)
        · repeat' (first | exact trivial | exact rfl | exact snoc_len | exact List.Perm.refl _ | (intro i hi; exact ⟨rfl, rfl⟩) | refine And.intro ?_ ?_)
end Go.X.Ps
end

section
set_option linter.unusedVariables false
set_option linter.unusedSimpArgs false
set_option linter.unusedSectionVars false
/- Pass: the document's certificates without one, and their contract. -/
set_option linter.unusedVariables false
set_option linter.unusedSimpArgs false
set_option maxRecDepth 10000
set_option maxHeartbeats 4000000
namespace Go.X.Ps
open Go Go.Proofs Go.X

def c35 : Ct := fun fr args H => match args with
  | [.agg l, .si .i64 q] => passK H l fun i1 it ag n get => some ⟨some (Pps n get ∧ n ≤ 800000 ∧ 0 ≤ q ∧ q < (n : Int)), none, .agg [.si .i64 it, .si .i64 ag, .sl fr], [(fr, .vec 49 5 (n - 1) fun j => ppC (woP (ppAt get) q.toNat j))]⟩
  | _ => none
theorem c35_mono : CtMono c35 := by
  intro fr args H H' out hH h
  unfold c35 at h ⊢
  split at h
  · exact passK_mono hH h
  · cases h
theorem woL_last {r : Nat → Pp} {k n : Nat} (h : k < n) : (woL r k n).length = n - 1 := by rw [woL_len, if_pos h]
theorem k35 {l : List (Nat × Ct)} (g0 : Good P T l) : COk P 35 c35 := by
  refine cok (C := tabC _) good0.ok Try.func35 (c := code Try.f35) rfl fun fr args H out h hp => ?_
  unfold c35 at h
  split at h
  case h_2 => cases h
  rename_i l q
  obtain ⟨i1, it, ag, n, get, rfl, e1, h⟩ := passK_some h
  cases h
  obtain ⟨hs, hn, hq0, hqn⟩ : Pps n get ∧ n ≤ 800000 ∧ 0 ≤ q ∧ q < (n : Int) := hp
  obtain ⟨k, rfl⟩ : ∃ k : Nat, q = (k : Int) := ⟨q.toNat, by omega⟩
  have hk : k < n := by omega
  refine ⟨[(i1, .ro 5 n fun i => ppC (ppAt get i))], [.agg (paA 0 it ag), .si .i64 (k : Int)], [(0, .ro 5 n fun i => ppC (ppAt get i))], 1, [4], rfl, rfl, Nat.le_of_ble_eq_true rfl, pp_hand e1 hs, rfl, rfl, fun G hG => ?_⟩
  generalize ppAt get = L
  refine nil_at 3 24 49 5 (fun _ => []) [.si .i64 it, .si .i64 ag] [] rfl ?_
  refine loop_okR (good0.ok _ _ _) 1 (fun z : {i : Nat // i ≤ n} => ⟨b35 k z.1, [], H35 it ag n L (woL L k z.1), 5, []⟩)
    (fun z => n - z.1) hG ⟨0, Nat.zero_le _⟩ (fun j => j) ?_ ?_
  · refine ⟨?_, ?_, rfl, rfl, rfl, rfl, trivial⟩ <;> repeat' (first | exact trivial | exact rfl | exact List.Perm.refl _ | (intro i hi; exact absurd hi (Nat.not_lt_zero _)) | (intro i hi; exact ⟨rfl, rfl⟩) | refine And.intro ?_ ?_)
  rintro ⟨i, hi⟩
  refine Br.mk (fun h => ?_) (fun h => ?_)
  · have h : (i : Int) < (n : Int) := of_decide_eq_true h
    have hin : i < n := by omega
    have hl := woL_len L k i
    refine Br.mk (fun h2 => ?_) (fun h2 => ?_)
    · have h2 : (!decide ((i : Int) = (k : Int))) = true := h2
      have hne : ¬ i = k := by simp at h2; omega
      refine (show SemC _ _ _ _ from ?_)
      refine any_region fol ?_
      refine any_weaken (st' := ⟨b35 k i, [], H35 it ag n L (woL L k i), 5, []⟩) 1 (fun j => j) hG (by
        refine ⟨?_, ?_, rfl, rfl, rfl, rfl, trivial⟩
        · repeat' (first | exact trivial | exact rfl | refine And.intro ?_ ?_)
        · repeat' (first | exact trivial | exact rfl | exact List.Perm.refl _ | (intro i hi; exact ⟨rfl, rfl⟩) | refine And.intro ?_ ?_)) ?_
      refine regw hG hin (by split at hl <;> omega) ?_
      refine Chk.mk (show InK .i64 ((i : Int) + 1) from ⟨by omega, by omega⟩) ⟨⟨i + 1, by omega⟩, (fun j => j), ?_, by show n - (i + 1) < n - i; omega⟩
      have e : woL L k (i + 1) = woL L k i ++ [L i] := by rw [woL, if_neg hne]
      show WeakR _ _ _ _
      simp only [e]
      refine ⟨?_, ?_, rfl, rfl, rfl, rfl, trivial⟩ <;> repeat' (first | exact trivial | exact rfl | exact List.Perm.refl _ | (intro i hi; exact ⟨rfl, rfl⟩) | refine And.intro ?_ ?_)
    · have h2 : (!decide ((i : Int) = (k : Int))) = false := h2
      have hne : i = k := by simp at h2; omega
      refine Chk.mk (show InK .i64 ((i : Int) + 1) from ⟨by omega, by omega⟩) ⟨⟨i + 1, by omega⟩, (fun j => j), ?_, by show n - (i + 1) < n - i; omega⟩
      have e : woL L k (i + 1) = woL L k i := by rw [woL, if_pos hne]
      show WeakR _ _ _ _
      simp only [e]
      refine ⟨?_, ?_, rfl, rfl, rfl, rfl, trivial⟩ <;> repeat' (first | exact trivial | exact rfl | exact List.Perm.refl _ | (intro i hi; exact ⟨rfl, rfl⟩) | refine And.intro ?_ ?_)
  · have h : ¬ (i : Int) < (n : Int) := of_decide_eq_false h
    obtain rfl : i = n := by omega
    have hlen := woL_last (r := L) hk
    have hget := woL_get L k i
    generalize woL L k i = W at hlen hget
    refine ⟨.inl rfl, ⟨?_, rfl, ?_, ?_, rfl, rfl⟩⟩ <;> repeat' (first | exact trivial | exact rfl | exact hlen | (intro i hi; exact ⟨rfl, rfl⟩) | (intro j hj; exact ⟨congrArg ppC (hget j hj), rfl⟩) | refine And.intro ?_ ?_)
theorem g35 {l : List (Nat × Ct)} (g : Good P T l) : Good P T ((35, c35) :: l) := g.add (k35 g) c35_mono (body_of Try.func35 (c := code Try.f35) rfl (by decide))
end Go.X.Ps
end

section
set_option linter.unusedVariables false
set_option linter.unusedSimpArgs false
set_option linter.unusedSectionVars false
/- Pass: laws of certificates without one (plain). -/
set_option linter.unusedVariables false
set_option linter.unusedSimpArgs false
set_option maxRecDepth 10000
set_option maxHeartbeats 4000000
namespace Go.X.Ps
open Go Go.Proofs Go.X

theorem erase_get {ps : List Pp} {k j : Nat} : pget (ps.eraseIdx k) j = if j < k then pget ps j else pget ps (j + 1) := by
  unfold pget
  rw [List.getD, List.getElem?_eraseIdx]
  split <;> rfl
theorem erase_len {ps : List Pp} {k : Nat} (h : k < ps.length) : (ps.eraseIdx k).length = ps.length - 1 := List.length_eraseIdx_of_lt h
theorem erase_pap {n k : Nat} {L : Nat → Pp} {ps : List Pp} (hps : papL n (fun i => ppC (L i)) = ps) (hk : k < n) : papL (n - 1) (fun j => ppC (woP L k j)) = ps.eraseIdx k := by
  subst hps
  have hl := erase_len (ps := papL n fun i => ppC (L i)) (k := k) (by rw [papL_len]; exact hk)
  rw [papL_len] at hl
  apply List.ext_getElem
  · rw [papL_len, hl]
  · intro i h1 h2
    have h1 : i < n - 1 := by rw [papL_len] at h1; exact h1
    have e1 : ∀ (l : List Pp) (h : i < l.length), l[i] = pget l i := fun l h => by simp [pget, List.getD, h]
    rw [e1, e1, pget_papL h1, erase_get]
    show woP L k i = _
    unfold woP
    split
    · rw [pget_papL (by omega)]; rfl
    · rw [pget_papL (by omega)]; rfl
theorem erase_valid {it ag : Int} {ps : List Pp} {k : Nat} (hv : validV it ag ps = true) (hk : k < ps.length) : validV it ag (ps.eraseIdx k) = true := by
  unfold validV at *
  simp only [Bool.and_eq_true, decide_eq_true_eq, Bool.not_eq_true', List.any_eq_false] at *
  refine ⟨hv.1, hv.2.1, by rw [erase_len hk]; omega, fun x hx => hv.2.2.2 x (List.mem_of_mem_eraseIdx hx)⟩
theorem valid_mem {it ag : Int} {ps : List Pp} {j : Nat} (hv : validV it ag ps = true) (hj : j < ps.length) : badV it (pget ps j) = false := by
  unfold validV at hv
  simp only [Bool.and_eq_true, decide_eq_true_eq, Bool.not_eq_true', List.any_eq_false] at hv
  have e : pget ps j = ps[j] := by simp [pget, List.getD, hj]
  have := hv.2.2.2 ps[j] (List.getElem_mem hj)
  rw [e]
  simpa using this
/-- What is no item has no bound. -/
theorem bn_far {it ag : Int} {ps : List Pp} {q y : Int} (hv : validV it ag ps = true) (hit : 1 ≤ it ∧ it ≤ 6) (hq : it ≤ q) : bnL ag ps q y = none := by
  cases h : bnL ag ps q y with
  | none => rfl
  | some c =>
    exfalso
    have hw := bst_some h
    cases hw with
    | nil => omega
    | cons h0 h1 h2 h3 =>
      have := valid_mem hv h1
      unfold badV inB at this
      unfold holdsV at h2
      simp only [Bool.or_eq_false_iff, Bool.not_eq_false', Bool.and_eq_true, decide_eq_true_eq] at this h2
      omega
/-! ### Recall -/
theorem any_take {f : Int → Bool} {l : List Int} {j : Nat} (h : j < l.length) : ((l.take j).any f || f (l.getD j 0)) = (l.take (j + 1)).any f := by
  rw [List.take_succ_eq_append_getElem h, List.any_append]
  simp [List.getD, h]
end Go.X.Ps
end
