/- Certificates without one. -/
import Derived.Test.YtknjpbmkpjcgjaaOJ

section
set_option linter.unusedVariables false
set_option linter.unusedSimpArgs false
set_option linter.unusedSectionVars false
/- Pass: the document's certificates without one. -/
set_option linter.unusedVariables false
set_option linter.unusedSimpArgs false
set_option maxRecDepth 10000
set_option maxHeartbeats 4000000
namespace Go.X.Ps
open Go Go.Proofs Go.X

/-- The first ones, but one. -/
def woL (r : Nat → Pp) (k : Nat) : Nat → List Pp
  | 0 => []
  | i + 1 => if i = k then woL r k i else woL r k i ++ [r i]
theorem woL_len (r : Nat → Pp) (k : Nat) : ∀ i, (woL r k i).length = if k < i then i - 1 else i
  | 0 => by simp [woL]
  | i + 1 => by
    have ih := woL_len r k i
    rw [woL]
    by_cases h : i = k
    · rw [if_pos h, ih, if_neg (by omega), if_pos (by omega)]; omega
    · rw [if_neg h, List.length_append, ih]
      by_cases h2 : k < i
      · rw [if_pos h2, if_pos (by omega)]; simp; omega
      · rw [if_neg h2, if_neg (by omega)]; rfl
theorem woL_get (r : Nat → Pp) (k : Nat) : ∀ i j, j < (woL r k i).length → pget (woL r k i) j = woP r k j
  | 0, j, h => absurd h (Nat.not_lt_zero _)
  | i + 1, j, h => by
    have ih := woL_get r k i
    have hl := woL_len r k i
    rw [woL] at h ⊢
    by_cases hk : i = k
    · rw [if_pos hk] at h ⊢; exact ih j h
    · rw [if_neg hk] at h ⊢
      rw [List.length_append] at h
      have h : j < (woL r k i).length + 1 := h
      by_cases hj : j < (woL r k i).length
      · rw [← ih j hj]; simp [pget, List.getD, List.getElem?_append_left hj]
      · obtain rfl : j = (woL r k i).length := by omega
        have e : pget (woL r k i ++ [r i]) (woL r k i).length = r i := by simp [pget, List.getD]
        rw [e, hl]
        unfold woP
        by_cases h2 : k < i
        · rw [if_pos h2, if_neg (by omega)]; congr 1; omega
        · rw [if_neg h2, if_pos (by omega)]
noncomputable def opw6 : Array Oper := regO 6 (code Try.f35)
noncomputable abbrev X35 (G : Base) : Cx := ⟨P, T, tabC [], G, none, Try.f35.ntmps⟩
theorem x35_ok {G : Base} : (X35 G).Ok := good0.ok _ _ _
def b35 (k i : Nat) : List (Nat × FE) := [(1, ⟨[], .si .i64 (k : Int)⟩), (2, ⟨[], .sp 1 0⟩), (4, ⟨[], .sp 2 0⟩), (5, ⟨[], .sp 3 0⟩), (6, ⟨[], .si .i64 (i : Int)⟩)]
def H35 (it ag : Int) (n : Nat) (r : Nat → Pp) (W : List Pp) : List (Nat × HB) :=
  [(4, .vec 49 5 W.length fun j => ppC (pget W j)), (3, .cells 24 [.si .i64 it, .si .i64 ag, .sl 4]), (2, .cells 24 [.si .i64 0, .si .i64 0, .sv (.slice none 0 0)]), (1, .cells 24 (paA 0 it ag)), (0, .ro 5 n fun i => ppC (r i))]
def arrw (l : List Bool) : Array Bool := ((List.range 11).map fun j => if j < 8 then l.getD j false else false).toArray
def ancw : Nat → List Nat
  | 1 => [0]
  | 3 => [2]
  | 5 => [3, 4]
  | 6 => [5]
  | 7 => [6]
  | _ => []
def exw (l : List Bool) : Bool := (List.range 8).all fun j => l.getD j false
theorem ancw_lt : ∀ i, ∀ j ∈ ancw i, j < i := by
  intro i j hj
  unfold ancw at hj
  split at hj <;> simp at hj <;> omega
theorem latw : (clL ancw 8).all (latX opw6 8 arrw (fun i => i) exw ancw) = true := by kernel_rfl
def slow (r : Nat → Pp) (i : Nat) : Nat → List (Nat × FE)
  | 0 => [(22, ⟨[], .sp 3 2⟩)]
  | 1 => [(23, ⟨[], .sl 4⟩)]
  | 2 => [(24, ⟨[], .sp 1 2⟩)]
  | 3 => [(25, ⟨[], .sl 0⟩)]
  | 4 => [(26, ⟨[], .si .i64 (i : Int)⟩)]
  | 5 => [(27, ⟨[], .se 0 (i : Int) 0⟩)]
  | 6 => [(28, ⟨[], .agg (ppC (r i))⟩)]
  | 7 => [(29, ⟨[], .sl 5⟩)]
  | _ => []
def Hw (it ag : Int) (n : Nat) (r : Nat → Pp) (W : List Pp) (i : Nat) (l : List Bool) : List (Nat × HB) := if l.getD 7 false = true then (5, .row 49 5 1 (ppC (r i))) :: H35 it ag n r W else H35 it ag n r W
def nw (l : List Bool) : Nat := if l.getD 7 false = true then 6 else 5
theorem regw {G : Base} (hG : ∀ j, 1 ≤ j → G.ρ j = none) {it ag : Int} {n k i : Nat} {r : Nat → Pp} {W : List Pp} {K : Ex → St → Prop} (hi : i < n) (hW : W.length ≤ 900000)
    (h : K .normal ⟨b35 k i, [], H35 it ag n r (W ++ [r i]), 5, []⟩) :
    AnyS (X35 G) opw6 11 (Array.replicate 11 false) ⟨b35 k i, [], H35 it ag n r W, 5, []⟩ K := by
  refine any_latD (D := []) x35_ok 8 arrw (fun i => i) exw (slow r i) (b35 k i) (Hw it ag n r W i) nw ancw 3 (fun i hi j hj => by have := ancw_lt i j hj; omega) (latX_of ancw_lt latw) ?_ ?_ ?_ (List.replicate 8 false) rfl (by decide)
  · repeat' (first | exact trivial | exact ⟨rfl, rfl⟩ | refine And.intro ?_ ?_)
  · intro j hj l hl hf ha hcl
    rcases (show j = 7 ∨ j = 0 ∨ j = 1 ∨ j = 2 ∨ j = 3 ∨ j = 4 ∨ j = 5 ∨ j = 6 by omega) with rfl | rfl | rfl | rfl | rfl | rfl | rfl | rfl
    · refine ⟨_, rfl, rfl, fun tail Q Kn hC hK => ?_⟩
      have h7 := getF (show 7 < l.length by omega) hf
      simp only [Hw, nw, getS (l := l) (i := 7) (by omega), h7, if_true, if_false, Bool.false_eq_true] at hK ⊢
      exact hK
    all_goals
      refine ⟨_, rfl, rfl, fun tail Q Kn hC hK => ?_⟩
      simp only [Hw, nw, getN (l := l) (show 0 ≠ 7 by decide), getN (l := l) (show 1 ≠ 7 by decide), getN (l := l) (show 2 ≠ 7 by decide), getN (l := l) (show 3 ≠ 7 by decide), getN (l := l) (show 4 ≠ 7 by decide), getN (l := l) (show 5 ≠ 7 by decide), getN (l := l) (show 6 ≠ 7 by decide)] at hK ⊢
      cases h7 : l.getD 7 false <;> simp only [h7, if_true, if_false, Bool.false_eq_true] at hK ⊢ <;> first | exact hK | exact Chk.mk (show (0 : Int) ≤ (i : Int) ∧ (i : Int) < (n : Int) from ⟨by omega, by omega⟩) hK | exact fb_again x35_ok hC rfl hK
  · intro l hl he
    match l, hl, he with
    | [a0, a1, a2, a3, a4, a5, a6, a7], _, he =>
      have he : (a0 && (a1 && (a2 && (a3 && (a4 && (a5 && (a6 && (a7 && true)))))))) = true := he
      simp only [Bool.and_eq_true] at he
      obtain ⟨rfl, rfl, rfl, rfl, rfl, rfl, rfl, rfl, -⟩ := he
      refine any_step [8] x35_ok (by kernel_rfl) (by decide) ⟨?_, trivial⟩
      refine fb_append (Te := 0) 4 5 W.length 1 (fun j => ppC (pget W j)) _ (fun j => ppC (pget (W ++ [r i]) j)) x35_ok cont_any rfl rfl rfl rfl rfl rfl rfl rfl rfl rfl rfl rfl (by decide) (by decide) rfl rfl rfl rfl ?_ ?_ ?_
      · omega
      · exact fun j hj => pget_snoc (x := r i) (get2 := fun q => takeL 5 (dropL (q * 5) (ppC (r i)))) rfl hj
      · refine any_step [9] x35_ok (by kernel_rfl) (by decide) ⟨?_, trivial⟩
        refine any_step [10] x35_ok (by kernel_rfl) (by decide) ⟨?_, trivial⟩
        refine any_weaken 1 (fun j => match j with | 4 => 6 | j => j) hG ?_ (any_done (by kernel_rfl) h)
        refine ⟨?_, ?_, rfl, rfl, rfl, rfl, trivial⟩
        · repeat' (first | exact trivial | exact rfl | refine And.intro ?_ ?_)
        · repeat' (first | exact trivial | exact rfl | exact snoc_len | exact List.Perm.refl _ | (intro i hi; exact ⟨rfl, rfl⟩) | refine And.intro ?_ ?_)
end Go.X.Ps
end

section
set_option linter.unusedVariables false
set_option linter.unusedSimpArgs false
set_option linter.unusedSectionVars false
/- Pass: the document's certificates without one, and their contract. -/
set_option linter.unusedVariables false
set_option linter.unusedSimpArgs false
set_option maxRecDepth 10000
set_option maxHeartbeats 4000000
namespace Go.X.Ps
open Go Go.Proofs Go.X

def c35 : Ct := fun fr args H => match args with
  | [.agg l, .si .i64 q] => passK H l fun i1 it ag n get => some ⟨some (Pps n get ∧ n ≤ 800000 ∧ 0 ≤ q ∧ q < (n : Int)), none, .agg [.si .i64 it, .si .i64 ag, .sl fr], [(fr, .vec 49 5 (n - 1) fun j => ppC (woP (ppAt get) q.toNat j))]⟩
  | _ => none
theorem c35_mono : CtMono c35 := by
  intro fr args H H' out hH h
  unfold c35 at h ⊢
  split at h
  · exact passK_mono hH h
  · cases h
theorem woL_last {r : Nat → Pp} {k n : Nat} (h : k < n) : (woL r k n).length = n - 1 := by rw [woL_len, if_pos h]
theorem k35 {l : List (Nat × Ct)} (g0 : Good P T l) : COk P 35 c35 := by
  refine cok (C := tabC _) good0.ok Try.func35 (c := code Try.f35) rfl fun fr args H out h hp => ?_
  unfold c35 at h
  split at h
  case h_2 => cases h
  rename_i l q
  obtain ⟨i1, it, ag, n, get, rfl, e1, h⟩ := passK_some h
  cases h
  obtain ⟨hs, hn, hq0, hqn⟩ : Pps n get ∧ n ≤ 800000 ∧ 0 ≤ q ∧ q < (n : Int) := hp
  obtain ⟨k, rfl⟩ : ∃ k : Nat, q = (k : Int) := ⟨q.toNat, by omega⟩
  have hk : k < n := by omega
  refine ⟨[(i1, .ro 5 n fun i => ppC (ppAt get i))], [.agg (paA 0 it ag), .si .i64 (k : Int)], [(0, .ro 5 n fun i => ppC (ppAt get i))], 1, [4], rfl, rfl, Nat.le_of_ble_eq_true rfl, pp_hand e1 hs, rfl, rfl, fun G hG => ?_⟩
  generalize ppAt get = L
  refine nil_at 3 24 49 5 (fun _ => []) [.si .i64 it, .si .i64 ag] [] rfl ?_
  refine loop_okR (good0.ok _ _ _) 1 (fun z : {i : Nat // i ≤ n} => ⟨b35 k z.1, [], H35 it ag n L (woL L k z.1), 5, []⟩)
    (fun z => n - z.1) hG ⟨0, Nat.zero_le _⟩ (fun j => j) ?_ ?_
  · refine ⟨?_, ?_, rfl, rfl, rfl, rfl, trivial⟩ <;> repeat' (first | exact trivial | exact rfl | exact List.Perm.refl _ | (intro i hi; exact absurd hi (Nat.not_lt_zero _)) | (intro i hi; exact ⟨rfl, rfl⟩) | refine And.intro ?_ ?_)
  rintro ⟨i, hi⟩
  refine Br.mk (fun h => ?_) (fun h => ?_)
  · have h : (i : Int) < (n : Int) := of_decide_eq_true h
    have hin : i < n := by omega
    have hl := woL_len L k i
    refine Br.mk (fun h2 => ?_) (fun h2 => ?_)
    · have h2 : (!decide ((i : Int) = (k : Int))) = true := h2
      have hne : ¬ i = k := by simp at h2; omega
      refine (show SemC _ _ _ _ from ?_)
      refine any_region fol ?_
      refine any_weaken (st' := ⟨b35 k i, [], H35 it ag n L (woL L k i), 5, []⟩) 1 (fun j => j) hG (by
        refine ⟨?_, ?_, rfl, rfl, rfl, rfl, trivial⟩
        · repeat' (first | exact trivial | exact rfl | refine And.intro ?_ ?_)
        · repeat' (first | exact trivial | exact rfl | exact List.Perm.refl _ | (intro i hi; exact ⟨rfl, rfl⟩) | refine And.intro ?_ ?_)) ?_
      refine regw hG hin (by split at hl <;> omega) ?_
      refine Chk.mk (show InK .i64 ((i : Int) + 1) from ⟨by omega, by omega⟩) ⟨⟨i + 1, by omega⟩, (fun j => j), ?_, by show n - (i + 1) < n - i; omega⟩
      have e : woL L k (i + 1) = woL L k i ++ [L i] := by rw [woL, if_neg hne]
      show WeakR _ _ _ _
      simp only [e]
      refine ⟨?_, ?_, rfl, rfl, rfl, rfl, trivial⟩ <;> repeat' (first | exact trivial | exact rfl | exact List.Perm.refl _ | (intro i hi; exact ⟨rfl, rfl⟩) | refine And.intro ?_ ?_)
    · have h2 : (!decide ((i : Int) = (k : Int))) = false := h2
      have hne : i = k := by simp at h2; omega
      refine Chk.mk (show InK .i64 ((i : Int) + 1) from ⟨by omega, by omega⟩) ⟨⟨i + 1, by omega⟩, (fun j => j), ?_, by show n - (i + 1) < n - i; omega⟩
      have e : woL L k (i + 1) = woL L k i := by rw [woL, if_pos hne]
      show WeakR _ _ _ _
      simp only [e]
      refine ⟨?_, ?_, rfl, rfl, rfl, rfl, trivial⟩ <;> repeat' (first | exact trivial | exact rfl | exact List.Perm.refl _ | (intro i hi; exact ⟨rfl, rfl⟩) | refine And.intro ?_ ?_)
  · have h : ¬ (i : Int) < (n : Int) := of_decide_eq_false h
    obtain rfl : i = n := by omega
    have hlen := woL_last (r := L) hk
    have hget := woL_get L k i
    generalize woL L k i = W at hlen hget
    refine ⟨.inl rfl, ⟨?_, rfl, ?_, ?_, rfl, rfl⟩⟩ <;> repeat' (first | exact trivial | exact rfl | exact hlen | (intro i hi; exact ⟨rfl, rfl⟩) | (intro j hj; exact ⟨congrArg ppC (hget j hj), rfl⟩) | refine And.intro ?_ ?_)
theorem g35 {l : List (Nat × Ct)} (g : Good P T l) : Good P T ((35, c35) :: l) := g.add (k35 g) c35_mono (body_of Try.func35 (c := code Try.f35) rfl (by decide))
end Go.X.Ps
end

section
set_option linter.unusedVariables false
set_option linter.unusedSimpArgs false
set_option linter.unusedSectionVars false
/- Pass: laws of certificates without one (plain). -/
set_option linter.unusedVariables false
set_option linter.unusedSimpArgs false
set_option maxRecDepth 10000
set_option maxHeartbeats 4000000
namespace Go.X.Ps
open Go Go.Proofs Go.X

theorem erase_get {ps : List Pp} {k j : Nat} : pget (ps.eraseIdx k) j = if j < k then pget ps j else pget ps (j + 1) := by
  unfold pget
  rw [List.getD, List.getElem?_eraseIdx]
  split <;> rfl
theorem erase_len {ps : List Pp} {k : Nat} (h : k < ps.length) : (ps.eraseIdx k).length = ps.length - 1 := List.length_eraseIdx_of_lt h
theorem erase_pap {n k : Nat} {L : Nat → Pp} {ps : List Pp} (hps : papL n (fun i => ppC (L i)) = ps) (hk : k < n) : papL (n - 1) (fun j => ppC (woP L k j)) = ps.eraseIdx k := by
  subst hps
  have hl := erase_len (ps := papL n fun i => ppC (L i)) (k := k) (by rw [papL_len]; exact hk)
  rw [papL_len] at hl
  apply List.ext_getElem
  · rw [papL_len, hl]
  · intro i h1 h2
    have h1 : i < n - 1 := by rw [papL_len] at h1; exact h1
    have e1 : ∀ (l : List Pp) (h : i < l.length), l[i] = pget l i := fun l h => by simp [pget, List.getD, h]
    rw [e1, e1, pget_papL h1, erase_get]
    show woP L k i = _
    unfold woP
    split
    · rw [pget_papL (by omega)]; rfl
    · rw [pget_papL (by omega)]; rfl
theorem erase_valid {it ag : Int} {ps : List Pp} {k : Nat} (hv : validV it ag ps = true) (hk : k < ps.length) : validV it ag (ps.eraseIdx k) = true := by
  unfold validV at *
  simp only [Bool.and_eq_true, decide_eq_true_eq, Bool.not_eq_true', List.any_eq_false] at *
  refine ⟨hv.1, hv.2.1, by rw [erase_len hk]; omega, fun x hx => hv.2.2.2 x (List.mem_of_mem_eraseIdx hx)⟩
theorem valid_mem {it ag : Int} {ps : List Pp} {j : Nat} (hv : validV it ag ps = true) (hj : j < ps.length) : badV it (pget ps j) = false := by
  unfold validV at hv
  simp only [Bool.and_eq_true, decide_eq_true_eq, Bool.not_eq_true', List.any_eq_false] at hv
  have e : pget ps j = ps[j] := by simp [pget, List.getD, hj]
  have := hv.2.2.2 ps[j] (List.getElem_mem hj)
  rw [e]
  simpa using this
theorem wo_up {ag : Int} {ps : List Pp} {k : Nat} (hk : k < ps.length) {it y : Int} {c : Ch} (h : WalkC ag (ps.eraseIdx k).length (pget (ps.eraseIdx k)) it y c) : ∃ c', WalkC ag ps.length (pget ps) it y c' ∧ c'.w = c.w := by
  induction h with
  | nil => exact ⟨ch0, .nil, rfl⟩
  | @cons it y i c h0 h1 h2 h3 ih =>
    obtain ⟨c', hc, hw⟩ := ih
    rw [erase_len hk] at h1
    rw [erase_get] at h2 hc
    rw [erase_get]
    by_cases hi : i < k
    · rw [if_pos hi] at h2 hc ⊢
      refine ⟨_, WalkC.cons h0 (by omega) h2 hc, ?_⟩
      show addsV y (pget ps i) + c'.w = addsV y (pget ps i) + c.w
      rw [hw]
    · rw [if_neg hi] at h2 hc ⊢
      refine ⟨_, WalkC.cons h0 (by omega) h2 hc, ?_⟩
      show addsV y (pget ps (i + 1)) + c'.w = addsV y (pget ps (i + 1)) + c.w
      rw [hw]
theorem wo_down {ag : Int} {ps : List Pp} {k : Nat} (hk : k < ps.length) {it y : Int} {c : Ch} (h : WalkC ag ps.length (pget ps) it y c) : ¬ (k : Int) ∈ c.ps → ∃ c', WalkC ag (ps.eraseIdx k).length (pget (ps.eraseIdx k)) it y c' ∧ c'.w = c.w := by
  induction h with
  | nil => exact fun _ => ⟨ch0, .nil, rfl⟩
  | @cons it y i c h0 h1 h2 h3 ih =>
    intro hm
    have hm : ¬ (k : Int) ∈ (i : Int) :: c.ps := hm
    rw [List.mem_cons, not_or] at hm
    obtain ⟨c', hc, hw⟩ := ih hm.2
    have hne : i ≠ k := fun e => hm.1 (by rw [e])
    have key : ∀ j, j < (ps.eraseIdx k).length → pget (ps.eraseIdx k) j = pget ps i → ∃ c', WalkC ag (ps.eraseIdx k).length (pget (ps.eraseIdx k)) it y c' ∧ c'.w = (linkC y i (pget ps i) c).w := by
      intro j hj e
      refine ⟨_, WalkC.cons h0 hj (by rw [e]; exact h2) (by rw [e]; exact hc), ?_⟩
      rw [e]
      show addsV y (pget ps i) + c'.w = addsV y (pget ps i) + c.w
      rw [hw]
    have hl := erase_len hk
    by_cases hi : i < k
    · exact key i (by omega) (by rw [erase_get, if_pos hi])
    · exact key (i - 1) (by omega) (by rw [erase_get, if_neg (by omega), Nat.sub_add_cancel (by omega)])
theorem ppb_of {ag : Int} {ps : List Pp} (hr : PpOk ag ps.length (pget ps)) : PpB ag ps.length (pget ps) := fun j hj => ⟨(hr.2.2 j hj).1.1, (hr.2.2 j hj).2.2.1⟩
theorem bn_up {it ag : Int} {ps : List Pp} {k : Nat} (hv : validV it ag ps = true) (hk : k < ps.length) {q y : Int} {b : Ch} (h : bnL ag (ps.eraseIdx k) q y = some b) : ∃ a, bnL ag ps q y = some a ∧ a.w ≤ b.w := by
  obtain ⟨c', hc, hw⟩ := wo_up hk (bst_some h)
  obtain ⟨a, ha, _⟩ := bst_le (ppb_of (valid_ps hv)) hc
  exact ⟨a, ha, hw ▸ bst_w (ppb_of (valid_ps hv)) ha hc⟩
theorem bn_down {it ag : Int} {ps : List Pp} {k : Nat} (hv : validV it ag ps = true) (hk : k < ps.length) {q y : Int} {a : Ch} (h : bnL ag ps q y = some a) (hm : ¬ (k : Int) ∈ a.ps) : ∃ b, bnL ag (ps.eraseIdx k) q y = some b ∧ b.w ≤ a.w := by
  obtain ⟨c', hc, hw⟩ := wo_down hk (bst_some h) hm
  have hr := ppb_of (valid_ps (erase_valid hv hk))
  obtain ⟨b, hb, _⟩ := bst_le hr hc
  exact ⟨b, hb, hw ▸ bst_w hr hb hc⟩
/-- What is no item has no bound. -/
theorem bn_far {it ag : Int} {ps : List Pp} {q y : Int} (hv : validV it ag ps = true) (hit : 1 ≤ it ∧ it ≤ 6) (hq : it ≤ q) : bnL ag ps q y = none := by
  cases h : bnL ag ps q y with
  | none => rfl
  | some c =>
    exfalso
    have hw := bst_some h
    cases hw with
    | nil => omega
    | cons h0 h1 h2 h3 =>
      have := valid_mem hv h1
      unfold badV inB at this
      unfold holdsV at h2
      simp only [Bool.or_eq_false_iff, Bool.not_eq_false', Bool.and_eq_true, decide_eq_true_eq] at this h2
      omega
/-! ### Recall -/
theorem rec_in {it ag : Int} {ps : List Pp} {k : Nat} {y : Int} (hv : validV it ag ps = true) (hk : k < ps.length) (hy : 0 ≤ y ∧ y ≤ 20) :
    recE it ag ps (k : Int) y = 0 ∧ recW it ag ps (k : Int) y = ((setN (wrsB (bnN ag ps y) (bnN ag (ps.eraseIdx k) y)) 6 : Nat) : Int) ∧ recG it ag ps (k : Int) y = ((setN (gonB (bnN ag ps y) (bnN ag (ps.eraseIdx k) y)) 6 : Nat) : Int) := by
  have e : recE it ag ps (k : Int) y = 0 := by
    unfold recE
    rw [hv, inB_in hy, inB_in (show 0 ≤ (k : Int) ∧ (k : Int) ≤ (ps.length : Int) - 1 by omega)]
    rfl
  unfold recW recG
  rw [if_pos e, if_pos e]
  exact ⟨e, rfl, rfl⟩
theorem rec_b {it ag : Int} {ps : List Pp} {k : Nat} {y : Int} (hv : validV it ag ps = true) (hk : k < ps.length) (hy : 0 ≤ y ∧ y ≤ 20) : (0 ≤ recW it ag ps (k : Int) y ∧ recW it ag ps (k : Int) y ≤ 63) ∧ 0 ≤ recG it ag ps (k : Int) y ∧ recG it ag ps (k : Int) y ≤ 63 := by
  obtain ⟨_, e1, e2⟩ := rec_in hv hk hy
  rw [e1, e2]
  have h1 := setN_lt (wrsB (bnN ag ps y) (bnN ag (ps.eraseIdx k) y)) 6
  have h2 := setN_lt (gonB (bnN ag ps y) (bnN ag (ps.eraseIdx k) y)) 6
  omega
theorem recCond {it ag : Int} {ps : List Pp} {k : Nat} {y : Int} (hv : validV it ag ps = true) (hit : 1 ≤ it ∧ it ≤ 6) (hk : k < ps.length) (hy : 0 ≤ y ∧ y ≤ 20) :
    recE it ag ps (k : Int) y = 0 ∧ ¬ recW it ag ps (k : Int) y < 0 ∧ (recW it ag ps (k : Int) y).fdiv (2 ^ it.toNat) = 0 ∧ (recG it ag ps (k : Int) y).toNat - ((recG it ag ps (k : Int) y).toNat &&& (recW it ag ps (k : Int) y).toNat) = 0 := by
  obtain ⟨e0, e1, e2⟩ := rec_in hv hk hy
  refine ⟨e0, by rw [e1]; omega, ?_, ?_⟩
  · rw [e1, show (2 : Int) ^ it.toNat = ((2 ^ it.toNat : Nat) : Int) by push_cast; rfl, Int.fdiv_eq_ediv_of_nonneg _ (Int.natCast_nonneg _), ← Int.natCast_ediv, Int.natCast_eq_zero]
    refine Nat.div_eq_of_lt ?_
    refine Nat.lt_pow_two_of_testBit _ fun i hi => ?_
    rw [setN_bit]
    have : bnN ag ps y i = -1 := by
      unfold bnN
      rw [bn_far hv hit (by omega)]
      rfl
    unfold wrsB
    rw [this]
    simp
  · rw [e1, e2, Int.toNat_natCast, Int.toNat_natCast]
    have h1 := setN_lt (wrsB (bnN ag ps y) (bnN ag (ps.eraseIdx k) y)) 6
    have h2 := setN_lt (gonB (bnN ag ps y) (bnN ag (ps.eraseIdx k) y)) 6
    refine (sub_zero_iff (by omega) (by omega)).2 fun i hi => ?_
    rw [setN_bit] at hi ⊢
    unfold gonB at hi
    unfold wrsB
    simp only [Bool.and_eq_true, decide_eq_true_eq, Bool.not_eq_true', decide_eq_false_iff_not] at hi ⊢
    omega
/-- One item. -/
theorem recEach {it ag : Int} {ps : List Pp} {k i : Nat} {y : Int} (hv : validV it ag ps = true) (hit : 1 ≤ it ∧ it ≤ 6) (hk : k < ps.length) (hq : (i : Int) < it) (hy : 0 ≤ y ∧ y ≤ 20) :
    decide (((((recW it ag ps (k : Int) y).fdiv (2 ^ ((i : Nat) : Int).toNat)).toNat &&& (1 : Int).toNat : Nat) : Int) = 1) = (decide (boundE it ag ps (i : Int) y = 0) && (!decide (boundE it ag (ps.eraseIdx k) (i : Int) y = 0) || decide (boundR it ag ps (i : Int) y < boundR it ag (ps.eraseIdx k) (i : Int) y))) ∧
    decide (((((recG it ag ps (k : Int) y).fdiv (2 ^ ((i : Nat) : Int).toNat)).toNat &&& (1 : Int).toNat : Nat) : Int) = 1) = (decide (boundE it ag ps (i : Int) y = 0) && !decide (boundE it ag (ps.eraseIdx k) (i : Int) y = 0)) ∧
    (boundE it ag (ps.eraseIdx k) (i : Int) y = 0 → boundE it ag ps (i : Int) y = 0 ∧ boundR it ag ps (i : Int) y ≤ boundR it ag (ps.eraseIdx k) (i : Int) y) ∧
    ((decide (boundE it ag ps (i : Int) y = 0) && (!decide (boundE it ag (ps.eraseIdx k) (i : Int) y = 0) || decide (boundR it ag ps (i : Int) y < boundR it ag (ps.eraseIdx k) (i : Int) y))) = true → (chainL it ag ps (i : Int) y).any (fun v => decide (v = (k : Int))) = true) := by
  obtain ⟨e0, e1, e2⟩ := rec_in hv hk hy
  obtain ⟨b1, b2⟩ := rec_b hv hk hy
  have hqq : 0 ≤ (i : Int) ∧ (i : Int) < it := ⟨by omega, hq⟩
  have hv2 := erase_valid hv hk
  obtain ⟨E1, R1⟩ := bound_in (z := y) hv hit hqq hy
  obtain ⟨E2, R2⟩ := bound_in (z := y) hv2 hit hqq hy
  have hi6 : i < 6 := by omega
  rw [hasB_eq b1.1, hasB_eq b2.1, e1, e2, hasB_nat, hasB_nat, setN_bit, setN_bit, E1, R1, E2, R2, chain_in hv hit hqq hy]
  unfold wrsB gonB bnN
  have hup := fun b => bn_up (q := (i : Int)) (y := y) (b := b) hv hk
  have hdn := fun a => bn_down (q := (i : Int)) (y := y) (a := a) hv hk
  have w1 := wO_in (q := (i : Int)) (y := y) (valid_ps hv)
  have w2 := wO_in (q := (i : Int)) (y := y) (valid_ps hv2)
  cases ha : bnL ag ps (i : Int) y with
  | none =>
    cases hb : bnL ag (ps.eraseIdx k) (i : Int) y with
    | none => simp [bO, wO, psO]
    | some b =>
      obtain ⟨a, h, _⟩ := hup b hb
      rw [ha] at h; cases h
  | some a =>
    rw [ha] at w1
    have w1 : 0 ≤ a.w ∧ a.w ≤ 10000 := w1
    cases hb : bnL ag (ps.eraseIdx k) (i : Int) y with
    | none =>
      rw [show bO (some a) = a.w from rfl, show wO (some a) = a.w from rfl, show bO none = -1 from rfl, show wO none = 0 from rfl]
      refine ⟨by simp [hi6, w1.1]; omega, by simp [hi6, w1.1], fun h => by simp at h, fun _ => ?_⟩
      rw [List.any_eq_true]
      by_cases hm : (k : Int) ∈ a.ps
      · exact ⟨_, hm, by simp⟩
      · obtain ⟨b, h, _⟩ := hdn a ha hm
        rw [hb] at h; cases h
    | some b =>
      rw [hb] at w2
      have w2 : 0 ≤ b.w ∧ b.w ≤ 10000 := w2
      obtain ⟨a', h, hle⟩ := hup b hb
      rw [ha] at h; cases h
      rw [show bO (some a) = a.w from rfl, show wO (some a) = a.w from rfl, show bO (some b) = b.w from rfl, show wO (some b) = b.w from rfl]
      refine ⟨?_, ?_, fun _ => ⟨by simp, hle⟩, fun h => ?_⟩
      · by_cases hc : a.w < b.w
        · rw [decide_eq_true hc, decide_eq_false (show ¬ b.w = a.w by omega), decide_eq_true w1.1]; simp [hi6]
        · rw [decide_eq_false hc, decide_eq_true (show b.w = a.w by omega), decide_eq_true w1.1]; simp [hi6]
      · rw [decide_eq_true w1.1, decide_eq_false (show ¬ b.w < 0 by omega)]; simp
      · rw [List.any_eq_true]
        by_cases hm : (k : Int) ∈ a.ps
        · exact ⟨_, hm, by simp⟩
        · obtain ⟨b', h1, h2⟩ := hdn a ha hm
          rw [hb] at h1; cases h1
          rw [decide_eq_false (show ¬ a.w < b.w by omega)] at h
          simp at h
theorem chain_le {it ag : Int} {ps : List Pp} {q z : Int} (hv : validV it ag ps = true) (hit : 1 ≤ it ∧ it ≤ 6) (hq : 0 ≤ q ∧ q < it) (hz : 0 ≤ z ∧ z ≤ 20) : (chainL it ag ps q z).length ≤ 40 := by
  rw [chain_in hv hit hq hz]
  cases h : bnL ag ps q z with
  | none => exact Nat.zero_le _
  | some c =>
    have h1 := (bestW_some ps.length q z c h).2
    have h2 := (valid_ps hv).1
    show c.ps.length ≤ 40
    omega
theorem any_take {f : Int → Bool} {l : List Int} {j : Nat} (h : j < l.length) : ((l.take j).any f || f (l.getD j 0)) = (l.take (j + 1)).any f := by
  rw [List.take_succ_eq_append_getElem h, List.any_append]
  simp [List.getD, h]
end Go.X.Ps
end
