/- Renew of the document, and the walk of PassRenews. -/
import Derived.Test.YtknjpbmkpjcgjaaPB

section
set_option linter.unusedVariables false
set_option linter.unusedSimpArgs false
set_option linter.unusedSectionVars false
/- Pass: Renew of the document, and PassRenews (printed by gen-en7.py). -/
set_option linter.unusedVariables false
set_option linter.unusedSimpArgs false
set_option maxRecDepth 10000
set_option maxHeartbeats 4000000
namespace Go.X.Ps
open Go Go.Proofs Go.X
theorem lstN_congr {f g : Nat → Nat} : ∀ {n : Nat}, (∀ i, i < n → f i = g i) → lstN f n = lstN g n
  | 0, _ => rfl
  | n + 1, h => by
    have ih := lstN_congr (n := n) (fun i hi => h i (by omega))
    rw [lstN, lstN, ih, h n (by omega)]
    by_cases e : n = 0
    · subst e; rw [if_pos rfl, if_pos rfl]; exact h 0 (by omega)
    · rw [if_neg e, if_neg e]
theorem lstL_snoc (l : List Nat) (x : Nat) : lstL (l ++ [x]) = if l.length = 0 then x else if popN x < popN (lstL l) then x else lstL l := by
  have h1 : ∀ i, i < l.length → (l ++ [x]).getD i 0 = l.getD i 0 := fun i hi => by simp [List.getD, List.getElem?_append_left hi]
  have h2 : (l ++ [x]).getD l.length 0 = x := by simp [List.getD]
  unfold lstL
  rw [List.length_append, List.length_singleton, lstN, lstN_congr (f := fun i => (l ++ [x]).getD i 0) (g := fun i => l.getD i 0) h1]
  simp only [h2]
  by_cases e : l.length = 0
  · rw [if_pos e, if_pos e]
    have : l = [] := List.length_eq_zero_iff.1 e
    subst this
    rfl
  · rw [if_neg e, if_neg e]
/-- The best set so far; below 0: there is none. -/
def bstS (p : Nat → Bool) (s : Nat) : Int := if ((List.range s).filter p).length = 0 then -1 else ((lstL ((List.range s).filter p) : Nat) : Int)
theorem lstL_lt {p : Nat → Bool} {s : Nat} (h : 0 < ((List.range s).filter p).length) : lstL ((List.range s).filter p) < s := by
  have key : ∀ m, 0 < m → m ≤ ((List.range s).filter p).length → lstN (fun i => ((List.range s).filter p).getD i 0) m < s := by
    intro m
    induction m with
    | zero => intro h; omega
    | succ m ih =>
      intro _ hm
      rw [lstN]
      split
      · exact filt_lt (by omega)
      · split
        · exact filt_lt (by omega)
        · exact ih (by omega) (by omega)
  exact key _ h (Nat.le_refl _)
theorem bstS_in (p : Nat → Bool) (s : Nat) : -1 ≤ bstS p s ∧ bstS p s < (s : Int) ∨ bstS p s = -1 := by
  unfold bstS
  split
  · exact .inr rfl
  · rename_i h
    have := lstL_lt (p := p) (s := s) (by omega)
    exact .inl ⟨by omega, by omega⟩
theorem bstS_take {p : Nat → Bool} {s : Nat} (hs : s < 256) (h : ((decide (bstS p s < 0) || decide (((sizeN s : Nat) : Int) < ((sizeN (bstS p s).toNat : Nat) : Int))) && p s) = true) : bstS p (s + 1) = (s : Int) := by
  rw [Bool.and_eq_true] at h
  have hf := filt_next h.2
  have h1 := h.1
  unfold bstS at h1 ⊢
  rw [hf, if_neg (by simp), lstL_snoc]
  by_cases e : ((List.range s).filter p).length = 0
  · rw [if_pos e]
  · rw [if_neg e] at h1 ⊢
    have hlt := lstL_lt (p := p) (s := s) (by omega)
    rw [Int.toNat_natCast, size_all s hs, size_all _ (by omega)] at h1
    rw [if_pos (by simp at h1; omega)]
theorem bstS_keep {p : Nat → Bool} {s : Nat} (hs : s < 256) (h : ((decide (bstS p s < 0) || decide (((sizeN s : Nat) : Int) < ((sizeN (bstS p s).toNat : Nat) : Int))) && p s) = false) : bstS p (s + 1) = bstS p s := by
  cases hp : p s with
  | false =>
    unfold bstS
    rw [filt_skip hp]
  | true =>
    rw [hp, Bool.and_true] at h
    have hf := filt_next hp
    unfold bstS at h ⊢
    rw [hf, if_neg (by simp), lstL_snoc]
    by_cases e : ((List.range s).filter p).length = 0
    · rw [if_pos e] at h
      simp at h
    · rw [if_neg e] at h ⊢
      have hlt := lstL_lt (p := p) (s := s) (by omega)
      rw [Int.toNat_natCast, size_all s hs, size_all _ (by omega)] at h
      rw [if_neg e, if_neg (by simp at h; omega)]
theorem ren_err {it ag : Int} {ps : List Pp} {y lim : Int} (h : ¬ errO (validV it ag ps) (inB y 0 20 && inB lim 0 2000) = 0) : renR it ag ps y lim = 0 ∧ renE it ag ps y lim = errO (validV it ag ps) (inB y 0 20 && inB lim 0 2000) := by
  have e : renE it ag ps y lim = errO (validV it ag ps) (inB y 0 20 && inB lim 0 2000) := by unfold renE renE0; rw [if_neg h]
  refine ⟨?_, e⟩
  unfold renR
  rw [e, if_neg h]
theorem ren_val {it ag : Int} {n : Nat} {L : Nat → Pp} {y lim : Int} (h : errO (validV it ag (papL n fun i => ppC (L i))) (inB y 0 20 && inB lim 0 2000) = 0) {p : Nat → Bool} (hp : p = fun S : Nat => enoB it ag n L (S : Int) y lim) :
    (bstS p (2 ^ n) < 0 → renR it ag (papL n fun i => ppC (L i)) y lim = 0 ∧ renE it ag (papL n fun i => ppC (L i)) y lim = 4) ∧ (¬ bstS p (2 ^ n) < 0 → renR it ag (papL n fun i => ppC (L i)) y lim = bstS p (2 ^ n) ∧ renE it ag (papL n fun i => ppC (L i)) y lim = 0) := by
  have e0 : renE0 it ag (papL n fun i => ppC (L i)) y lim = 0 := h
  have eL : renL it ag (papL n fun i => ppC (L i)) y lim = (List.range (2 ^ n)).filter p := by
    unfold renL renS
    rw [enoP_papL, papL_len, hp]
    rfl
  unfold bstS
  by_cases e : ((List.range (2 ^ n)).filter p).length = 0
  · rw [if_pos e]
    have eE : renE it ag (papL n fun i => ppC (L i)) y lim = 4 := by unfold renE; rw [if_pos e0, eL, if_neg (by omega)]
    refine ⟨fun _ => ⟨?_, eE⟩, fun h => absurd (by decide) h⟩
    unfold renR
    rw [eE]
    rfl
  · rw [if_neg e]
    have eE : renE it ag (papL n fun i => ppC (L i)) y lim = 0 := by unfold renE; rw [if_pos e0, eL, if_pos (by omega)]
    refine ⟨fun h => absurd h (by omega), fun _ => ⟨?_, eE⟩⟩
    unfold renR
    rw [eE, if_pos rfl, eL]

def c30 : Ct := fun fr args H => match args with
  | [.agg l, .si .i64 y, .si .i64 lim] => passK H l fun i1 it ag n get => some ⟨some (Pps n get ∧ n ≤ 1000000 ∧ (validV it ag (papL n get) = true → n ≤ 5)), none, .tup [.si .i64 (renR it ag (papL n get) y lim), .si .i64 (renE it ag (papL n get) y lim)], []⟩
  | _ => none
theorem c30_mono : CtMono c30 := by
  intro fr args H H' out hH h
  unfold c30 at h ⊢
  split at h
  · exact passK_mono hH h
  · cases h
theorem k30 {l : List (Nat × Ct)} (g0 : Good P T l) : COk P 30 c30 := by
  have g := g38 (g48 (g50 (g55 (g57 (g71 good0)))))
  refine cok (C := tabC _) g.ok Try.func30 (c := code Try.f30) rfl fun fr args H out h hp => ?_
  unfold c30 at h
  split at h
  case h_2 => cases h
  rename_i l y lim
  obtain ⟨i1, it, ag, n, get, rfl, e1, h⟩ := passK_some h
  cases h
  obtain ⟨hs, hn, h5⟩ : Pps n get ∧ n ≤ 1000000 ∧ (validV it ag (papL n get) = true → n ≤ 5) := hp
  refine ⟨[(i1, .ro 5 n fun i => ppC (ppAt get i))], [.agg (paA 0 it ag), .si .i64 y, .si .i64 lim], [(0, .ro 5 n fun i => ppC (ppAt get i))], 1, [], rfl, rfl, Nat.le_of_ble_eq_true rfl, pp_hand e1 hs, rfl, rfl, fun G hG => ?_⟩
  have h5 : validV it ag (papL n (fun i => ppC (ppAt get i))) = true → n ≤ 5 := h5
  rw [show papL n get = papL n (fun i => ppC (ppAt get i)) from rfl]
  generalize ppAt get = L at h5 ⊢
  refine drawn_ok (g.ok _ _ _) fol [0,0,2,6,14,30,62,127,255] [] 9 (by kernel_rfl) ?_
  refine Chk.mk ⟨pps_i _ _, hn⟩ ?_
  refine Br.mk (fun h => ?_) (fun h => ?_)
  · have h : (!decide (errO (validV it ag (papL n fun i => ppC (L i))) (inB y 0 20 && inB lim 0 2000) = 0)) = true := h
    have h : ¬ (errO (validV it ag (papL n fun i => ppC (L i))) (inB y 0 20 && inB lim 0 2000) = 0) := by simpa using h
    obtain ⟨x1, x2⟩ := ren_err h
    exact ⟨.inl rfl, end_noid ⟨⟨rfl, x1.symm⟩, ⟨rfl, x2.symm⟩, trivial⟩ rfl rfl (by repeat' (first | exact trivial | exact rfl | (intro i hi; exact ⟨rfl, rfl⟩) | refine And.intro ?_ ?_))⟩
  have h : (!decide (errO (validV it ag (papL n fun i => ppC (L i))) (inB y 0 20 && inB lim 0 2000) = 0)) = false := h
  have h : (errO (validV it ag (papL n fun i => ppC (L i))) (inB y 0 20 && inB lim 0 2000) = 0) := by simpa using h
  obtain ⟨hv, hI⟩ := errO_ok h
  rw [Bool.and_eq_true] at hI
  have hy := inB_ok hI.1
  have hn5 := h5 hv
  obtain ⟨p, hp⟩ : ∃ p : Nat → Bool, p = fun S : Nat => enoB it ag n L (S : Int) y lim := ⟨_, rfl⟩
  obtain ⟨v1, v2⟩ := ren_val h hp
  have hps : ∀ s : Nat, enoB it ag n L (s : Int) y lim = p s := fun s => by rw [hp]
  clear hp
  have hpn : 2 ^ n ≤ 2 ^ 5 := Nat.pow_le_pow_right (by decide) hn5
  have hp2 : (2 : Int) ^ ((n : Nat) : Int).toNat = ((2 ^ n : Nat) : Int) := by rw [Int.toNat_natCast]; push_cast; rfl
  refine loop_okR (g.ok _ _ _) 1 (fun z : {s : Nat // s ≤ 2 ^ n} => ⟨[(1, ⟨[], .si .i64 y⟩), (2, ⟨[], .si .i64 lim⟩), (3, ⟨[], .sp 1 0⟩), (9, ⟨[], .si .i64 (bstS p z.1)⟩), (10, ⟨[], .si .i64 (z.1 : Int)⟩)], [], [(1, .cells 24 (paA 0 it ag)), (0, .ro 5 n fun i => ppC (L i))], 2, []⟩) (fun z => 2 ^ n - z.1) hG ⟨0, Nat.zero_le _⟩ (fun j => j) ?_ ?_
  · refine ⟨?_, ?_, rfl, rfl, rfl, rfl, trivial⟩ <;> repeat' (first | exact trivial | exact rfl | exact List.Perm.refl _ | (intro i hi; exact ⟨rfl, rfl⟩) | refine And.intro ?_ ?_)
  rintro ⟨s, hs2⟩
  have hs2 : s ≤ 2 ^ n := hs2
  have hbi := bstS_in p s
  refine Chk.mk (show ((n : Nat) : Int) ≤ 62 by omega) ?_
  refine Br.mk (fun h2 => ?_) (fun h2 => ?_)
  · have h2 : ((s : Nat) : Int) < (2 : Int) ^ ((n : Nat) : Int).toNat := of_decide_eq_true h2
    rw [hp2] at h2
    refine Chk.mk (under_of (show ((s : Nat) : Int) < 4611686018427387904 by omega)) (Chk.mk (under_of (show bstS p s < 4611686018427387904 by omega)) (Chk.mk (under_of ⟨pps_i _ _, hv, hn5, ⟨(show (0 : Int) ≤ (s : Int) by omega), (show (s : Int) ≤ 1000000 by omega)⟩, hy⟩) ?_))
    refine Br.mk (fun h3 => ?_) (fun h3 => ?_)
    · have h3 : ((decide (bstS p s < 0) || decide (((sizeN ((s : Nat) : Int).toNat : Nat) : Int) < ((sizeN (bstS p s).toNat : Nat) : Int))) && enoB it ag n L (s : Int) y lim) = true := h3
      rw [Int.toNat_natCast, hps] at h3
      have hb2 := (bstS_take (by omega) h3).symm
      refine Chk.mk (show InK .i64 ((s : Int) + 1) from ⟨by omega, by omega⟩) ⟨⟨s + 1, by omega⟩, (fun j => j), ?_, by show 2 ^ n - (s + 1) < 2 ^ n - s; omega⟩
      refine ⟨?_, ?_, rfl, rfl, rfl, rfl, trivial⟩ <;> repeat' (first | exact trivial | exact rfl | exact hb2 | exact List.Perm.refl _ | (intro i hi; exact ⟨rfl, rfl⟩) | refine And.intro ?_ ?_)
    · have h3 : ((decide (bstS p s < 0) || decide (((sizeN ((s : Nat) : Int).toNat : Nat) : Int) < ((sizeN (bstS p s).toNat : Nat) : Int))) && enoB it ag n L (s : Int) y lim) = false := h3
      rw [Int.toNat_natCast, hps] at h3
      have hb2 := congrArg (fun x : Int => x) (bstS_keep (by omega) h3).symm
      refine Chk.mk (show InK .i64 ((s : Int) + 1) from ⟨by omega, by omega⟩) ⟨⟨s + 1, by omega⟩, (fun j => j), ?_, by show 2 ^ n - (s + 1) < 2 ^ n - s; omega⟩
      refine ⟨?_, ?_, rfl, rfl, rfl, rfl, trivial⟩ <;> repeat' (first | exact trivial | exact rfl | exact hb2 | exact List.Perm.refl _ | (intro i hi; exact ⟨rfl, rfl⟩) | refine And.intro ?_ ?_)
  · have h2 : ¬ ((s : Nat) : Int) < (2 : Int) ^ ((n : Nat) : Int).toNat := of_decide_eq_false h2
    rw [hp2] at h2
    obtain rfl : s = 2 ^ n := by omega
    refine Br.mk (fun h3 => ?_) (fun h3 => ?_)
    · have h3 : bstS p (2 ^ n) < 0 := of_decide_eq_true h3
      obtain ⟨x1, x2⟩ := v1 h3
      exact ⟨.inl rfl, end_noid ⟨⟨rfl, x1.symm⟩, ⟨rfl, x2.symm⟩, trivial⟩ rfl rfl (by repeat' (first | exact trivial | exact rfl | (intro i hi; exact ⟨rfl, rfl⟩) | refine And.intro ?_ ?_))⟩
    · have h3 : ¬ bstS p (2 ^ n) < 0 := of_decide_eq_false h3
      obtain ⟨x1, x2⟩ := v2 h3
      exact ⟨.inl rfl, end_noid ⟨⟨rfl, x1.symm⟩, ⟨rfl, x2.symm⟩, trivial⟩ rfl rfl (by repeat' (first | exact trivial | exact rfl | (intro i hi; exact ⟨rfl, rfl⟩) | refine And.intro ?_ ?_))⟩
theorem g30 {l : List (Nat × Ct)} (g : Good P T l) : Good P T ((30, c30) :: l) := g.add (k30 g) c30_mono (body_of Try.func30 (c := code Try.f30) rfl (by decide))

theorem len40 {n : Nat} (h : decide ((40 : Int) < (n : Int)) = false) : n ≤ 1000000 := by
  have := of_decide_eq_false h
  omega
def c5 : Ct := fun fr args H => match args with
  | [.agg l, .si .i64 y, .si .i64 lim] => passK H l fun i1 it ag n get => some ⟨some (Pps n get), none, .sb true, []⟩
  | _ => none
theorem k5 {l : List (Nat × Ct)} (g0 : Good P T l) : COk P 5 c5 := by
  have g := g13 (g14 (g28 (g29 (g30 good0))))
  refine cok (C := tabC _) g.ok Try.func5 (c := code Try.f5) rfl fun fr args H out h hp => ?_
  unfold c5 at h
  split at h
  case h_2 => cases h
  rename_i l y lim
  obtain ⟨i1, it, ag, n, get, rfl, e1, h⟩ := passK_some h
  cases h
  have hs : Pps n get := hp
  refine ⟨[(i1, .ro 5 n fun i => ppC (ppAt get i))], [.agg (paA 0 it ag), .si .i64 y, .si .i64 lim], [(0, .ro 5 n fun i => ppC (ppAt get i))], 1, [], rfl, rfl, Nat.le_of_ble_eq_true rfl, pp_hand e1 hs, rfl, rfl, fun G hG => ?_⟩
  generalize ppAt get = L
  refine Chk.mk (pps_i _ _) ?_
  refine Chk.mk (fun _ => fun hg => ⟨pps_i _ _, len40 hg⟩) ?_
  refine Br.mk (fun h => ?_) (fun h => ?_)
  · exact ⟨.inl rfl, end_noid rfl rfl rfl (by repeat' (first | exact trivial | exact rfl | (intro i hi; exact ⟨rfl, rfl⟩) | refine And.intro ?_ ?_))⟩
  have h : (decide ((40 : Int) < (n : Int)) || (decide ((5 : Int) < (n : Int)) && validV it ag (papL n fun i => ppC (L i)))) = false := h
  rw [Bool.or_eq_false_iff] at h
  have hn40 : n ≤ 40 := by have := of_decide_eq_false h.1; omega
  have hn : n ≤ 1000000 := by omega
  refine Chk.mk ⟨pps_i _ _, hn⟩ (Chk.mk ⟨pps_i _ _, hn, fun hv => ?_⟩ ?_)
  · have h2 := h.2
    have hv : validV it ag (papL n fun i => ppC (L i)) = true := hv
    rw [hv, Bool.and_true] at h2
    have := of_decide_eq_false h2
    omega
  exact ⟨.inl rfl, end_noid (show SVeq _ _ from by simp only [decide_true, Bool.and_true]; rfl) rfl rfl (by repeat' (first | exact trivial | exact rfl | (intro i hi; exact ⟨rfl, rfl⟩) | refine And.intro ?_ ?_))⟩

end Go.X.Ps
end
