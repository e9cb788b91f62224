/- Contracts of functions of the package pass: Renew. -/
import Derived.Test.YtknjpbmkpjcgjaaOE

section
set_option linter.unusedVariables false
set_option linter.unusedSimpArgs false
set_option linter.unusedSectionVars false
/- Pass: Recall. -/
set_option linter.unusedVariables false
set_option linter.unusedSimpArgs false
set_option maxRecDepth 10000
set_option maxHeartbeats 4000000
namespace Go.X.Ps
open Go Go.Proofs Go.X

def recE (it ag : Int) (ps : List Pp) (q y : Int) : Int := errO (validV it ag ps) (inB q 0 ((ps.length : Int) - 1) && inB y 0 20)
def wrsB (A B : Nat → Int) (i : Nat) : Bool := decide (0 ≤ A i) && !decide (B i = A i)
def gonB (A B : Nat → Int) (i : Nat) : Bool := decide (0 ≤ A i) && decide (B i < 0)
def recW (it ag : Int) (ps : List Pp) (q y : Int) : Int := if recE it ag ps q y = 0 then ((setN (wrsB (bnN ag ps y) (bnN ag (ps.eraseIdx q.toNat) y)) 6 : Nat) : Int) else 0
def recG (it ag : Int) (ps : List Pp) (q y : Int) : Int := if recE it ag ps q y = 0 then ((setN (gonB (bnN ag ps y) (bnN ag (ps.eraseIdx q.toNat) y)) 6 : Nat) : Int) else 0
def c26 : Ct := fun fr args H => match args with
  | [.agg l, .si .i64 q, .si .i64 y] => passK H l fun i1 it ag n get => some ⟨some (Pps n get ∧ n ≤ 1000000), none, .tup [.si .i64 (recW it ag (papL n get) q y), .si .i64 (recG it ag (papL n get) q y), .si .i64 (recE it ag (papL n get) q y)], []⟩
  | _ => none
theorem c26_mono : CtMono c26 := by
  intro fr args H H' out hH h
  unfold c26 at h ⊢
  split at h
  · exact passK_mono hH h
  · cases h
theorem wo_get {m k : Nat} {get : Nat → List SV} (hk : k ≤ m) {i : Nat} (hi : i < m) : pget ((papL (m + 1) get).eraseIdx k) i = woP (ppAt get) k i := by
  unfold pget
  rw [List.getD, List.getElem?_eraseIdx]
  unfold woP papL
  split
  · rw [List.getElem?_map, List.getElem?_range (by omega)]; rfl
  · rw [List.getElem?_map, List.getElem?_range (by omega)]; rfl
theorem wo_len {m k : Nat} {get : Nat → List SV} (hk : k ≤ m) : ((papL (m + 1) get).eraseIdx k).length = m := by
  rw [List.length_eraseIdx_of_lt (by rw [papL_len]; omega), papL_len]; omega
theorem bnN_wo {ag : Int} {m k : Nat} {get : Nat → List SV} (hk : k ≤ m) (y : Int) : bnN ag ((papL (m + 1) get).eraseIdx k) y = bnd ag m (woP (ppAt get) k) y := by
  funext i
  unfold bnN bnd bnL
  rw [wo_len hk, bst_congr (fun j hj => wo_get hk hj)]
theorem wo_ok {ag : Int} {m k : Nat} {r : Nat → Pp} (h : PpOk ag (m + 1) r) : PpOk ag m (woP r k) := by
  refine ⟨by have := h.1; omega, h.2.1, fun i hi => ?_⟩
  unfold woP
  split
  · exact h.2.2 i (by omega)
  · exact h.2.2 (i + 1) (by omega)
theorem k26 {l : List (Nat × Ct)} (g0 : Good P T l) : COk P 26 c26 := by
  have g := g60 (g45 (g43 (g63 good0)))
  refine cokD (C := tabC _) g.ok answer_ok Try.func26 (c := code Try.f26) rfl fun fr args H out h hp => ?_
  unfold c26 at h
  split at h
  case h_2 => cases h
  rename_i l q y
  obtain ⟨i1, it, ag, n, get, rfl, e1, h⟩ := passK_some h
  cases h
  obtain ⟨hs, hn⟩ : Pps n get ∧ n ≤ 1000000 := hp
  refine ⟨[(i1, .ro 5 n fun i => ppC (ppAt get i))], [.agg (paA 0 it ag), .si .i64 q, .si .i64 y], [(0, .ro 5 n fun i => ppC (ppAt get i))], 1, [], rfl, rfl, Nat.le_of_ble_eq_true rfl, pp_hand e1 hs, rfl, rfl, fun G hG => ?_⟩
  by_cases he : recE it ag (papL n get) q y = 0
  case neg =>
    rw [recW, recG, if_neg he, if_neg he]
    unfold recE at he ⊢
    rw [papL_len] at he ⊢
    unfold papL at he ⊢
    generalize ppAt get = L at he ⊢
    refine fb_defer (g.ok _ _ _) rfl cont_std rfl rfl rfl rfl ?_
    refine drawn_ok (g.ok _ _ _) fol [0,0,0,4,12,28,62,126,254,510,1022,2047,4095] [] 13 (by kernel_rfl) ?_
    obtain ⟨is, his⟩ : ∃ is : Bool, (inB q 0 ((n : Int) - 1) && inB y 0 20) = is := ⟨_, rfl⟩
    rw [his] at he ⊢
    refine Chk.mk (show InK .i64 ((n : Int) - 1) from ⟨by omega, by omega⟩) (Chk.mk ⟨pps_i _ _, hn⟩ ?_)
    refine Br.mk (fun h => ?_) (fun h => ?_)
    · refine ⟨.inl rfl, end_noid ⟨⟨rfl, rfl⟩, ⟨rfl, rfl⟩, ⟨rfl, ?_⟩, trivial⟩ rfl rfl (by repeat' (first | exact trivial | exact rfl | (intro i hi; exact ⟨rfl, rfl⟩) | refine And.intro ?_ ?_))⟩
      show errO (validV it ag ((List.range n).map L)) (inB q 0 ((n : Int) - 1) && inB y 0 20) = _
      rw [his]
    · exfalso
      have h : (!decide (errO (validV it ag ((List.range n).map L)) (inB q 0 ((n : Int) - 1) && inB y 0 20) = 0)) = false := h
      rw [his] at h
      exact he (by simpa using h)
  case pos =>
  have hz := errO_zero he
  rw [papL_len] at hz
  obtain ⟨hv, hiq⟩ := hz
  obtain ⟨m, k, rfl, rfl, hk⟩ : ∃ m k : Nat, n = m + 1 ∧ q = (k : Int) ∧ k ≤ m := by
    simp only [Bool.and_eq_true, inB, decide_eq_true_eq] at hiq
    exact ⟨n - 1, q.toNat, by omega, by omega, by omega⟩
  rw [recW, recG, if_pos he, if_pos he, Int.toNat_natCast, bnN_wo hk, bnN_papL]
  unfold recE at he ⊢
  rw [papL_len] at he ⊢
  unfold papL at he hv ⊢
  generalize ppAt get = L at he hv ⊢
  obtain ⟨hr, hit, hn8⟩ := valid_ok hv
  have hr' := wo_ok (k := k) hr
  refine fb_defer (g.ok _ _ _) rfl cont_std rfl rfl rfl rfl ?_
  refine drawn_ok (g.ok _ _ _) fol [0,0,0,4,12,28,62,126,254,510,1022,2047,4095] [] 13 (by kernel_rfl) ?_
  rw [he]
  refine Chk.mk (show InK .i64 (((m + 1 : Nat) : Int) - 1) from ⟨by omega, by omega⟩) (Chk.mk ⟨pps_i _ _, hn⟩ ?_)
  refine Br.mk (fun h => ?_) (fun h => ?_)
  · exfalso
    have h : (!decide (errO (validV it ag ((List.range (m + 1)).map L)) (inB (k : Int) 0 (((m + 1 : Nat) : Int) - 1) && inB y 0 20) = 0)) = true := h
    rw [he] at h
    cases h
  refine Chk.mk (show InK .i64 (((m + 1 : Nat) : Int) - 1) from ⟨by omega, by omega⟩) ?_
  refine fb_makeVec m (g.ok _ _ _) cont_std rfl rfl rfl rfl rfl rfl rfl rfl rfl rfl (by decide) (by omega) (by show some (SV.si .i64 (((m + 1 : Nat) : Int) - 1)) = some (SV.si .i64 (m : Int)); congr 2; omega) (by show some (SV.si .i64 (((m + 1 : Nat) : Int) - 1)) = some (SV.si .i64 (m : Int)); congr 2; omega) ?_
  refine (show SemC _ _ _ _ from ?_)
  refine any_region fol ?_
  refine any_weaken (st' := ⟨b26 k y, [], H26 it ag m L (fun _ => zP), 57, D17⟩) 1 (fun j => j) hG (by
    refine ⟨?_, ?_, rfl, rfl, rfl, rfl, ⟨rfl, ⟨⟨rfl, rfl⟩, trivial⟩, rfl, trivial⟩⟩
    · repeat' (first | exact trivial | exact rfl | refine And.intro ?_ ?_)
    · repeat' (first | exact trivial | exact rfl | exact List.Perm.refl _ | (intro i hi; exact ⟨rfl, rfl⟩) | refine And.intro ?_ ?_)) ?_
  refine reg25 hG hk ?_
  refine (show SemC _ _ _ _ from ?_)
  refine any_region fol ?_
  refine reg26 hG hk (by omega) ?_
  refine Chk.mk (pps_i _ _) ?_
  refine fb_roCell 56 57 108 49 5 m _ _ (ofC 61 58 it ag) (g.ok _ _ _) cont_std rfl rfl rfl rfl ?_
  refine fb_fam0 1 (g.ok _ _ _) cont_std rfl ?_
  refine fb_call (g.ok _ _ _) cont_std rfl rfl rfl rfl ⟨b54, ?_⟩
  refine callS_at [.sp 1 0, .si .i64 y] (ofH it ag m (woP L k) [] C0) 4 (fun j => match j with | 0 => 61 | 1 => 57 | 2 => 58 | _ => 62) (by repeat' (first | exact trivial | exact rfl | refine And.intro ?_ ?_)) rfl (by repeat' (first | exact trivial | exact rfl | exact List.Perm.refl _ | (intro i hi; exact ⟨rfl, rfl⟩) | (intro v m g h; exact h) | refine And.intro ?_ ?_)) rfl rfl ?_
  refine s54 hr' KtOk.nil fun C2 es2 hC2 hK2 => ?_
  refine ⟨rfl, (by repeat' (first | exact trivial | exact rfl | refine And.intro ?_ ?_)), (by repeat' (first | exact trivial | exact rfl | (intro i hi; exact rfl) | refine And.intro ?_ ?_)), ?_⟩
  refine fb_fam0 1 (g.ok _ _ _) cont_std rfl ?_
  refine fb_call (g.ok _ _ _) cont_std rfl rfl rfl rfl ⟨b54, ?_⟩
  refine callS_at [.sp 1 0, .si .i64 y] (ofH it ag (m + 1) L [] C0) 4 (fun j => match j with | 0 => 0 | 1 => 47 | 2 => 48 | _ => 64) (by repeat' (first | exact trivial | exact rfl | refine And.intro ?_ ?_)) rfl (by repeat' (first | exact trivial | exact rfl | exact List.Perm.refl _ | (intro i hi; exact ⟨rfl, rfl⟩) | (intro v m g h; exact h) | refine And.intro ?_ ?_)) rfl rfl ?_
  refine s54 hr KtOk.nil fun C3 es3 hC3 hK3 => ?_
  refine ⟨rfl, (by repeat' (first | exact trivial | exact rfl | refine And.intro ?_ ?_)), (by repeat' (first | exact trivial | exact rfl | (intro i hi; exact rfl) | refine And.intro ?_ ?_)), ?_⟩
  generalize bnd ag (m + 1) L y = A
  generalize bnd ag m (woP L k) y = B
  refine loop_okR (g.ok _ _ _) 1 (fun z : {i : Nat // i ≤ 6} => ⟨[(6, ⟨[], .si .i64 0⟩), (7, ⟨[], .si .i64 0⟩), (8, ⟨[], .sp 2 0⟩), (11, ⟨[], .sp 63 0⟩), (12, ⟨[], .si .i64 ((setN (wrsB A B) z.1 : Nat) : Int)⟩), (13, ⟨[], .si .i64 ((setN (gonB A B) z.1 : Nat) : Int)⟩), (58, ⟨[], .agg (bndL A)⟩), (59, ⟨[], .si .i64 z.1⟩)], [], [(63, .cells 83 (bndL B)), (2, .cells 27 [.si .i64 0]), (0, .ro 5 (m + 1) fun i => ppC (L i))], 64, D17⟩)
    (fun z => 6 - z.1) hG ⟨0, Nat.zero_le _⟩ (fun j => j) ?_ ?_
  · refine ⟨?_, ?_, rfl, rfl, rfl, rfl, ⟨rfl, ⟨⟨rfl, rfl⟩, trivial⟩, rfl, trivial⟩⟩ <;> repeat' (first | exact trivial | exact rfl | (intro i hi; exact ⟨rfl, rfl⟩) | refine And.intro ?_ ?_)
  rintro ⟨i, hi⟩
  rcases (show i = 6 ∨ i = 0 ∨ i = 1 ∨ i = 2 ∨ i = 3 ∨ i = 4 ∨ i = 5 by omega) with rfl | rfl | rfl | rfl | rfl | rfl | rfl
  · refine Br.mk (fun h => by cases h) (fun _ => ?_)
    refine ⟨.inl rfl, end_noid ⟨⟨rfl, rfl⟩, ⟨rfl, rfl⟩, ⟨rfl, rfl⟩, trivial⟩ rfl rfl (by repeat' (first | exact trivial | exact rfl | (intro i hi; exact ⟨rfl, rfl⟩) | refine And.intro ?_ ?_))⟩
  · refine Br.mk (fun _ => ?_) (fun h => by cases h)
    refine Chk.mk (show (0 : Int) ≤ ((0 : Nat) : Int) ∧ ((0 : Nat) : Int) < ((6 : Nat) : Int) from by decide) ?_
    refine Br.mk (fun h => ?_) (fun h => ?_)
    · have h : A 0 < 0 := of_decide_eq_true h
      have hw := no_bit (f := wrsB A B) (i := 0) (by unfold wrsB; simp; omega)
      have hg := no_bit (f := gonB A B) (i := 0) (by unfold gonB; simp; omega)
      refine (Chk.mk (show InK .i64 (((0 : Nat) : Int) + 1) from ⟨by decide, by decide⟩) ⟨⟨1, by decide⟩, (fun j => j), ?_, by dsimp only; decide⟩)
      refine ⟨?_, ?_, rfl, rfl, rfl, rfl, ⟨rfl, ⟨⟨rfl, rfl⟩, trivial⟩, rfl, trivial⟩⟩ <;> repeat' (first | exact trivial | exact rfl | exact hw | exact hg | (intro i hi; exact ⟨rfl, rfl⟩) | refine And.intro ?_ ?_)
    have h : ¬ A 0 < 0 := of_decide_eq_false h
    refine Chk.mk (show (0 : Int) ≤ ((0 : Nat) : Int) ∧ ((0 : Nat) : Int) < ((6 : Nat) : Int) from by decide) ?_
    refine Br.mk (fun h2 => ?_) (fun h2 => ?_)
    · have h2 : (!decide (B 0 = A 0)) = true := h2
      have hw := or_bit (f := wrsB A B) (i := 0) (by unfold wrsB; rw [h2]; simp; omega)
      refine Chk.mk (shl_in (i := 0) (by decide)) (Chk.mk (or_in (f := wrsB A B) (i := 0) (by decide)) ?_)
      refine Chk.mk (show (0 : Int) ≤ ((0 : Nat) : Int) ∧ ((0 : Nat) : Int) < ((6 : Nat) : Int) from by decide) ?_
      refine Br.mk (fun h3 => ?_) (fun h3 => ?_)
      · have h3 : B 0 < 0 := of_decide_eq_true h3
        have hg := or_bit (f := gonB A B) (i := 0) (by unfold gonB; simp; omega)
        refine Chk.mk (shl_in (i := 0) (by decide)) (Chk.mk (or_in (f := gonB A B) (i := 0) (by decide)) (Chk.mk (show InK .i64 (((0 : Nat) : Int) + 1) from ⟨by decide, by decide⟩) ⟨⟨1, by decide⟩, (fun j => j), ?_, by dsimp only; decide⟩))
        refine ⟨?_, ?_, rfl, rfl, rfl, rfl, ⟨rfl, ⟨⟨rfl, rfl⟩, trivial⟩, rfl, trivial⟩⟩ <;> repeat' (first | exact trivial | exact rfl | exact hw | exact hg | (intro i hi; exact ⟨rfl, rfl⟩) | refine And.intro ?_ ?_)
      · have h3 : ¬ B 0 < 0 := of_decide_eq_false h3
        have hg := no_bit (f := gonB A B) (i := 0) (by unfold gonB; simp; omega)
        refine (Chk.mk (show InK .i64 (((0 : Nat) : Int) + 1) from ⟨by decide, by decide⟩) ⟨⟨1, by decide⟩, (fun j => j), ?_, by dsimp only; decide⟩)
        refine ⟨?_, ?_, rfl, rfl, rfl, rfl, ⟨rfl, ⟨⟨rfl, rfl⟩, trivial⟩, rfl, trivial⟩⟩ <;> repeat' (first | exact trivial | exact rfl | exact hw | exact hg | (intro i hi; exact ⟨rfl, rfl⟩) | refine And.intro ?_ ?_)
    · have h2 : (!decide (B 0 = A 0)) = false := h2
      have hw := no_bit (f := wrsB A B) (i := 0) (by unfold wrsB; rw [h2]; simp)
      refine Chk.mk (show (0 : Int) ≤ ((0 : Nat) : Int) ∧ ((0 : Nat) : Int) < ((6 : Nat) : Int) from by decide) ?_
      refine Br.mk (fun h3 => ?_) (fun h3 => ?_)
      · exfalso
        have h3 : B 0 < 0 := of_decide_eq_true h3
        simp at h2
        omega
      · have h3 : ¬ B 0 < 0 := of_decide_eq_false h3
        have hg := no_bit (f := gonB A B) (i := 0) (by unfold gonB; simp; omega)
        refine (Chk.mk (show InK .i64 (((0 : Nat) : Int) + 1) from ⟨by decide, by decide⟩) ⟨⟨1, by decide⟩, (fun j => j), ?_, by dsimp only; decide⟩)
        refine ⟨?_, ?_, rfl, rfl, rfl, rfl, ⟨rfl, ⟨⟨rfl, rfl⟩, trivial⟩, rfl, trivial⟩⟩ <;> repeat' (first | exact trivial | exact rfl | exact hw | exact hg | (intro i hi; exact ⟨rfl, rfl⟩) | refine And.intro ?_ ?_)
  · refine Br.mk (fun _ => ?_) (fun h => by cases h)
    refine Chk.mk (show (0 : Int) ≤ ((1 : Nat) : Int) ∧ ((1 : Nat) : Int) < ((6 : Nat) : Int) from by decide) ?_
    refine Br.mk (fun h => ?_) (fun h => ?_)
    · have h : A 1 < 0 := of_decide_eq_true h
      have hw := no_bit (f := wrsB A B) (i := 1) (by unfold wrsB; simp; omega)
      have hg := no_bit (f := gonB A B) (i := 1) (by unfold gonB; simp; omega)
      refine (Chk.mk (show InK .i64 (((1 : Nat) : Int) + 1) from ⟨by decide, by decide⟩) ⟨⟨2, by decide⟩, (fun j => j), ?_, by dsimp only; decide⟩)
      refine ⟨?_, ?_, rfl, rfl, rfl, rfl, ⟨rfl, ⟨⟨rfl, rfl⟩, trivial⟩, rfl, trivial⟩⟩ <;> repeat' (first | exact trivial | exact rfl | exact hw | exact hg | (intro i hi; exact ⟨rfl, rfl⟩) | refine And.intro ?_ ?_)
    have h : ¬ A 1 < 0 := of_decide_eq_false h
    refine Chk.mk (show (0 : Int) ≤ ((1 : Nat) : Int) ∧ ((1 : Nat) : Int) < ((6 : Nat) : Int) from by decide) ?_
    refine Br.mk (fun h2 => ?_) (fun h2 => ?_)
    · have h2 : (!decide (B 1 = A 1)) = true := h2
      have hw := or_bit (f := wrsB A B) (i := 1) (by unfold wrsB; rw [h2]; simp; omega)
      refine Chk.mk (shl_in (i := 1) (by decide)) (Chk.mk (or_in (f := wrsB A B) (i := 1) (by decide)) ?_)
      refine Chk.mk (show (0 : Int) ≤ ((1 : Nat) : Int) ∧ ((1 : Nat) : Int) < ((6 : Nat) : Int) from by decide) ?_
      refine Br.mk (fun h3 => ?_) (fun h3 => ?_)
      · have h3 : B 1 < 0 := of_decide_eq_true h3
        have hg := or_bit (f := gonB A B) (i := 1) (by unfold gonB; simp; omega)
        refine Chk.mk (shl_in (i := 1) (by decide)) (Chk.mk (or_in (f := gonB A B) (i := 1) (by decide)) (Chk.mk (show InK .i64 (((1 : Nat) : Int) + 1) from ⟨by decide, by decide⟩) ⟨⟨2, by decide⟩, (fun j => j), ?_, by dsimp only; decide⟩))
        refine ⟨?_, ?_, rfl, rfl, rfl, rfl, ⟨rfl, ⟨⟨rfl, rfl⟩, trivial⟩, rfl, trivial⟩⟩ <;> repeat' (first | exact trivial | exact rfl | exact hw | exact hg | (intro i hi; exact ⟨rfl, rfl⟩) | refine And.intro ?_ ?_)
      · have h3 : ¬ B 1 < 0 := of_decide_eq_false h3
        have hg := no_bit (f := gonB A B) (i := 1) (by unfold gonB; simp; omega)
        refine (Chk.mk (show InK .i64 (((1 : Nat) : Int) + 1) from ⟨by decide, by decide⟩) ⟨⟨2, by decide⟩, (fun j => j), ?_, by dsimp only; decide⟩)
        refine ⟨?_, ?_, rfl, rfl, rfl, rfl, ⟨rfl, ⟨⟨rfl, rfl⟩, trivial⟩, rfl, trivial⟩⟩ <;> repeat' (first | exact trivial | exact rfl | exact hw | exact hg | (intro i hi; exact ⟨rfl, rfl⟩) | refine And.intro ?_ ?_)
    · have h2 : (!decide (B 1 = A 1)) = false := h2
      have hw := no_bit (f := wrsB A B) (i := 1) (by unfold wrsB; rw [h2]; simp)
      refine Chk.mk (show (0 : Int) ≤ ((1 : Nat) : Int) ∧ ((1 : Nat) : Int) < ((6 : Nat) : Int) from by decide) ?_
      refine Br.mk (fun h3 => ?_) (fun h3 => ?_)
      · exfalso
        have h3 : B 1 < 0 := of_decide_eq_true h3
        simp at h2
        omega
      · have h3 : ¬ B 1 < 0 := of_decide_eq_false h3
        have hg := no_bit (f := gonB A B) (i := 1) (by unfold gonB; simp; omega)
        refine (Chk.mk (show InK .i64 (((1 : Nat) : Int) + 1) from ⟨by decide, by decide⟩) ⟨⟨2, by decide⟩, (fun j => j), ?_, by dsimp only; decide⟩)
        refine ⟨?_, ?_, rfl, rfl, rfl, rfl, ⟨rfl, ⟨⟨rfl, rfl⟩, trivial⟩, rfl, trivial⟩⟩ <;> repeat' (first | exact trivial | exact rfl | exact hw | exact hg | (intro i hi; exact ⟨rfl, rfl⟩) | refine And.intro ?_ ?_)
  · refine Br.mk (fun _ => ?_) (fun h => by cases h)
    refine Chk.mk (show (0 : Int) ≤ ((2 : Nat) : Int) ∧ ((2 : Nat) : Int) < ((6 : Nat) : Int) from by decide) ?_
    refine Br.mk (fun h => ?_) (fun h => ?_)
    · have h : A 2 < 0 := of_decide_eq_true h
      have hw := no_bit (f := wrsB A B) (i := 2) (by unfold wrsB; simp; omega)
      have hg := no_bit (f := gonB A B) (i := 2) (by unfold gonB; simp; omega)
      refine (Chk.mk (show InK .i64 (((2 : Nat) : Int) + 1) from ⟨by decide, by decide⟩) ⟨⟨3, by decide⟩, (fun j => j), ?_, by dsimp only; decide⟩)
      refine ⟨?_, ?_, rfl, rfl, rfl, rfl, ⟨rfl, ⟨⟨rfl, rfl⟩, trivial⟩, rfl, trivial⟩⟩ <;> repeat' (first | exact trivial | exact rfl | exact hw | exact hg | (intro i hi; exact ⟨rfl, rfl⟩) | refine And.intro ?_ ?_)
    have h : ¬ A 2 < 0 := of_decide_eq_false h
    refine Chk.mk (show (0 : Int) ≤ ((2 : Nat) : Int) ∧ ((2 : Nat) : Int) < ((6 : Nat) : Int) from by decide) ?_
    refine Br.mk (fun h2 => ?_) (fun h2 => ?_)
    · have h2 : (!decide (B 2 = A 2)) = true := h2
      have hw := or_bit (f := wrsB A B) (i := 2) (by unfold wrsB; rw [h2]; simp; omega)
      refine Chk.mk (shl_in (i := 2) (by decide)) (Chk.mk (or_in (f := wrsB A B) (i := 2) (by decide)) ?_)
      refine Chk.mk (show (0 : Int) ≤ ((2 : Nat) : Int) ∧ ((2 : Nat) : Int) < ((6 : Nat) : Int) from by decide) ?_
      refine Br.mk (fun h3 => ?_) (fun h3 => ?_)
      · have h3 : B 2 < 0 := of_decide_eq_true h3
        have hg := or_bit (f := gonB A B) (i := 2) (by unfold gonB; simp; omega)
        refine Chk.mk (shl_in (i := 2) (by decide)) (Chk.mk (or_in (f := gonB A B) (i := 2) (by decide)) (Chk.mk (show InK .i64 (((2 : Nat) : Int) + 1) from ⟨by decide, by decide⟩) ⟨⟨3, by decide⟩, (fun j => j), ?_, by dsimp only; decide⟩))
        refine ⟨?_, ?_, rfl, rfl, rfl, rfl, ⟨rfl, ⟨⟨rfl, rfl⟩, trivial⟩, rfl, trivial⟩⟩ <;> repeat' (first | exact trivial | exact rfl | exact hw | exact hg | (intro i hi; exact ⟨rfl, rfl⟩) | refine And.intro ?_ ?_)
      · have h3 : ¬ B 2 < 0 := of_decide_eq_false h3
        have hg := no_bit (f := gonB A B) (i := 2) (by unfold gonB; simp; omega)
        refine (Chk.mk (show InK .i64 (((2 : Nat) : Int) + 1) from ⟨by decide, by decide⟩) ⟨⟨3, by decide⟩, (fun j => j), ?_, by dsimp only; decide⟩)
        refine ⟨?_, ?_, rfl, rfl, rfl, rfl, ⟨rfl, ⟨⟨rfl, rfl⟩, trivial⟩, rfl, trivial⟩⟩ <;> repeat' (first | exact trivial | exact rfl | exact hw | exact hg | (intro i hi; exact ⟨rfl, rfl⟩) | refine And.intro ?_ ?_)
    · have h2 : (!decide (B 2 = A 2)) = false := h2
      have hw := no_bit (f := wrsB A B) (i := 2) (by unfold wrsB; rw [h2]; simp)
      refine Chk.mk (show (0 : Int) ≤ ((2 : Nat) : Int) ∧ ((2 : Nat) : Int) < ((6 : Nat) : Int) from by decide) ?_
      refine Br.mk (fun h3 => ?_) (fun h3 => ?_)
      · exfalso
        have h3 : B 2 < 0 := of_decide_eq_true h3
        simp at h2
        omega
      · have h3 : ¬ B 2 < 0 := of_decide_eq_false h3
        have hg := no_bit (f := gonB A B) (i := 2) (by unfold gonB; simp; omega)
        refine (Chk.mk (show InK .i64 (((2 : Nat) : Int) + 1) from ⟨by decide, by decide⟩) ⟨⟨3, by decide⟩, (fun j => j), ?_, by dsimp only; decide⟩)
        refine ⟨?_, ?_, rfl, rfl, rfl, rfl, ⟨rfl, ⟨⟨rfl, rfl⟩, trivial⟩, rfl, trivial⟩⟩ <;> repeat' (first | exact trivial | exact rfl | exact hw | exact hg | (intro i hi; exact ⟨rfl, rfl⟩) | refine And.intro ?_ ?_)
  · refine Br.mk (fun _ => ?_) (fun h => by cases h)
    refine Chk.mk (show (0 : Int) ≤ ((3 : Nat) : Int) ∧ ((3 : Nat) : Int) < ((6 : Nat) : Int) from by decide) ?_
    refine Br.mk (fun h => ?_) (fun h => ?_)
    · have h : A 3 < 0 := of_decide_eq_true h
      have hw := no_bit (f := wrsB A B) (i := 3) (by unfold wrsB; simp; omega)
      have hg := no_bit (f := gonB A B) (i := 3) (by unfold gonB; simp; omega)
      refine (Chk.mk (show InK .i64 (((3 : Nat) : Int) + 1) from ⟨by decide, by decide⟩) ⟨⟨4, by decide⟩, (fun j => j), ?_, by dsimp only; decide⟩)
      refine ⟨?_, ?_, rfl, rfl, rfl, rfl, ⟨rfl, ⟨⟨rfl, rfl⟩, trivial⟩, rfl, trivial⟩⟩ <;> repeat' (first | exact trivial | exact rfl | exact hw | exact hg | (intro i hi; exact ⟨rfl, rfl⟩) | refine And.intro ?_ ?_)
    have h : ¬ A 3 < 0 := of_decide_eq_false h
    refine Chk.mk (show (0 : Int) ≤ ((3 : Nat) : Int) ∧ ((3 : Nat) : Int) < ((6 : Nat) : Int) from by decide) ?_
    refine Br.mk (fun h2 => ?_) (fun h2 => ?_)
    · have h2 : (!decide (B 3 = A 3)) = true := h2
      have hw := or_bit (f := wrsB A B) (i := 3) (by unfold wrsB; rw [h2]; simp; omega)
      refine Chk.mk (shl_in (i := 3) (by decide)) (Chk.mk (or_in (f := wrsB A B) (i := 3) (by decide)) ?_)
      refine Chk.mk (show (0 : Int) ≤ ((3 : Nat) : Int) ∧ ((3 : Nat) : Int) < ((6 : Nat) : Int) from by decide) ?_
      refine Br.mk (fun h3 => ?_) (fun h3 => ?_)
      · have h3 : B 3 < 0 := of_decide_eq_true h3
        have hg := or_bit (f := gonB A B) (i := 3) (by unfold gonB; simp; omega)
        refine Chk.mk (shl_in (i := 3) (by decide)) (Chk.mk (or_in (f := gonB A B) (i := 3) (by decide)) (Chk.mk (show InK .i64 (((3 : Nat) : Int) + 1) from ⟨by decide, by decide⟩) ⟨⟨4, by decide⟩, (fun j => j), ?_, by dsimp only; decide⟩))
        refine ⟨?_, ?_, rfl, rfl, rfl, rfl, ⟨rfl, ⟨⟨rfl, rfl⟩, trivial⟩, rfl, trivial⟩⟩ <;> repeat' (first | exact trivial | exact rfl | exact hw | exact hg | (intro i hi; exact ⟨rfl, rfl⟩) | refine And.intro ?_ ?_)
      · have h3 : ¬ B 3 < 0 := of_decide_eq_false h3
        have hg := no_bit (f := gonB A B) (i := 3) (by unfold gonB; simp; omega)
        refine (Chk.mk (show InK .i64 (((3 : Nat) : Int) + 1) from ⟨by decide, by decide⟩) ⟨⟨4, by decide⟩, (fun j => j), ?_, by dsimp only; decide⟩)
        refine ⟨?_, ?_, rfl, rfl, rfl, rfl, ⟨rfl, ⟨⟨rfl, rfl⟩, trivial⟩, rfl, trivial⟩⟩ <;> repeat' (first | exact trivial | exact rfl | exact hw | exact hg | (intro i hi; exact ⟨rfl, rfl⟩) | refine And.intro ?_ ?_)
    · have h2 : (!decide (B 3 = A 3)) = false := h2
      have hw := no_bit (f := wrsB A B) (i := 3) (by unfold wrsB; rw [h2]; simp)
      refine Chk.mk (show (0 : Int) ≤ ((3 : Nat) : Int) ∧ ((3 : Nat) : Int) < ((6 : Nat) : Int) from by decide) ?_
      refine Br.mk (fun h3 => ?_) (fun h3 => ?_)
      · exfalso
        have h3 : B 3 < 0 := of_decide_eq_true h3
        simp at h2
        omega
      · have h3 : ¬ B 3 < 0 := of_decide_eq_false h3
        have hg := no_bit (f := gonB A B) (i := 3) (by unfold gonB; simp; omega)
        refine (Chk.mk (show InK .i64 (((3 : Nat) : Int) + 1) from ⟨by decide, by decide⟩) ⟨⟨4, by decide⟩, (fun j => j), ?_, by dsimp only; decide⟩)
        refine ⟨?_, ?_, rfl, rfl, rfl, rfl, ⟨rfl, ⟨⟨rfl, rfl⟩, trivial⟩, rfl, trivial⟩⟩ <;> repeat' (first | exact trivial | exact rfl | exact hw | exact hg | (intro i hi; exact ⟨rfl, rfl⟩) | refine And.intro ?_ ?_)
  · refine Br.mk (fun _ => ?_) (fun h => by cases h)
    refine Chk.mk (show (0 : Int) ≤ ((4 : Nat) : Int) ∧ ((4 : Nat) : Int) < ((6 : Nat) : Int) from by decide) ?_
    refine Br.mk (fun h => ?_) (fun h => ?_)
    · have h : A 4 < 0 := of_decide_eq_true h
      have hw := no_bit (f := wrsB A B) (i := 4) (by unfold wrsB; simp; omega)
      have hg := no_bit (f := gonB A B) (i := 4) (by unfold gonB; simp; omega)
      refine (Chk.mk (show InK .i64 (((4 : Nat) : Int) + 1) from ⟨by decide, by decide⟩) ⟨⟨5, by decide⟩, (fun j => j), ?_, by dsimp only; decide⟩)
      refine ⟨?_, ?_, rfl, rfl, rfl, rfl, ⟨rfl, ⟨⟨rfl, rfl⟩, trivial⟩, rfl, trivial⟩⟩ <;> repeat' (first | exact trivial | exact rfl | exact hw | exact hg | (intro i hi; exact ⟨rfl, rfl⟩) | refine And.intro ?_ ?_)
    have h : ¬ A 4 < 0 := of_decide_eq_false h
    refine Chk.mk (show (0 : Int) ≤ ((4 : Nat) : Int) ∧ ((4 : Nat) : Int) < ((6 : Nat) : Int) from by decide) ?_
    refine Br.mk (fun h2 => ?_) (fun h2 => ?_)
    · have h2 : (!decide (B 4 = A 4)) = true := h2
      have hw := or_bit (f := wrsB A B) (i := 4) (by unfold wrsB; rw [h2]; simp; omega)
      refine Chk.mk (shl_in (i := 4) (by decide)) (Chk.mk (or_in (f := wrsB A B) (i := 4) (by decide)) ?_)
      refine Chk.mk (show (0 : Int) ≤ ((4 : Nat) : Int) ∧ ((4 : Nat) : Int) < ((6 : Nat) : Int) from by decide) ?_
      refine Br.mk (fun h3 => ?_) (fun h3 => ?_)
      · have h3 : B 4 < 0 := of_decide_eq_true h3
        have hg := or_bit (f := gonB A B) (i := 4) (by unfold gonB; simp; omega)
        refine Chk.mk (shl_in (i := 4) (by decide)) (Chk.mk (or_in (f := gonB A B) (i := 4) (by decide)) (Chk.mk (show InK .i64 (((4 : Nat) : Int) + 1) from ⟨by decide, by decide⟩) ⟨⟨5, by decide⟩, (fun j => j), ?_, by dsimp only; decide⟩))
        refine ⟨?_, ?_, rfl, rfl, rfl, rfl, ⟨rfl, ⟨⟨rfl, rfl⟩, trivial⟩, rfl, trivial⟩⟩ <;> repeat' (first | exact trivial | exact rfl | exact hw | exact hg | (intro i hi; exact ⟨rfl, rfl⟩) | refine And.intro ?_ ?_)
      · have h3 : ¬ B 4 < 0 := of_decide_eq_false h3
        have hg := no_bit (f := gonB A B) (i := 4) (by unfold gonB; simp; omega)
        refine (Chk.mk (show InK .i64 (((4 : Nat) : Int) + 1) from ⟨by decide, by decide⟩) ⟨⟨5, by decide⟩, (fun j => j), ?_, by dsimp only; decide⟩)
        refine ⟨?_, ?_, rfl, rfl, rfl, rfl, ⟨rfl, ⟨⟨rfl, rfl⟩, trivial⟩, rfl, trivial⟩⟩ <;> repeat' (first | exact trivial | exact rfl | exact hw | exact hg | (intro i hi; exact ⟨rfl, rfl⟩) | refine And.intro ?_ ?_)
    · have h2 : (!decide (B 4 = A 4)) = false := h2
      have hw := no_bit (f := wrsB A B) (i := 4) (by unfold wrsB; rw [h2]; simp)
      refine Chk.mk (show (0 : Int) ≤ ((4 : Nat) : Int) ∧ ((4 : Nat) : Int) < ((6 : Nat) : Int) from by decide) ?_
      refine Br.mk (fun h3 => ?_) (fun h3 => ?_)
      · exfalso
        have h3 : B 4 < 0 := of_decide_eq_true h3
        simp at h2
        omega
      · have h3 : ¬ B 4 < 0 := of_decide_eq_false h3
        have hg := no_bit (f := gonB A B) (i := 4) (by unfold gonB; simp; omega)
        refine (Chk.mk (show InK .i64 (((4 : Nat) : Int) + 1) from ⟨by decide, by decide⟩) ⟨⟨5, by decide⟩, (fun j => j), ?_, by dsimp only; decide⟩)
        refine ⟨?_, ?_, rfl, rfl, rfl, rfl, ⟨rfl, ⟨⟨rfl, rfl⟩, trivial⟩, rfl, trivial⟩⟩ <;> repeat' (first | exact trivial | exact rfl | exact hw | exact hg | (intro i hi; exact ⟨rfl, rfl⟩) | refine And.intro ?_ ?_)
  · refine Br.mk (fun _ => ?_) (fun h => by cases h)
    refine Chk.mk (show (0 : Int) ≤ ((5 : Nat) : Int) ∧ ((5 : Nat) : Int) < ((6 : Nat) : Int) from by decide) ?_
    refine Br.mk (fun h => ?_) (fun h => ?_)
    · have h : A 5 < 0 := of_decide_eq_true h
      have hw := no_bit (f := wrsB A B) (i := 5) (by unfold wrsB; simp; omega)
      have hg := no_bit (f := gonB A B) (i := 5) (by unfold gonB; simp; omega)
      refine (Chk.mk (show InK .i64 (((5 : Nat) : Int) + 1) from ⟨by decide, by decide⟩) ⟨⟨6, by decide⟩, (fun j => j), ?_, by dsimp only; decide⟩)
      refine ⟨?_, ?_, rfl, rfl, rfl, rfl, ⟨rfl, ⟨⟨rfl, rfl⟩, trivial⟩, rfl, trivial⟩⟩ <;> repeat' (first | exact trivial | exact rfl | exact hw | exact hg | (intro i hi; exact ⟨rfl, rfl⟩) | refine And.intro ?_ ?_)
    have h : ¬ A 5 < 0 := of_decide_eq_false h
    refine Chk.mk (show (0 : Int) ≤ ((5 : Nat) : Int) ∧ ((5 : Nat) : Int) < ((6 : Nat) : Int) from by decide) ?_
    refine Br.mk (fun h2 => ?_) (fun h2 => ?_)
    · have h2 : (!decide (B 5 = A 5)) = true := h2
      have hw := or_bit (f := wrsB A B) (i := 5) (by unfold wrsB; rw [h2]; simp; omega)
      refine Chk.mk (shl_in (i := 5) (by decide)) (Chk.mk (or_in (f := wrsB A B) (i := 5) (by decide)) ?_)
      refine Chk.mk (show (0 : Int) ≤ ((5 : Nat) : Int) ∧ ((5 : Nat) : Int) < ((6 : Nat) : Int) from by decide) ?_
      refine Br.mk (fun h3 => ?_) (fun h3 => ?_)
      · have h3 : B 5 < 0 := of_decide_eq_true h3
        have hg := or_bit (f := gonB A B) (i := 5) (by unfold gonB; simp; omega)
        refine Chk.mk (shl_in (i := 5) (by decide)) (Chk.mk (or_in (f := gonB A B) (i := 5) (by decide)) (Chk.mk (show InK .i64 (((5 : Nat) : Int) + 1) from ⟨by decide, by decide⟩) ⟨⟨6, by decide⟩, (fun j => j), ?_, by dsimp only; decide⟩))
        refine ⟨?_, ?_, rfl, rfl, rfl, rfl, ⟨rfl, ⟨⟨rfl, rfl⟩, trivial⟩, rfl, trivial⟩⟩ <;> repeat' (first | exact trivial | exact rfl | exact hw | exact hg | (intro i hi; exact ⟨rfl, rfl⟩) | refine And.intro ?_ ?_)
      · have h3 : ¬ B 5 < 0 := of_decide_eq_false h3
        have hg := no_bit (f := gonB A B) (i := 5) (by unfold gonB; simp; omega)
        refine (Chk.mk (show InK .i64 (((5 : Nat) : Int) + 1) from ⟨by decide, by decide⟩) ⟨⟨6, by decide⟩, (fun j => j), ?_, by dsimp only; decide⟩)
        refine ⟨?_, ?_, rfl, rfl, rfl, rfl, ⟨rfl, ⟨⟨rfl, rfl⟩, trivial⟩, rfl, trivial⟩⟩ <;> repeat' (first | exact trivial | exact rfl | exact hw | exact hg | (intro i hi; exact ⟨rfl, rfl⟩) | refine And.intro ?_ ?_)
    · have h2 : (!decide (B 5 = A 5)) = false := h2
      have hw := no_bit (f := wrsB A B) (i := 5) (by unfold wrsB; rw [h2]; simp)
      refine Chk.mk (show (0 : Int) ≤ ((5 : Nat) : Int) ∧ ((5 : Nat) : Int) < ((6 : Nat) : Int) from by decide) ?_
      refine Br.mk (fun h3 => ?_) (fun h3 => ?_)
      · exfalso
        have h3 : B 5 < 0 := of_decide_eq_true h3
        simp at h2
        omega
      · have h3 : ¬ B 5 < 0 := of_decide_eq_false h3
        have hg := no_bit (f := gonB A B) (i := 5) (by unfold gonB; simp; omega)
        refine (Chk.mk (show InK .i64 (((5 : Nat) : Int) + 1) from ⟨by decide, by decide⟩) ⟨⟨6, by decide⟩, (fun j => j), ?_, by dsimp only; decide⟩)
        refine ⟨?_, ?_, rfl, rfl, rfl, rfl, ⟨rfl, ⟨⟨rfl, rfl⟩, trivial⟩, rfl, trivial⟩⟩ <;> repeat' (first | exact trivial | exact rfl | exact hw | exact hg | (intro i hi; exact ⟨rfl, rfl⟩) | refine And.intro ?_ ?_)
theorem g26 {l : List (Nat × Ct)} (g : Good P T l) : Good P T ((26, c26) :: l) := g.add (k26 g) c26_mono (body_of Try.func26 (c := code Try.f26) rfl (by decide))
end Go.X.Ps
end

section
set_option linter.unusedVariables false
set_option linter.unusedSimpArgs false
set_option linter.unusedSectionVars false
/- Pass: certificates are copied; is something so of a number of some; are renewed certificates enough? -/
set_option linter.unusedVariables false
set_option linter.unusedSimpArgs false
set_option maxRecDepth 10000
set_option maxHeartbeats 4000000
namespace Go.X.Ps
open Go Go.Proofs Go.X

def pH (n : Nat) (r : Nat → Pp) : List (Nat × HB) := [(0, .ro 5 n fun i => ppC (r i))]
def pH1 (n : Nat) (r : Nat → Pp) : List (Nat × HB) := [(1, .vec 49 5 n fun i => ppC (r i)), (0, .ro 5 n fun i => ppC (r i))]
theorem b84 : Body P 84 := body_of Try.func84 (c := code Try.f84) rfl (by decide)
theorem s84 {n : Nat} {r : Nat → Pp} (hn : n ≤ 1000) {Rv : SV → List (Nat × HB) → Nat → Prop} {Rp : List PanicEntry → List (Nat × HB) → Nat → Prop} (hk : Rv (.sl 1) (pH1 n r) 2) : CallS P 84 [.sl 0] (pH n r) 1 Rv Rp := by
  have g := good0
  refine callS_toN (ι := Unit) 49 5 (fun i => ppC (r i)) g.ok Try.func84 (c := code Try.f84) rfl (Nat.le_of_ble_eq_true rfl) (fun _ => .sl 1) (fun _ => pH1 n r) 2 (fun G hG => ?_) (fun _ => hk)
  refine fb_eqNil 0 5 n (fun i => ppC (r i)) (g.ok _ _ _) cont_std rfl rfl rfl rfl rfl rfl rfl rfl rfl ?_
  intro b hb
  cases b with
  | true =>
    have hn0 : n = 0 := by
      rcases Nat.eq_zero_or_pos n with h | h
      · exact h
      · exact absurd (hb h) (by decide)
    subst hn0
    refine Br.mk (fun _ => ?_) (fun h => by cases h)
    refine .inr ⟨rfl, (), (fun j => j), ?_, ?_, rfl, rfl, rfl, rfl⟩ <;> repeat' (first | exact trivial | exact rfl | (intro i hi; exact ⟨rfl, rfl⟩) | (intro i hi; exact absurd hi (Nat.not_lt_zero _)) | refine And.intro ?_ ?_)
  | false =>
    refine Br.mk (fun h => by cases h) (fun _ => ?_)
    refine fb_append0 1 0 n (fun i => ppC (r i)) (g.ok _ _ _) cont_std rfl rfl rfl rfl rfl rfl rfl rfl rfl rfl rfl rfl (by decide) (by decide) rfl rfl rfl rfl (by decide) (by omega) ?_
    refine .inl ⟨(), (fun j => match j with | 1 => 2 | j => j), ?_, ?_, rfl, rfl, rfl, rfl⟩ <;> repeat' (first | exact trivial | exact rfl | (intro i hi; exact ⟨rfl, rfl⟩) | refine And.intro ?_ ?_)
/-! ### gen-cd.py prints the rest -/
def c86 : Ct := fun fr args H => match args with
  | [.si .i64 v, .sp lp 0] => (match H lp with
    | some (.cells 3 [.si .i64 lim]) => some ⟨none, none, .sb (!inB v 0 lim), []⟩
    | _ => none)
  | _ => none
theorem c86_mono : CtMono c86 := by
  intro fr args H H' out hH h
  unfold c86 at h ⊢
  split at h
  · split at h
    · rename_i e
      simp only [hH _ _ e]
      exact h
    · cases h
  · cases h
theorem k86 {l : List (Nat × Ct)} (g0 : Good P T l) : COk P 86 c86 := by
  have g := g60 good0
  refine cok (C := tabC _) g.ok Try.func86 (c := code Try.f86) rfl fun fr args H out h hp => ?_
  unfold c86 at h
  split at h
  case h_2 => cases h
  rename_i v lp
  split at h
  case h_2 => cases h
  rename_i lim e
  cases h
  have hh : Hand H [(lp, .cells 3 [.si .i64 lim])] := hand_mk ⟨e, trivial⟩ ⟨⟨trivial, trivial⟩, trivial⟩ rfl
  refine ⟨[(lp, .cells 3 [.si .i64 lim])], [.si .i64 v, .sp 0 0], [(0, .cells 3 [.si .i64 lim])], 1, [], rfl, rfl, Nat.le_of_ble_eq_true rfl, hh, rfl, rfl, fun G hG => ?_⟩
  exact ⟨.inl rfl, end_noid rfl rfl rfl (by repeat' (first | exact trivial | exact rfl | (intro i hi; exact ⟨rfl, rfl⟩) | refine And.intro ?_ ?_))⟩
theorem g86 {l : List (Nat × Ct)} (g : Good P T l) : Good P T ((86, c86) :: l) := g.add (k86 g) c86_mono (body_of Try.func86 (c := code Try.f86) rfl (by decide))
def fH (B : Nat → Int) (lim : Int) : List (Nat × HB) := [(0, .cells 83 (bndL B)), (1, .cells 3 [.si .i64 lim])]
def badI (B : Nat → Int) (lim : Int) (i : Nat) : Bool := !inB (B i) 0 lim
theorem b95 : Body P 95 := body_of Try.func95 (c := code Try.f95) rfl (by decide)
theorem b85 : Body P 85 := body_of Try.func85 (c := code Try.f85) rfl (by decide)
theorem s95 {B : Nat → Int} {lim : Int} {m : Nat} (hm : m ≤ 6) {Rv : SV → List (Nat × HB) → Nat → Prop} {Rp : List PanicEntry → List (Nat × HB) → Nat → Prop} (hk : Rv (.si .i64 (idxV (badI B lim) m)) (fH B lim) 2) :
    CallS P 95 [.ss 0 0 m 6, .fn (.func 86) [] [.sp 1 0]] (fH B lim) 2 Rv Rp := by
  have g := g86 good0
  refine callS_toE (ι := Unit) g.ok Try.func95 (c := code Try.f95) rfl (Nat.le_of_ble_eq_true rfl) (fun _ => .si .i64 (idxV (badI B lim) m)) (fun _ => fH B lim) 2 (fun G hG => ?_) (fun _ => hk)
  refine loop_ok (g.ok _ _ _) (fun z : {i : Nat // i ≤ m ∧ ∀ j, j < i → badI B lim j = false} => ⟨[(0, ⟨[], .ss 0 0 m 6⟩), (1, ⟨[], .fn (.func 86) [] [.sp 1 0]⟩), (7, ⟨[], .si .i64 m⟩), (8, ⟨[], .si .i64 z.1⟩)], [], fH B lim, 2, []⟩)
    (fun z => m - z.1) (fun _ j hj => hG j hj) ⟨0, Nat.zero_le _, fun j hj => by omega⟩ ?_ ?_
  · refine ⟨?_, ?_, rfl, rfl, rfl⟩ <;> repeat' (first | exact trivial | exact rfl | (intro i hi; exact rfl) | refine And.intro ?_ ?_)
  rintro ⟨i, hi, hall⟩
  rcases (show i = 6 ∨ i = 0 ∨ i = 1 ∨ i = 2 ∨ i = 3 ∨ i = 4 ∨ i = 5 by omega) with rfl | rfl | rfl | rfl | rfl | rfl | rfl
  · obtain rfl : m = 6 := by omega
    refine Br.mk (fun h => by cases h) (fun _ => ?_)
    rw [idxV_none hall]
    refine ⟨(), (fun j => j), ?_, ?_, rfl, rfl, rfl, rfl⟩ <;> repeat' (first | exact trivial | exact rfl | (intro i hi; exact ⟨rfl, rfl⟩) | refine And.intro ?_ ?_)
  · refine Br.mk (fun h => ?_) (fun h => ?_)
    · have h : ((0 : Nat) : Int) < (m : Int) := of_decide_eq_true h
      have hkm : 0 < m := by omega
      refine Chk.mk (show (0 : Int) ≤ ((0 : Nat) : Int) ∧ ((0 : Nat) : Int) < (m : Int) from ⟨by decide, h⟩) ?_
      refine Br.mk (fun h2 => ?_) (fun h2 => ?_)
      · rw [idxV_some hkm (show badI B lim 0 = true from h2) hall]
        refine ⟨(), (fun j => j), ?_, ?_, rfl, rfl, rfl, rfl⟩ <;> repeat' (first | exact trivial | exact rfl | (intro i hi; exact ⟨rfl, rfl⟩) | refine And.intro ?_ ?_)
      · have h2 : badI B lim 0 = false := h2
        refine Chk.mk (show InK .i64 (((0 : Nat) : Int) + 1) from ⟨by decide, by decide⟩) ⟨⟨1, by omega, fun j hj => by
          rcases Nat.lt_or_eq_of_le (show j ≤ 0 by omega) with h | h
          · exact hall j h
          · subst h; exact h2⟩, ?_, by show m - 1 < m - 0; omega⟩
        refine ⟨?_, ?_, rfl, rfl, rfl⟩ <;> repeat' (first | exact trivial | exact rfl | (intro i hi; exact rfl) | refine And.intro ?_ ?_)
    · have h : ¬ ((0 : Nat) : Int) < (m : Int) := of_decide_eq_false h
      have e := idxV_none (q := badI B lim) (n := m) (fun j hj => hall j (by omega))
      rw [e]
      refine ⟨(), (fun j => j), ?_, ?_, rfl, rfl, rfl, rfl⟩ <;> repeat' (first | exact trivial | exact rfl | (intro i hi; exact ⟨rfl, rfl⟩) | refine And.intro ?_ ?_)
  · refine Br.mk (fun h => ?_) (fun h => ?_)
    · have h : ((1 : Nat) : Int) < (m : Int) := of_decide_eq_true h
      have hkm : 1 < m := by omega
      refine Chk.mk (show (0 : Int) ≤ ((1 : Nat) : Int) ∧ ((1 : Nat) : Int) < (m : Int) from ⟨by decide, h⟩) ?_
      refine Br.mk (fun h2 => ?_) (fun h2 => ?_)
      · rw [idxV_some hkm (show badI B lim 1 = true from h2) hall]
        refine ⟨(), (fun j => j), ?_, ?_, rfl, rfl, rfl, rfl⟩ <;> repeat' (first | exact trivial | exact rfl | (intro i hi; exact ⟨rfl, rfl⟩) | refine And.intro ?_ ?_)
      · have h2 : badI B lim 1 = false := h2
        refine Chk.mk (show InK .i64 (((1 : Nat) : Int) + 1) from ⟨by decide, by decide⟩) ⟨⟨2, by omega, fun j hj => by
          rcases Nat.lt_or_eq_of_le (show j ≤ 1 by omega) with h | h
          · exact hall j h
          · subst h; exact h2⟩, ?_, by show m - 2 < m - 1; omega⟩
        refine ⟨?_, ?_, rfl, rfl, rfl⟩ <;> repeat' (first | exact trivial | exact rfl | (intro i hi; exact rfl) | refine And.intro ?_ ?_)
    · have h : ¬ ((1 : Nat) : Int) < (m : Int) := of_decide_eq_false h
      have e := idxV_none (q := badI B lim) (n := m) (fun j hj => hall j (by omega))
      rw [e]
      refine ⟨(), (fun j => j), ?_, ?_, rfl, rfl, rfl, rfl⟩ <;> repeat' (first | exact trivial | exact rfl | (intro i hi; exact ⟨rfl, rfl⟩) | refine And.intro ?_ ?_)
  · refine Br.mk (fun h => ?_) (fun h => ?_)
    · have h : ((2 : Nat) : Int) < (m : Int) := of_decide_eq_true h
      have hkm : 2 < m := by omega
      refine Chk.mk (show (0 : Int) ≤ ((2 : Nat) : Int) ∧ ((2 : Nat) : Int) < (m : Int) from ⟨by decide, h⟩) ?_
      refine Br.mk (fun h2 => ?_) (fun h2 => ?_)
      · rw [idxV_some hkm (show badI B lim 2 = true from h2) hall]
        refine ⟨(), (fun j => j), ?_, ?_, rfl, rfl, rfl, rfl⟩ <;> repeat' (first | exact trivial | exact rfl | (intro i hi; exact ⟨rfl, rfl⟩) | refine And.intro ?_ ?_)
      · have h2 : badI B lim 2 = false := h2
        refine Chk.mk (show InK .i64 (((2 : Nat) : Int) + 1) from ⟨by decide, by decide⟩) ⟨⟨3, by omega, fun j hj => by
          rcases Nat.lt_or_eq_of_le (show j ≤ 2 by omega) with h | h
          · exact hall j h
          · subst h; exact h2⟩, ?_, by show m - 3 < m - 2; omega⟩
        refine ⟨?_, ?_, rfl, rfl, rfl⟩ <;> repeat' (first | exact trivial | exact rfl | (intro i hi; exact rfl) | refine And.intro ?_ ?_)
    · have h : ¬ ((2 : Nat) : Int) < (m : Int) := of_decide_eq_false h
      have e := idxV_none (q := badI B lim) (n := m) (fun j hj => hall j (by omega))
      rw [e]
      refine ⟨(), (fun j => j), ?_, ?_, rfl, rfl, rfl, rfl⟩ <;> repeat' (first | exact trivial | exact rfl | (intro i hi; exact ⟨rfl, rfl⟩) | refine And.intro ?_ ?_)
  · refine Br.mk (fun h => ?_) (fun h => ?_)
    · have h : ((3 : Nat) : Int) < (m : Int) := of_decide_eq_true h
      have hkm : 3 < m := by omega
      refine Chk.mk (show (0 : Int) ≤ ((3 : Nat) : Int) ∧ ((3 : Nat) : Int) < (m : Int) from ⟨by decide, h⟩) ?_
      refine Br.mk (fun h2 => ?_) (fun h2 => ?_)
      · rw [idxV_some hkm (show badI B lim 3 = true from h2) hall]
        refine ⟨(), (fun j => j), ?_, ?_, rfl, rfl, rfl, rfl⟩ <;> repeat' (first | exact trivial | exact rfl | (intro i hi; exact ⟨rfl, rfl⟩) | refine And.intro ?_ ?_)
      · have h2 : badI B lim 3 = false := h2
        refine Chk.mk (show InK .i64 (((3 : Nat) : Int) + 1) from ⟨by decide, by decide⟩) ⟨⟨4, by omega, fun j hj => by
          rcases Nat.lt_or_eq_of_le (show j ≤ 3 by omega) with h | h
          · exact hall j h
          · subst h; exact h2⟩, ?_, by show m - 4 < m - 3; omega⟩
        refine ⟨?_, ?_, rfl, rfl, rfl⟩ <;> repeat' (first | exact trivial | exact rfl | (intro i hi; exact rfl) | refine And.intro ?_ ?_)
    · have h : ¬ ((3 : Nat) : Int) < (m : Int) := of_decide_eq_false h
      have e := idxV_none (q := badI B lim) (n := m) (fun j hj => hall j (by omega))
      rw [e]
      refine ⟨(), (fun j => j), ?_, ?_, rfl, rfl, rfl, rfl⟩ <;> repeat' (first | exact trivial | exact rfl | (intro i hi; exact ⟨rfl, rfl⟩) | refine And.intro ?_ ?_)
  · refine Br.mk (fun h => ?_) (fun h => ?_)
    · have h : ((4 : Nat) : Int) < (m : Int) := of_decide_eq_true h
      have hkm : 4 < m := by omega
      refine Chk.mk (show (0 : Int) ≤ ((4 : Nat) : Int) ∧ ((4 : Nat) : Int) < (m : Int) from ⟨by decide, h⟩) ?_
      refine Br.mk (fun h2 => ?_) (fun h2 => ?_)
      · rw [idxV_some hkm (show badI B lim 4 = true from h2) hall]
        refine ⟨(), (fun j => j), ?_, ?_, rfl, rfl, rfl, rfl⟩ <;> repeat' (first | exact trivial | exact rfl | (intro i hi; exact ⟨rfl, rfl⟩) | refine And.intro ?_ ?_)
      · have h2 : badI B lim 4 = false := h2
        refine Chk.mk (show InK .i64 (((4 : Nat) : Int) + 1) from ⟨by decide, by decide⟩) ⟨⟨5, by omega, fun j hj => by
          rcases Nat.lt_or_eq_of_le (show j ≤ 4 by omega) with h | h
          · exact hall j h
          · subst h; exact h2⟩, ?_, by show m - 5 < m - 4; omega⟩
        refine ⟨?_, ?_, rfl, rfl, rfl⟩ <;> repeat' (first | exact trivial | exact rfl | (intro i hi; exact rfl) | refine And.intro ?_ ?_)
    · have h : ¬ ((4 : Nat) : Int) < (m : Int) := of_decide_eq_false h
      have e := idxV_none (q := badI B lim) (n := m) (fun j hj => hall j (by omega))
      rw [e]
      refine ⟨(), (fun j => j), ?_, ?_, rfl, rfl, rfl, rfl⟩ <;> repeat' (first | exact trivial | exact rfl | (intro i hi; exact ⟨rfl, rfl⟩) | refine And.intro ?_ ?_)
  · refine Br.mk (fun h => ?_) (fun h => ?_)
    · have h : ((5 : Nat) : Int) < (m : Int) := of_decide_eq_true h
      have hkm : 5 < m := by omega
      refine Chk.mk (show (0 : Int) ≤ ((5 : Nat) : Int) ∧ ((5 : Nat) : Int) < (m : Int) from ⟨by decide, h⟩) ?_
      refine Br.mk (fun h2 => ?_) (fun h2 => ?_)
      · rw [idxV_some hkm (show badI B lim 5 = true from h2) hall]
        refine ⟨(), (fun j => j), ?_, ?_, rfl, rfl, rfl, rfl⟩ <;> repeat' (first | exact trivial | exact rfl | (intro i hi; exact ⟨rfl, rfl⟩) | refine And.intro ?_ ?_)
      · have h2 : badI B lim 5 = false := h2
        refine Chk.mk (show InK .i64 (((5 : Nat) : Int) + 1) from ⟨by decide, by decide⟩) ⟨⟨6, by omega, fun j hj => by
          rcases Nat.lt_or_eq_of_le (show j ≤ 5 by omega) with h | h
          · exact hall j h
          · subst h; exact h2⟩, ?_, by show m - 6 < m - 5; omega⟩
        refine ⟨?_, ?_, rfl, rfl, rfl⟩ <;> repeat' (first | exact trivial | exact rfl | (intro i hi; exact rfl) | refine And.intro ?_ ?_)
    · have h : ¬ ((5 : Nat) : Int) < (m : Int) := of_decide_eq_false h
      have e := idxV_none (q := badI B lim) (n := m) (fun j hj => hall j (by omega))
      rw [e]
      refine ⟨(), (fun j => j), ?_, ?_, rfl, rfl, rfl, rfl⟩ <;> repeat' (first | exact trivial | exact rfl | (intro i hi; exact ⟨rfl, rfl⟩) | refine And.intro ?_ ?_)
theorem s85 {B : Nat → Int} {lim : Int} {m : Nat} (hm : m ≤ 6) {Rv : SV → List (Nat × HB) → Nat → Prop} {Rp : List PanicEntry → List (Nat × HB) → Nat → Prop} (hk : Rv (.sb ((List.range m).any (badI B lim))) (fH B lim) 2) :
    CallS P 85 [.ss 0 0 m 6, .fn (.func 86) [] [.sp 1 0]] (fH B lim) 2 Rv Rp := by
  have g := g86 good0
  refine callS_toE (ι := Unit) g.ok Try.func85 (c := code Try.f85) rfl (Nat.le_of_ble_eq_true rfl) (fun _ => .sb ((List.range m).any (badI B lim))) (fun _ => fH B lim) 2 (fun G hG => ?_) (fun _ => hk)
  refine fb_call (g.ok _ _ _) cont_std rfl rfl rfl rfl ⟨b95, ?_⟩
  refine callS_at [.ss 0 0 m 6, .fn (.func 86) [] [.sp 1 0]] (fH B lim) 2 (fun j => j) (by repeat' (first | exact trivial | exact rfl | refine And.intro ?_ ?_)) rfl (by repeat' (first | exact trivial | exact rfl | (intro i hi; exact ⟨rfl, rfl⟩) | refine And.intro ?_ ?_)) rfl rfl ?_
  refine s95 hm ?_
  refine ⟨rfl, (by repeat' (first | exact trivial | exact rfl | refine And.intro ?_ ?_)), (by repeat' (first | exact trivial | exact rfl | (intro i hi; exact rfl) | refine And.intro ?_ ?_)), ?_⟩
  refine ⟨(), (fun j => j), ?_, ?_, rfl, rfl, rfl, rfl⟩ <;> repeat' (first | exact trivial | exact rfl | exact idxV_any | (intro i hi; exact ⟨rfl, rfl⟩) | refine And.intro ?_ ?_)
end Go.X.Ps
end

section
set_option linter.unusedVariables false
set_option linter.unusedSimpArgs false
set_option linter.unusedSectionVars false
/- Pass: are renewed certificates enough? -/
set_option linter.unusedVariables false
set_option linter.unusedSimpArgs false
set_option maxRecDepth 10000
set_option maxHeartbeats 4000000
namespace Go.X.Ps
open Go Go.Proofs Go.X

def rnX (x : Pp) (y : Int) : Pp := ⟨x.of, x.by_, x.wr, y, x.dr⟩
/-- Those of a set that are renewed, of the first ones. -/
def rnL (r : Nat → Pp) (S y : Int) : Nat → List Pp
  | 0 => []
  | i + 1 => if hasB S i = true then rnL r S y i ++ [rnX (r i) y] else rnL r S y i
def rnB (n : Nat) (r : Nat → Pp) (S y : Int) (i : Nat) : List Pp := (List.range n).map r ++ rnL r S y i
def rnw (n : Nat) (r : Nat → Pp) (S y : Int) : List Pp := rnB n r S y n
theorem rnL_len (r : Nat → Pp) (S y : Int) : ∀ i, (rnL r S y i).length ≤ i
  | 0 => Nat.le_refl _
  | i + 1 => by
    have := rnL_len r S y i
    unfold rnL
    split
    · rw [List.length_append]; simp; omega
    · omega
theorem rnB_len (n : Nat) (r : Nat → Pp) (S y : Int) (i : Nat) : (rnB n r S y i).length ≤ n + i := by
  have := rnL_len r S y i
  unfold rnB
  rw [List.length_append, List.length_map, List.length_range]
  omega
theorem rnL_mem {r : Nat → Pp} {S y : Int} {x : Pp} : ∀ {i}, x ∈ rnL r S y i → ∃ j, j < i ∧ hasB S j = true ∧ x = rnX (r j) y
  | 0, h => by cases h
  | i + 1, h => by
    unfold rnL at h
    split at h
    · rename_i hb
      rcases List.mem_append.1 h with h | h
      · obtain ⟨j, h1, h2⟩ := rnL_mem h; exact ⟨j, by omega, h2⟩
      · exact ⟨i, by omega, hb, List.mem_singleton.1 h⟩
    · obtain ⟨j, h1, h2⟩ := rnL_mem h; exact ⟨j, by omega, h2⟩
theorem rn_len0 {n : Nat} {r : Nat → Pp} {S y : Int} : n = (rnB n r S y 0).length := by simp [rnB, rnL]
theorem rn_get0 {n : Nat} {r : Nat → Pp} {S y : Int} {i : Nat} (hi : i < n) : ppC (r i) = ppC (pget (rnB n r S y 0) i) := by
  simp [rnB, rnL, pget, List.getD, hi]
theorem pget_snoc {L : List Pp} {x : Pp} {j : Nat} {get2 : Nat → List SV} (h2 : get2 0 = ppC x) (hj : j < L.length + 1) : ppC (pget (L ++ [x]) j) = if j < L.length then ppC (pget L j) else get2 (j - L.length) := by
  unfold pget
  split
  · rename_i h; simp [List.getD, List.getElem?_append_left h]
  · rename_i h
    obtain rfl : j = L.length := by omega
    simp [List.getD, h2]
theorem rnB_next {n : Nat} {r : Nat → Pp} {S y : Int} {i : Nat} (h : hasB S i = true) : rnB n r S y (i + 1) = rnB n r S y i ++ [rnX (r i) y] := by
  unfold rnB
  rw [rnL, if_pos h, List.append_assoc]
theorem rnB_skip {n : Nat} {r : Nat → Pp} {S y : Int} {i : Nat} (h : hasB S i = false) : rnB n r S y (i + 1) = rnB n r S y i := by
  unfold rnB
  rw [rnL, if_neg (by rw [h]; decide)]
theorem rnw_ok {ag : Int} {n : Nat} {r : Nat → Pp} {S y : Int} (hr : PpOk ag n r) (hn : n ≤ 20) (hy : 0 ≤ y ∧ y ≤ 20) : PpOk ag (rnw n r S y).length (pget (rnw n r S y)) := by
  have hl := rnB_len n r S y n
  refine ⟨by unfold rnw; omega, hr.2.1, fun i hi => ?_⟩
  have e : pget (rnw n r S y) i = (rnw n r S y)[i] := by simp [pget, List.getD, hi]
  rw [e]
  have hm : (rnw n r S y)[i] ∈ rnB n r S y n := List.getElem_mem hi
  unfold rnB at hm
  rcases List.mem_append.1 hm with h | h
  · obtain ⟨j, h1, h2⟩ := List.mem_map.1 h
    rw [← h2]
    exact hr.2.2 j (List.mem_range.1 h1)
  · obtain ⟨j, h1, _, h2⟩ := rnL_mem h
    rw [h2]
    have := hr.2.2 j h1
    exact ⟨this.1, hy, this.2.2⟩
def enoB (it ag : Int) (n : Nat) (r : Nat → Pp) (S y lim : Int) : Bool := !(List.range it.toNat).any (badI (bnN ag (rnw n r S y) y) lim)
def eH (it ag : Int) (n : Nat) (r : Nat → Pp) (om : List (SV × SV)) : List (Nat × HB) := [(0, .ro 5 n fun i => ppC (r i)), (1, .cells 108 (ofC 0 2 it ag)), (2, .mp om)]
theorem b67 : Body P 67 := body_of Try.func67 (c := code Try.f67) rfl (by decide)
theorem sh_inU {S : Int} {i : Nat} (h : 0 ≤ S ∧ S ≤ 1000000) (hi : i ≤ 60) : (0 ≤ ((i : Nat) : Int) ∧ ((i : Nat) : Int).toNat ≤ IntKind.u64.bits) ∧ (0 ≤ S.fdiv (2 ^ ((i : Nat) : Int).toNat) ∧ 0 ≤ (1 : Int) ∧ InK .u64 (S.fdiv (2 ^ ((i : Nat) : Int).toNat)) ∧ InK .u64 1) := by
  have e : S.fdiv (2 ^ ((i : Nat) : Int).toNat) = S / ((2 ^ i : Nat) : Int) := by
    rw [Int.toNat_natCast, show (2 : Int) ^ i = ((2 ^ i : Nat) : Int) by push_cast; rfl, Int.fdiv_eq_ediv_of_nonneg _ (Int.natCast_nonneg _)]
  rw [e]
  have h1 : 0 ≤ S / ((2 ^ i : Nat) : Int) := Int.ediv_nonneg h.1 (Int.natCast_nonneg _)
  have h2 : S / ((2 ^ i : Nat) : Int) ≤ S := Int.ediv_le_self _ h.1
  exact ⟨⟨by omega, by rw [Int.toNat_natCast]; show i ≤ 64; omega⟩, h1, by decide, ⟨by omega, by omega⟩, ⟨by decide, by decide⟩⟩
theorem ss_eq (a b : Nat) (it : Int) : SVeq (.ss a 0 (it - 0).toNat b) (.ss a 0 it.toNat b) := by
  rw [Int.sub_zero]
  exact rfl
theorem s67 {it ag : Int} {n : Nat} {r : Nat → Pp} {om : List (SV × SV)} {S y lim : Int} (hr : PpOk ag n r) (hit : 1 ≤ it ∧ it ≤ 6) (hn : n ≤ 20) (hS : 0 ≤ S ∧ S ≤ 1000000) (hy : 0 ≤ y ∧ y ≤ 20) {Rv : SV → List (Nat × HB) → Nat → Prop} {Rp : List PanicEntry → List (Nat × HB) → Nat → Prop}
    (hk : Rv (.sb (enoB it ag n r S y lim)) (eH it ag n r om) 3) : CallS P 67 [.sp 1 0, .si .u64 S, .si .i64 y, .si .i64 lim] (eH it ag n r om) 3 Rv Rp := by
  have g := g63 good0
  refine callS_toE (ι := Unit) g.ok Try.func67 (c := code Try.f67) rfl (Nat.le_of_ble_eq_true rfl) (fun _ => .sb (enoB it ag n r S y lim)) (fun _ => eH it ag n r om) 3 (fun G hG => ?_) (fun _ => hk)
  refine fb_call (g.ok _ _ _) cont_std rfl rfl rfl rfl ⟨b84, ?_⟩
  refine callS_at [.sl 0] (pH n r) 1 (fun j => j) (by repeat' (first | exact trivial | exact rfl | refine And.intro ?_ ?_)) rfl (by repeat' (first | exact trivial | exact rfl | (intro i hi; exact ⟨rfl, rfl⟩) | refine And.intro ?_ ?_)) rfl rfl ?_
  refine s84 (by omega) ?_
  refine ⟨rfl, (by repeat' (first | exact trivial | exact rfl | refine And.intro ?_ ?_)), (by repeat' (first | exact trivial | exact rfl | (intro i hi; exact rfl) | refine And.intro ?_ ?_)), ?_⟩
  refine loop_okR (g.ok _ _ _) 3 (fun z : {i : Nat // i ≤ n} => ⟨[(1, ⟨[], .si .u64 S⟩), (2, ⟨[], .si .i64 y⟩), (7, ⟨[], .sp 3 0⟩), (9, ⟨[], .sp 4 0⟩), (25, ⟨[], .sl 0⟩), (26, ⟨[], .si .i64 n⟩), (27, ⟨[], .si .i64 z.1⟩)], [],
      [(5, .vec 49 5 (rnB n r S y z.1).length fun j => ppC (pget (rnB n r S y z.1) j)), (4, .cells 24 [.si .i64 it, .si .i64 ag, .sl 5]), (3, .cells 3 [.si .i64 lim])] ++ eH it ag n r om, 6, []⟩)
    (fun z => n - z.1) hG ⟨0, Nat.zero_le _⟩ (fun j => j) ?_ ?_
  · refine ⟨?_, ?_, rfl, rfl, rfl, rfl, trivial⟩ <;> repeat' (first | exact trivial | exact rfl | exact List.Perm.refl _ | exact rn_len0 | (intro i hi; exact ⟨rn_get0 hi, rfl⟩) | (intro i hi; exact ⟨rfl, rfl⟩) | refine And.intro ?_ ?_)
  rintro ⟨i, hi⟩
  refine Br.mk (fun h => ?_) (fun h => ?_)
  · have h : (i : Int) < (n : Int) := of_decide_eq_true h
    have hin : i < n := by omega
    obtain ⟨q1, q2⟩ := sh_inU (i := i) hS (by omega)
    refine Chk.mk (show (0 : Int) ≤ (i : Int) ∧ (i : Int) < (n : Int) from ⟨by omega, h⟩) (Chk.mk q1 (Chk.mk q2 ?_))
    refine Br.mk (fun h2 => ?_) (fun h2 => ?_)
    · have h2 : decide ((((S.fdiv (2 ^ ((i : Nat) : Int).toNat)).toNat &&& (1 : Int).toNat : Nat) : Int) = 1) = true := h2
      rw [hasB_eq hS.1] at h2
      have hl := rnB_len n r S y i
      refine fb_append (Te := 0) 5 7 (rnB n r S y i).length 1 (fun j => ppC (pget (rnB n r S y i) j)) _ (fun j => ppC (pget (rnB n r S y i ++ [rnX (r i) y]) j)) (g.ok _ _ _) cont_std rfl rfl rfl rfl rfl rfl rfl rfl rfl rfl rfl rfl (by decide) (by decide) rfl rfl rfl rfl ?_ ?_ ?_
      · omega
      · exact fun j hj => pget_snoc (x := rnX (r i) y) (get2 := fun q => takeL 5 (dropL (q * 5) (ppC (rnX (r i) y)))) rfl hj
      · refine Chk.mk (show InK .i64 ((i : Int) + 1) from ⟨by omega, by omega⟩) ⟨⟨i + 1, by omega⟩, (fun j => match j with | 5 => 8 | j => j), ?_, by show n - (i + 1) < n - i; omega⟩
        show WeakR _ _ _ _
        simp only [rnB_next h2]
        refine ⟨?_, ?_, rfl, rfl, rfl, rfl, trivial⟩ <;> repeat' (first | exact trivial | exact rfl | exact List.Perm.refl _ | exact snoc_len | (intro i hi; exact ⟨rfl, rfl⟩) | refine And.intro ?_ ?_)
    · have h2 : decide ((((S.fdiv (2 ^ ((i : Nat) : Int).toNat)).toNat &&& (1 : Int).toNat : Nat) : Int) = 1) = false := h2
      rw [hasB_eq hS.1] at h2
      refine Chk.mk (show InK .i64 ((i : Int) + 1) from ⟨by omega, by omega⟩) ⟨⟨i + 1, by omega⟩, (fun j => j), ?_, by show n - (i + 1) < n - i; omega⟩
      show WeakR _ _ _ _
      simp only [rnB_skip h2]
      refine ⟨?_, ?_, rfl, rfl, rfl, rfl, trivial⟩ <;> repeat' (first | exact trivial | exact rfl | exact List.Perm.refl _ | (intro i hi; exact ⟨rfl, rfl⟩) | refine And.intro ?_ ?_)
  · have h : ¬ (i : Int) < (n : Int) := of_decide_eq_false h
    obtain rfl : i = n := by omega
    refine Chk.mk (pps_i _ _) ?_
    refine fb_roCell 5 6 108 49 5 (rnB i r S y i).length _ _ (ofC 10 7 it ag) (g.ok _ _ _) cont_std rfl rfl rfl rfl ?_
    refine fb_fam0 1 (g.ok _ _ _) cont_std rfl ?_
    refine fb_call (g.ok _ _ _) cont_std rfl rfl rfl rfl ⟨b54, ?_⟩
    refine callS_at [.sp 1 0, .si .i64 y] (ofH it ag (rnw i r S y).length (pget (rnw i r S y)) [] C0) 4 (fun j => match j with | 0 => 10 | 1 => 6 | 2 => 7 | _ => 11) (by repeat' (first | exact trivial | exact rfl | refine And.intro ?_ ?_)) rfl (by repeat' (first | exact trivial | exact rfl | exact List.Perm.refl _ | (intro i hi; exact ⟨rfl, rfl⟩) | (intro v m g h; exact h) | refine And.intro ?_ ?_)) rfl rfl ?_
    refine s54 (rnw_ok hr hn hy) KtOk.nil fun C2 es2 hC2 hK2 => ?_
    refine ⟨rfl, (by repeat' (first | exact trivial | exact rfl | refine And.intro ?_ ?_)), (by repeat' (first | exact trivial | exact rfl | (intro i hi; exact rfl) | refine And.intro ?_ ?_)), ?_⟩
    refine Chk.mk (show (0 : Int) ≤ 0 ∧ (0 : Int) ≤ it ∧ it ≤ ((6 : Nat) : Int) ∧ (0 : Int) < ((6 : Nat) : Int) from ⟨by decide, by omega, by omega, by decide⟩) ?_
    refine fb_call (g.ok _ _ _) cont_std rfl rfl rfl rfl ⟨b85, ?_⟩
    refine callS_at [.ss 0 0 it.toNat 6, .fn (.func 86) [] [.sp 1 0]] (fH (bnd ag (rnw i r S y).length (pget (rnw i r S y)) y) lim) 2 (fun j => match j with | 0 => 12 | _ => 3) (by repeat' (first | exact trivial | exact rfl | exact ss_eq _ _ _ | refine And.intro ?_ ?_)) rfl (by repeat' (first | exact trivial | exact rfl | (intro i hi; exact ⟨rfl, rfl⟩) | refine And.intro ?_ ?_)) rfl rfl ?_
    refine s85 (by omega) ?_
    refine ⟨rfl, (by repeat' (first | exact trivial | exact rfl | refine And.intro ?_ ?_)), (by repeat' (first | exact trivial | exact rfl | (intro i hi; exact rfl) | refine And.intro ?_ ?_)), ?_⟩
    refine ⟨(), (fun j => j), ?_, ?_, rfl, rfl, rfl, rfl⟩ <;> repeat' (first | exact trivial | exact rfl | exact List.Perm.refl _ | (intro i hi; exact ⟨rfl, rfl⟩) | refine And.intro ?_ ?_)
end Go.X.Ps
end

section
set_option linter.unusedVariables false
set_option linter.unusedSimpArgs false
set_option linter.unusedSectionVars false
/- Pass: how many bits are set, and the least of sets. -/
set_option linter.unusedVariables false
set_option linter.unusedSimpArgs false
set_option maxRecDepth 10000
set_option maxHeartbeats 4000000
namespace Go.X.Ps
open Go Go.Proofs Go.X

/-- How many of the first eight bits are set. -/
def popN (x : Nat) : Nat := x % 2 + x / 2 % 2 + x / 4 % 2 + x / 8 % 2 + x / 16 % 2 + x / 32 % 2 + x / 64 % 2 + x / 128 % 2
def landI (a b : Int) : Int := ((a.toNat &&& b.toNat : Nat) : Int)
def shrI (a k : Int) : Int := a.fdiv (2 ^ k.toNat)
def p1 (x : Int) : Int := landI (shrI x 1) 6148914691236517205 + landI x 6148914691236517205
def p2 (x : Int) : Int := landI (shrI x 2) 3689348814741910323 + landI x 3689348814741910323
def p3 (x : Int) : Int := landI (shrI x 4 + x) 1085102592571150095
def p4 (k x : Int) : Int := x + shrI x k
def f88V (x : Int) : Int := landI (p4 32 (p4 16 (p4 8 (p3 (p2 (p1 x)))))) 127
theorem f88_all : ((List.range 256).all fun x => decide (f88V (x : Int) = (popN x : Int))) = true := by kernel_rfl
theorem f88_ok {x : Int} (h : 0 ≤ x ∧ x < 256) : f88V x = (popN x.toNat : Int) := by
  obtain ⟨n, rfl⟩ : ∃ n : Nat, x = (n : Int) := ⟨x.toNat, by omega⟩
  have := List.all_eq_true.1 f88_all n (List.mem_range.2 (by omega))
  rw [Int.toNat_natCast]
  exact of_decide_eq_true this
theorem land_b {a b C : Int} (h : 0 ≤ a ∧ a ≤ C) : 0 ≤ landI a b ∧ landI a b ≤ C := by
  unfold landI
  have := Nat.and_le_left (n := a.toNat) (m := b.toNat)
  omega
theorem shr_b {a C : Int} (k : Nat) (h : 0 ≤ a ∧ a ≤ C) : 0 ≤ shrI a (k : Int) ∧ shrI a (k : Int) ≤ C := by
  unfold shrI
  have e : a.fdiv (2 ^ ((k : Nat) : Int).toNat) = a / ((2 ^ k : Nat) : Int) := by
    rw [Int.toNat_natCast, show (2 : Int) ^ k = ((2 ^ k : Nat) : Int) by push_cast; rfl, Int.fdiv_eq_ediv_of_nonneg _ (Int.natCast_nonneg _)]
  rw [e]
  have h1 : 0 ≤ a / ((2 ^ k : Nat) : Int) := Int.ediv_nonneg h.1 (Int.natCast_nonneg _)
  have h2 : a / ((2 ^ k : Nat) : Int) ≤ a := Int.ediv_le_self _ h.1
  omega
theorem and_pre {k : IntKind} {a b : Int} (h : 0 ≤ a ∧ a ≤ 100000) (hb : 0 ≤ b ∧ b ≤ 6148914691236517205) (hk : k = .u64 ∨ k = .i64) : 0 ≤ a ∧ 0 ≤ b ∧ InK k a ∧ InK k b := by
  rcases hk with rfl | rfl <;> exact ⟨h.1, hb.1, ⟨by omega, by omega⟩, ⟨by omega, by omega⟩⟩
theorem inK_b {a : Int} (h : 0 ≤ a ∧ a ≤ 100000) : InK .u64 a := ⟨by omega, by omega⟩
def c88 : Ct := plainCt fun
  | [.si .u64 x] => some ⟨some (0 ≤ x ∧ x < 256), none, .si .i64 (popN x.toNat : Nat), []⟩
  | _ => none
theorem k88 {l : List (Nat × Ct)} (g0 : Good P T l) : COk P 88 c88 := by
  have g := good0
  refine cok (C := tabC _) g.ok Try.func88 (c := code Try.f88) rfl fun fr args H out h hp => ?_
  simp only [c88, plainCt] at h
  split at h
  · rename_i x
    cases h
    have hx : 0 ≤ x ∧ x < 256 := hp
    rw [← f88_ok hx]
    refine walk_plain rfl (Nat.le_of_ble_eq_true rfl) fun G hG => ?_
    have h0 : 0 ≤ x ∧ x ≤ 256 := by omega
    have a1 : 0 ≤ shrI x 1 ∧ shrI x 1 ≤ 256 := shr_b 1 h0
    have a2 := land_b (b := 6148914691236517205) a1
    have a3 := land_b (b := 6148914691236517205) h0
    have a4 : 0 ≤ p1 x ∧ p1 x ≤ 512 := by unfold p1; constructor <;> (have := a2; have := a3; omega)
    have b1 : 0 ≤ shrI (p1 x) 2 ∧ shrI (p1 x) 2 ≤ 512 := shr_b 2 a4
    have b2 := land_b (b := 3689348814741910323) b1
    have b3 := land_b (b := 3689348814741910323) a4
    have b4 : 0 ≤ p2 (p1 x) ∧ p2 (p1 x) ≤ 1024 := by unfold p2; constructor <;> (have := b2; have := b3; omega)
    have c1 : 0 ≤ shrI (p2 (p1 x)) 4 ∧ shrI (p2 (p1 x)) 4 ≤ 1024 := shr_b 4 b4
    have c2 : 0 ≤ shrI (p2 (p1 x)) 4 + p2 (p1 x) ∧ shrI (p2 (p1 x)) 4 + p2 (p1 x) ≤ 2048 := by have := c1; omega
    have c3 : 0 ≤ p3 (p2 (p1 x)) ∧ p3 (p2 (p1 x)) ≤ 2048 := land_b (b := 1085102592571150095) c2
    have d1 : 0 ≤ shrI (p3 (p2 (p1 x))) 8 ∧ shrI (p3 (p2 (p1 x))) 8 ≤ 2048 := shr_b 8 c3
    have d2 : 0 ≤ p4 8 (p3 (p2 (p1 x))) ∧ p4 8 (p3 (p2 (p1 x))) ≤ 4096 := by
      show 0 ≤ _ + _ ∧ _ + _ ≤ _
      have := d1; have := c3; omega
    have e1 : 0 ≤ shrI (p4 8 (p3 (p2 (p1 x)))) 16 ∧ shrI (p4 8 (p3 (p2 (p1 x)))) 16 ≤ 4096 := shr_b 16 d2
    have e2 : 0 ≤ p4 16 (p4 8 (p3 (p2 (p1 x)))) ∧ p4 16 (p4 8 (p3 (p2 (p1 x)))) ≤ 8192 := by
      show 0 ≤ _ + _ ∧ _ + _ ≤ _
      have := e1; omega
    have g1 : 0 ≤ shrI (p4 16 (p4 8 (p3 (p2 (p1 x))))) 32 ∧ shrI (p4 16 (p4 8 (p3 (p2 (p1 x))))) 32 ≤ 8192 := shr_b 32 e2
    have g2 : 0 ≤ p4 32 (p4 16 (p4 8 (p3 (p2 (p1 x))))) ∧ p4 32 (p4 16 (p4 8 (p3 (p2 (p1 x))))) ≤ 16384 := by
      show 0 ≤ _ + _ ∧ _ + _ ≤ _
      have := g1; omega
    refine Chk.mk (show (0 : Int) ≤ 1 ∧ (1 : Int).toNat ≤ IntKind.u64.bits from by decide) (Chk.mk (and_pre (a := shrI x 1) ⟨a1.1, by have := a1.2; omega⟩ (by decide) (.inl rfl)) (Chk.mk (and_pre (a := x) ⟨hx.1, by omega⟩ (by decide) (.inl rfl)) (Chk.mk (inK_b (a := p1 x) ⟨a4.1, by have := a4.2; omega⟩) ?_)))
    refine Chk.mk (show (0 : Int) ≤ 2 ∧ (2 : Int).toNat ≤ IntKind.u64.bits from by decide) (Chk.mk (and_pre (a := shrI (p1 x) 2) ⟨b1.1, by have := b1.2; omega⟩ (by decide) (.inl rfl)) (Chk.mk (and_pre (a := p1 x) ⟨a4.1, by have := a4.2; omega⟩ (by decide) (.inl rfl)) (Chk.mk (inK_b (a := p2 (p1 x)) ⟨b4.1, by have := b4.2; omega⟩) ?_)))
    refine Chk.mk (show (0 : Int) ≤ 4 ∧ (4 : Int).toNat ≤ IntKind.u64.bits from by decide) (Chk.mk (inK_b (a := shrI (p2 (p1 x)) 4 + p2 (p1 x)) ⟨c2.1, by have := c2.2; omega⟩) (Chk.mk (and_pre (a := shrI (p2 (p1 x)) 4 + p2 (p1 x)) ⟨c2.1, by have := c2.2; omega⟩ (by decide) (.inl rfl)) ?_))
    refine Chk.mk (show (0 : Int) ≤ 8 ∧ (8 : Int).toNat ≤ IntKind.u64.bits from by decide) (Chk.mk (inK_b (a := p4 8 (p3 (p2 (p1 x)))) ⟨d2.1, by have := d2.2; omega⟩) ?_)
    refine Chk.mk (show (0 : Int) ≤ 16 ∧ (16 : Int).toNat ≤ IntKind.u64.bits from by decide) (Chk.mk (inK_b (a := p4 16 (p4 8 (p3 (p2 (p1 x))))) ⟨e2.1, by have := e2.2; omega⟩) ?_)
    refine Chk.mk (show (0 : Int) ≤ 32 ∧ (32 : Int).toNat ≤ IntKind.u64.bits from by decide) (Chk.mk (inK_b (a := p4 32 (p4 16 (p4 8 (p3 (p2 (p1 x)))))) ⟨g2.1, by have := g2.2; omega⟩) ?_)
    refine Chk.mk (show InK .i64 (p4 32 (p4 16 (p4 8 (p3 (p2 (p1 x)))))) from ⟨by have := g2.1; omega, by have := g2.2; omega⟩) (Chk.mk (and_pre (a := p4 32 (p4 16 (p4 8 (p3 (p2 (p1 x)))))) ⟨g2.1, by have := g2.2; omega⟩ (by decide) (.inr rfl)) ?_)
    exact ⟨.inl rfl, end_plain ⟨rfl, rfl⟩ rfl rfl⟩
  · cases h
theorem g88 {l : List (Nat × Ct)} (g : Good P T l) : Good P T ((88, c88) :: l) := g.add (k88 g) (plainCt_mono _) (body_of Try.func88 (c := code Try.f88) rfl (by decide))
theorem k70 {l : List (Nat × Ct)} (g0 : Good P T l) : COk P 70 c88 := by
  have g := g88 good0
  refine cok (C := tabC _) g.ok Try.func70 (c := code Try.f70) rfl fun fr args H out h hp => ?_
  simp only [c88, plainCt] at h
  split at h
  · rename_i x
    cases h
    have hx : 0 ≤ x ∧ x < 256 := hp
    refine walk_plain rfl (Nat.le_of_ble_eq_true rfl) fun G hG => ?_
    refine Br.mk (fun h => by cases h) (fun _ => ?_)
    refine Chk.mk hx ?_
    exact ⟨.inl rfl, end_plain ⟨rfl, rfl⟩ rfl rfl⟩
  · cases h
theorem g70 {l : List (Nat × Ct)} (g : Good P T l) : Good P T ((70, c88) :: l) := g.add (k70 g) (plainCt_mono _) (body_of Try.func70 (c := code Try.f70) rfl (by decide))
def c69 : Ct := plainCt fun
  | [.si .u64 x, .si .u64 y] => some ⟨some ((0 ≤ x ∧ x < 256) ∧ 0 ≤ y ∧ y < 256), none, .sb (decide (popN x.toNat < popN y.toNat)), []⟩
  | _ => none
theorem k69 {l : List (Nat × Ct)} (g0 : Good P T l) : COk P 69 c69 := by
  have g := g70 good0
  refine cok (C := tabC _) g.ok Try.func69 (c := code Try.f69) rfl fun fr args H out h hp => ?_
  simp only [c69, plainCt] at h
  split at h
  · rename_i x y
    cases h
    obtain ⟨hx, hy⟩ : (0 ≤ x ∧ x < 256) ∧ 0 ≤ y ∧ y < 256 := hp
    refine walk_plain rfl (Nat.le_of_ble_eq_true rfl) fun G hG => ?_
    refine Chk.mk hx (Chk.mk hy ?_)
    refine ⟨.inl rfl, end_plain ?_ rfl rfl⟩
    show decide (((popN x.toNat : Nat) : Int) < ((popN y.toNat : Nat) : Int)) = decide (popN x.toNat < popN y.toNat)
    apply decide_eq_decide.2
    omega
  · cases h
theorem g69 {l : List (Nat × Ct)} (g : Good P T l) : Good P T ((69, c69) :: l) := g.add (k69 g) (plainCt_mono _) (body_of Try.func69 (c := code Try.f69) rfl (by decide))
/-- Of the fewest bits the first one. -/
def lstN (f : Nat → Nat) : Nat → Nat
  | 0 => 0
  | i + 1 => if i = 0 then f 0 else if popN (f i) < popN (lstN f i) then f i else lstN f i
theorem lstN_lt {f : Nat → Nat} : ∀ {n}, (∀ i, i < n → f i < 256) → lstN f n < 256
  | 0, _ => by show 0 < 256; decide
  | i + 1, h => by
    unfold lstN
    split
    · exact h 0 (by omega)
    · split
      · exact h i (by omega)
      · exact lstN_lt fun j hj => h j (by omega)
def uC (x : Nat) : List SV := [.si .u64 (x : Nat)]
def luH (n : Nat) (f : Nat → Nat) : List (Nat × HB) := [(0, .vec 91 1 n fun i => uC (f i))]
theorem b68 : Body P 68 := body_of Try.func68 (c := code Try.f68) rfl (by decide)
theorem s68 {n : Nat} {f : Nat → Nat} (hn : n ≤ 1000) (hf : ∀ i, i < n → f i < 256) {Rv : SV → List (Nat × HB) → Nat → Prop} {Rp : List PanicEntry → List (Nat × HB) → Nat → Prop}
    (hk : Rv (.tup [.si .u64 ((lstN f n : Nat) : Int), .sb (decide ((0 : Int) < (n : Int)))]) (luH n f) 1) : CallS P 68 [.sl 0, .agg [.fn (.func 69) [] []]] (luH n f) 1 Rv Rp := by
  have g := g69 good0
  refine callS_toE (ι := Unit) g.ok Try.func68 (c := code Try.f68) rfl (Nat.le_of_ble_eq_true rfl) (fun _ => .tup [.si .u64 ((lstN f n : Nat) : Int), .sb (decide ((0 : Int) < (n : Int)))]) (fun _ => luH n f) 1 (fun G hG => ?_) (fun _ => hk)
  refine loop_ok (g.ok _ _ _) (fun z : {i : Nat // i ≤ n} => ⟨[(0, ⟨[], .sl 0⟩), (1, ⟨[], .agg [.fn (.func 69) [] []]⟩), (3, ⟨[], .sp 1 0⟩), (4, ⟨[], .si .u64 ((lstN f z.1 : Nat) : Int)⟩), (5, ⟨[], .sb false⟩), (8, ⟨[], .sl 0⟩), (9, ⟨[], .si .i64 n⟩), (10, ⟨[], .si .i64 z.1⟩)], [], (1, .cells 98 [.fn (.func 69) [] []]) :: luH n f, 2, []⟩)
    (fun z => n - z.1) (fun _ j hj => hG j (Nat.le_trans (show 1 ≤ 2 by decide) hj)) ⟨0, Nat.zero_le _⟩ ?_ ?_
  · refine ⟨?_, ?_, rfl, rfl, rfl⟩ <;> repeat' (first | exact trivial | exact rfl | (intro i hi; exact rfl) | refine And.intro ?_ ?_)
  rintro ⟨i, hi⟩
  refine Br.mk (fun h => ?_) (fun h => ?_)
  · have h : (i : Int) < (n : Int) := of_decide_eq_true h
    have hin : i < n := by omega
    refine Chk.mk (show (0 : Int) ≤ (i : Int) ∧ (i : Int) < (n : Int) from ⟨by omega, by omega⟩) ?_
    have q1 := hf i hin
    have q2 := lstN_lt (f := f) (n := i) fun j hj => hf j (by omega)
    refine Chk.mk (under_of (show (0 ≤ ((f i : Nat) : Int) ∧ ((f i : Nat) : Int) < 256) ∧ 0 ≤ ((lstN f i : Nat) : Int) ∧ ((lstN f i : Nat) : Int) < 256 from ⟨⟨by omega, by omega⟩, by omega, by omega⟩)) ?_
    refine Br.mk (fun h2 => ?_) (fun h2 => ?_)
    · have h2 : (decide ((i : Int) = 0) || decide (popN (((f i : Nat) : Int)).toNat < popN (((lstN f i : Nat) : Int)).toNat)) = true := h2
      rw [Int.toNat_natCast, Int.toNat_natCast, Bool.or_eq_true, decide_eq_true_eq, decide_eq_true_eq] at h2
      have e : lstN f (i + 1) = f i := by
        rw [lstN]
        split
        · rename_i hz; rw [hz]
        · rename_i hz
          rw [if_pos (h2.resolve_left (by omega))]
      refine Chk.mk (show InK .i64 ((i : Int) + 1) from ⟨by omega, by omega⟩) ⟨⟨i + 1, by omega⟩, ?_, by show n - (i + 1) < n - i; omega⟩
      show Weak _ _
      simp only [e]
      refine ⟨?_, ?_, rfl, rfl, rfl⟩ <;> repeat' (first | exact trivial | exact rfl | (intro i hi; exact rfl) | refine And.intro ?_ ?_)
    · have h2 : (decide ((i : Int) = 0) || decide (popN (((f i : Nat) : Int)).toNat < popN (((lstN f i : Nat) : Int)).toNat)) = false := h2
      rw [Int.toNat_natCast, Int.toNat_natCast, Bool.or_eq_false_iff, decide_eq_false_iff_not, decide_eq_false_iff_not] at h2
      have e : lstN f (i + 1) = lstN f i := by
        rw [lstN, if_neg (by omega), if_neg h2.2]
      refine Chk.mk (show InK .i64 ((i : Int) + 1) from ⟨by omega, by omega⟩) ⟨⟨i + 1, by omega⟩, ?_, by show n - (i + 1) < n - i; omega⟩
      show Weak _ _
      simp only [e]
      refine ⟨?_, ?_, rfl, rfl, rfl⟩ <;> repeat' (first | exact trivial | exact rfl | (intro i hi; exact rfl) | refine And.intro ?_ ?_)
  · have h : ¬ (i : Int) < (n : Int) := of_decide_eq_false h
    obtain rfl : i = n := by omega
    refine ⟨(), (fun j => j), ?_, ?_, rfl, rfl, rfl, rfl⟩ <;> repeat' (first | exact trivial | exact rfl | (intro i hi; exact ⟨rfl, rfl⟩) | refine And.intro ?_ ?_)
end Go.X.Ps
end

section
set_option linter.unusedVariables false
set_option linter.unusedSimpArgs false
set_option linter.unusedSectionVars false
/- Pass: Renew. -/
set_option linter.unusedVariables false
set_option linter.unusedSimpArgs false
set_option maxRecDepth 10000
set_option maxHeartbeats 4000000
namespace Go.X.Ps
open Go Go.Proofs Go.X

/-- Are the certificates of a set, if they are renewed, enough? -/
def enoP (it ag : Int) (ps : List Pp) (y lim : Int) (S : Nat) : Bool := enoB it ag ps.length (pget ps) (S : Int) y lim
def renS (it ag : Int) (ps : List Pp) (y lim : Int) (m : Nat) : List Nat := (List.range m).filter (enoP it ag ps y lim)
def renE0 (it ag : Int) (ps : List Pp) (y lim : Int) : Int := errO (validV it ag ps) (inB y 0 20 && inB lim 0 2000)
def renL (it ag : Int) (ps : List Pp) (y lim : Int) : List Nat := renS it ag ps y lim (2 ^ ps.length)
def renE (it ag : Int) (ps : List Pp) (y lim : Int) : Int := if renE0 it ag ps y lim = 0 then (if 0 < (renL it ag ps y lim).length then 0 else 4) else renE0 it ag ps y lim
def lstL (l : List Nat) : Nat := lstN (fun i => l.getD i 0) l.length
def renR (it ag : Int) (ps : List Pp) (y lim : Int) : Int := if renE it ag ps y lim = 0 then (lstL (renL it ag ps y lim) : Nat) else 0
def c29 : Ct := fun fr args H => match args with
  | [.agg l, .si .i64 y, .si .i64 lim] => passK H l fun i1 it ag n get => some ⟨some (Pps n get ∧ n ≤ 1000000), none, .tup [.si .i64 (renR it ag (papL n get) y lim), .si .i64 (renE it ag (papL n get) y lim)], []⟩
  | _ => none
theorem c29_mono : CtMono c29 := by
  intro fr args H H' out hH h
  unfold c29 at h ⊢
  split at h
  · exact passK_mono hH h
  · cases h
theorem rnL_congr {r r' : Nat → Pp} {S y : Int} : ∀ {i}, (∀ j, j < i → r j = r' j) → rnL r S y i = rnL r' S y i
  | 0, _ => rfl
  | i + 1, h => by rw [rnL, rnL, rnL_congr fun j hj => h j (by omega), h i (by omega)]
theorem enoB_congr {it ag : Int} {n : Nat} {r r' : Nat → Pp} {S y lim : Int} (h : ∀ j, j < n → r j = r' j) : enoB it ag n r S y lim = enoB it ag n r' S y lim := by
  unfold enoB rnw rnB
  rw [rnL_congr h, show (List.range n).map r = (List.range n).map r' from List.map_congr_left fun j hj => h j (List.mem_range.1 hj)]
theorem enoP_papL {it ag : Int} {n : Nat} {get : Nat → List SV} {y lim : Int} : enoP it ag (papL n get) y lim = fun S : Nat => enoB it ag n (ppAt get) (S : Int) y lim := by
  funext S
  unfold enoP
  rw [papL_len]
  exact enoB_congr fun j hj => pget_papL hj
theorem getD_u {l : List Nat} {x j : Nat} {get2 : Nat → List SV} (h2 : get2 0 = uC x) (hj : j < l.length + 1) : uC ((l ++ [x]).getD j 0) = if j < l.length then uC (l.getD j 0) else get2 (j - l.length) := by
  split
  · rename_i h; simp [List.getD, List.getElem?_append_left h]
  · rename_i h
    obtain rfl : j = l.length := by omega
    simp [List.getD, h2]
theorem filt_next {p : Nat → Bool} {c : Nat} (h : p c = true) : (List.range (c + 1)).filter p = (List.range c).filter p ++ [c] := by
  rw [List.range_succ, List.filter_append]; simp [h]
theorem filt_skip {p : Nat → Bool} {c : Nat} (h : p c = false) : (List.range (c + 1)).filter p = (List.range c).filter p := by
  rw [List.range_succ, List.filter_append]; simp [h]
theorem filt_len {p : Nat → Bool} {c : Nat} : ((List.range c).filter p).length ≤ c := by
  have := List.length_filter_le p (List.range c)
  rwa [List.length_range] at this
theorem filt_lt {p : Nat → Bool} {c i : Nat} (hi : i < ((List.range c).filter p).length) : ((List.range c).filter p).getD i 0 < c := by
  have e : ((List.range c).filter p).getD i 0 = ((List.range c).filter p)[i] := by simp [List.getD, hi]
  rw [e]
  exact List.mem_range.1 (List.mem_filter.1 (List.getElem_mem hi)).1
theorem k29 {l : List (Nat × Ct)} (g0 : Good P T l) : COk P 29 c29 := by
  have g := g47 (g45 (g56 (g43 good0)))
  refine cokD (C := tabC _) g.ok answer_ok Try.func29 (c := code Try.f29) rfl fun fr args H out h hp => ?_
  unfold c29 at h
  split at h
  case h_2 => cases h
  rename_i l y lim
  obtain ⟨i1, it, ag, n, get, rfl, e1, h⟩ := passK_some h
  cases h
  obtain ⟨hs, hn⟩ : Pps n get ∧ n ≤ 1000000 := hp
  refine ⟨[(i1, .ro 5 n fun i => ppC (ppAt get i))], [.agg (paA 0 it ag), .si .i64 y, .si .i64 lim], [(0, .ro 5 n fun i => ppC (ppAt get i))], 1, [], rfl, rfl, Nat.le_of_ble_eq_true rfl, pp_hand e1 hs, rfl, rfl, fun G hG => ?_⟩
  unfold renR renE renL renS renE0
  rw [enoP_papL, papL_len]
  unfold papL
  generalize ppAt get = L
  refine fb_defer (g.ok _ _ _) rfl cont_std rfl rfl rfl rfl ?_
  refine drawn_ok (g.ok _ _ _) fol [0,0,2,6,14,30,62,127,255] [] 9 (by kernel_rfl) ?_
  obtain ⟨is, his⟩ : ∃ is : Bool, (inB y 0 20 && inB lim 0 2000) = is := ⟨_, rfl⟩
  rw [his]
  refine Chk.mk ⟨pps_i _ _, hn⟩ ?_
  refine Br.mk (fun h => ?_) (fun h => ?_)
  · have h : (!decide (errO (validV it ag ((List.range n).map L)) (inB y 0 20 && inB lim 0 2000) = 0)) = true := h
    rw [his] at h
    have h : ¬ errO (validV it ag ((List.range n).map L)) is = 0 := by simpa using h
    rw [if_neg h, if_neg h]
    refine ⟨.inl rfl, end_noid ⟨⟨rfl, rfl⟩, ⟨rfl, ?_⟩, trivial⟩ rfl rfl (by repeat' (first | exact trivial | exact rfl | (intro i hi; exact ⟨rfl, rfl⟩) | refine And.intro ?_ ?_))⟩
    show errO (validV it ag ((List.range n).map L)) (inB y 0 20 && inB lim 0 2000) = _
    rw [his]
  have h : (!decide (errO (validV it ag ((List.range n).map L)) (inB y 0 20 && inB lim 0 2000) = 0)) = false := h
  rw [his] at h
  have h : errO (validV it ag ((List.range n).map L)) is = 0 := by simpa using h
  rw [if_pos h]
  obtain ⟨hr, hit, hn8⟩ := valid_ok (errO_zero h).1
  have hyl : (0 ≤ y ∧ y ≤ 20) ∧ 0 ≤ lim ∧ lim ≤ 2000 := by
    have := (errO_zero h).2
    rw [← his] at this
    simp only [Bool.and_eq_true, inB, decide_eq_true_eq] at this
    omega
  have hpow : 2 ^ n ≤ 2 ^ 8 := Nat.pow_le_pow_right (by decide) hn8
  have hpow8 : 2 ^ 8 = 256 := rfl
  have hcast : (1 : Int) * 2 ^ ((n : Nat) : Int).toNat = ((2 ^ n : Nat) : Int) := by rw [Int.toNat_natCast]; push_cast; omega
  have hsh : 0 ≤ ((n : Nat) : Int) ∧ ((n : Nat) : Int).toNat ≤ IntKind.u64.bits ∧ InK .u64 ((1 : Int) * 2 ^ ((n : Nat) : Int).toNat) := by
    refine ⟨by omega, by rw [Int.toNat_natCast]; show n ≤ 64; omega, ?_⟩
    rw [hcast]
    have key : ∀ m : Nat, m ≤ 256 → InK .u64 ((m : Nat) : Int) := fun m h => ⟨by omega, by omega⟩
    exact key _ (Nat.le_trans hpow (by decide))
  refine Chk.mk hsh ?_
  generalize (1 : Int) * 2 ^ ((n : Nat) : Int).toNat = M1 at hcast
  obtain ⟨E, hE⟩ : ∃ E : Nat → Bool, (fun S : Nat => enoB it ag n L (S : Int) y lim) = E := ⟨_, rfl⟩
  rw [hE]
  have hEz : ∀ S : Nat, enoB it ag n L (S : Int) y lim = E S := fun S => congrFun hE S
  refine nil_slot 9 91 1 (fun i => uC 0) rfl ?_
  refine loop_okR (g.ok _ _ _) 1 (fun z : {c : Nat // c ≤ 2 ^ n} => ⟨[(1, ⟨[], .si .i64 y⟩), (2, ⟨[], .si .i64 lim⟩), (6, ⟨[], .si .i64 0⟩), (7, ⟨[], .sp 2 0⟩), (8, ⟨[], .sp 31 0⟩), (9, ⟨[], .sl 39⟩), (24, ⟨[], .si .u64 M1⟩), (25, ⟨[], .si .u64 ((z.1 : Nat) : Int)⟩)], [],
      [(39, .vec 91 1 ((List.range z.1).filter E).length fun j => uC (((List.range z.1).filter E).getD j 0)), (31, .cells 108 (ofC 0 32 it ag)), (32, .mp []), (2, .cells 27 [.si .i64 0]), (0, .ro 5 n fun i => ppC (L i))], 40, D17⟩)
    (fun z => 2 ^ n - z.1) hG ⟨0, Nat.zero_le _⟩ (fun j => j) ?_ ?_
  · refine ⟨?_, ?_, rfl, rfl, rfl, rfl, ⟨rfl, ⟨⟨rfl, rfl⟩, trivial⟩, rfl, trivial⟩⟩ <;> repeat' (first | exact trivial | exact rfl | exact List.Perm.refl _ | (intro i hi; exact absurd hi (Nat.not_lt_zero _)) | (intro i hi; exact ⟨rfl, rfl⟩) | refine And.intro ?_ ?_)
  rintro ⟨c, hc⟩
  have hc : c ≤ 2 ^ n := hc
  refine Br.mk (fun h => ?_) (fun h => ?_)
  · have h : ((c : Nat) : Int) < M1 := of_decide_eq_true h
    have hcl : c < 2 ^ n := by omega
    refine fb_call (g.ok _ _ _) cont_std rfl rfl rfl rfl ⟨b67, ?_⟩
    refine callS_at [.sp 1 0, .si .u64 ((c : Nat) : Int), .si .i64 y, .si .i64 lim] (eH it ag n L []) 3 (fun j => match j with | 0 => 0 | 1 => 31 | _ => 32) (by repeat' (first | exact trivial | exact rfl | refine And.intro ?_ ?_)) rfl (by repeat' (first | exact trivial | exact rfl | exact List.Perm.refl _ | (intro i hi; exact ⟨rfl, rfl⟩) | refine And.intro ?_ ?_)) rfl rfl ?_
    refine s67 hr hit (by omega) ⟨by omega, by omega⟩ hyl.1 ?_
    refine ⟨rfl, (by repeat' (first | exact trivial | exact rfl | refine And.intro ?_ ?_)), (by repeat' (first | exact trivial | exact rfl | (intro i hi; exact rfl) | refine And.intro ?_ ?_)), ?_⟩
    rw [hEz]
    refine Br.mk (fun h2 => ?_) (fun h2 => ?_)
    · have h2 : E c = true := h2
      have hl := filt_len (p := E) (c := c)
      refine fb_append (Te := 0) 39 40 ((List.range c).filter E).length 1 (fun j => uC (((List.range c).filter E).getD j 0)) _ (fun j => uC (((List.range c).filter E ++ [c]).getD j 0)) (g.ok _ _ _) cont_std rfl rfl rfl rfl rfl rfl rfl rfl rfl rfl rfl rfl (by decide) (by decide) rfl rfl rfl rfl ?_ ?_ ?_
      · omega
      · exact fun j hj => getD_u (x := c) (get2 := fun q => takeL 1 (dropL (q * 1) (uC c))) rfl hj
      · refine Chk.mk (show InK .u64 (((c : Nat) : Int) + 1) from ⟨by omega, by omega⟩) ⟨⟨c + 1, by omega⟩, (fun j => match j with | 39 => 41 | j => j), ?_, by show 2 ^ n - (c + 1) < 2 ^ n - c; omega⟩
        show WeakR _ _ _ _
        simp only [filt_next h2]
        refine ⟨?_, ?_, rfl, rfl, rfl, rfl, ⟨rfl, ⟨⟨rfl, rfl⟩, trivial⟩, rfl, trivial⟩⟩ <;> repeat' (first | exact trivial | exact rfl | exact List.Perm.refl _ | exact snoc_len | (intro i hi; exact ⟨rfl, rfl⟩) | refine And.intro ?_ ?_)
    · have h2 : E c = false := h2
      refine Chk.mk (show InK .u64 (((c : Nat) : Int) + 1) from ⟨by omega, by omega⟩) ⟨⟨c + 1, by omega⟩, (fun j => j), ?_, by show 2 ^ n - (c + 1) < 2 ^ n - c; omega⟩
      show WeakR _ _ _ _
      simp only [filt_skip h2]
      refine ⟨?_, ?_, rfl, rfl, rfl, rfl, ⟨rfl, ⟨⟨rfl, rfl⟩, trivial⟩, rfl, trivial⟩⟩ <;> repeat' (first | exact trivial | exact rfl | exact List.Perm.refl _ | (intro i hi; exact ⟨rfl, rfl⟩) | refine And.intro ?_ ?_)
  · have h : ¬ ((c : Nat) : Int) < M1 := of_decide_eq_false h
    obtain rfl : c = 2 ^ n := by omega
    have hl := filt_len (p := E) (c := 2 ^ n)
    have hlt : ∀ i, i < ((List.range (2 ^ n)).filter E).length → ((List.range (2 ^ n)).filter E).getD i 0 < 256 := fun i hi => by
      have := filt_lt hi
      omega
    refine fb_call (g.ok _ _ _) cont_std rfl rfl rfl rfl ⟨b68, ?_⟩
    refine callS_at [.sl 0, .agg [.fn (.func 69) [] []]] (luH ((List.range (2 ^ n)).filter E).length fun i => ((List.range (2 ^ n)).filter E).getD i 0) 1 (fun j => 39) (by repeat' (first | exact trivial | exact rfl | refine And.intro ?_ ?_)) rfl (by repeat' (first | exact trivial | exact rfl | (intro i hi; exact ⟨rfl, rfl⟩) | refine And.intro ?_ ?_)) rfl rfl ?_
    refine s68 (by omega) hlt ?_
    refine ⟨rfl, (by repeat' (first | exact trivial | exact rfl | refine And.intro ?_ ?_)), (by repeat' (first | exact trivial | exact rfl | (intro i hi; exact rfl) | refine And.intro ?_ ?_)), ?_⟩
    unfold lstL
    have hLs := lstN_lt hlt
    generalize (List.range (2 ^ n)).filter E = R at hLs
    refine Br.mk (fun h2 => ?_) (fun h2 => ?_)
    · have h2 : (!decide ((0 : Int) < ((R.length : Nat) : Int))) = true := h2
      rw [Bool.not_eq_true', decide_eq_false_iff_not] at h2
      rw [if_neg (show ¬ 0 < R.length by omega), if_neg (by decide)]
      refine ⟨.inl rfl, end_noid ⟨⟨rfl, rfl⟩, ⟨rfl, rfl⟩, trivial⟩ rfl rfl (by repeat' (first | exact trivial | exact rfl | (intro i hi; exact ⟨rfl, rfl⟩) | refine And.intro ?_ ?_))⟩
    · have h2 : (!decide ((0 : Int) < ((R.length : Nat) : Int))) = false := h2
      rw [Bool.not_eq_false', decide_eq_true_eq] at h2
      rw [if_pos (show 0 < R.length by omega), if_pos rfl]
      refine Chk.mk (show InK .i64 ((lstN (fun i => R.getD i 0) R.length : Nat) : Int) from ⟨by omega, by omega⟩) ?_
      refine ⟨.inl rfl, end_noid ⟨⟨rfl, rfl⟩, ⟨rfl, rfl⟩, trivial⟩ rfl rfl (by repeat' (first | exact trivial | exact rfl | (intro i hi; exact ⟨rfl, rfl⟩) | refine And.intro ?_ ?_))⟩
theorem g29 {l : List (Nat × Ct)} (g : Good P T l) : Good P T ((29, c29) :: l) := g.add (k29 g) c29_mono (body_of Try.func29 (c := code Try.f29) rfl (by decide))
end Go.X.Ps
end
