/- Contracts of functions of the document: Lap, Ask; the walk of GradeFinds. -/
import Derived.Test.YtafggknckgmkaaaNZ
import Derived.Test.YtafggknckgmkaaaNC
import Derived.Test.YtafggknckgmkaaaMI
import Derived.Test.YtafggknckgmkaaaNO
import Derived.Test.YtafggknckgmkaaaND
import Derived.Test.YtafggknckgmkaaaOA

section
set_option linter.unusedVariables false
set_option linter.unusedSimpArgs false
set_option linter.unusedSectionVars false
/- Grade: Lapped and Lap of the document. -/
set_option linter.unusedVariables false
set_option linter.unusedSimpArgs false
set_option maxRecDepth 10000
set_option maxHeartbeats 4000000
namespace Go.X.Gr
open Go Go.Proofs Go.X

def lpI (f : Nat → Int) (v : Int) (i : Nat) : Int := min (f i) v
def c76 : Ct := fun fr args H => match args with
  | [.sl i, .si .i64 v] => (match sliceOf 1 H i with
    | some (n, get) => some ⟨some (Ints n get ∧ 1 ≤ n ∧ n ≤ 1000), none, .sl fr, [(fr, .vec 3 1 n fun j => iC (lpI (iAt get) v j))]⟩
    | none => none)
  | _ => none
theorem c76_mono : CtMono c76 := by
  intro fr args H H' out hH h
  unfold c76 at h ⊢
  split at h
  · split at h
    · rename_i e
      simp only [sliceOf_mono hH e]
      exact h
    · cases h
  · cases h
theorem k76 {l : List (Nat × Ct)} (g0 : Good P T l) : COk P 76 c76 := by
  have g := good0
  refine cok (C := tabC _) g.ok Try.func76 (c := code Try.f76) rfl fun fr args H out h hp => ?_
  unfold c76 at h
  split at h
  case h_2 => cases h
  rename_i id v
  split at h
  case h_2 => cases h
  rename_i n get e1
  cases h
  obtain ⟨hs, hn1, hn⟩ : Ints n get ∧ 1 ≤ n ∧ n ≤ 1000 := hp
  refine ⟨[(id, .ro 1 n fun i => iC (iAt get i))], [.sl 0, .si .i64 v], [(0, .ro 1 n fun i => iC (iAt get i))], 1, [2], rfl, rfl, Nat.le_of_ble_eq_true rfl, ints_hand e1 hs, rfl, rfl, fun G hG => ?_⟩
  clear hs
  generalize iAt get = f
  refine nil_slot 5 3 1 (fun j => iC (lpI f v j)) rfl ?_
  refine loop_okR (g.ok _ _ _) 1 (fun x : {i : Nat // i ≤ n} => ⟨[(0, ⟨[], .sl 0⟩), (1, ⟨[], .si .i64 v⟩), (5, ⟨[], .sl 2⟩), (6, ⟨[], .si .i64 x.1⟩)], [], [(2, .vec 3 1 x.1 fun j => iC (lpI f v j)), (0, .ro 1 n fun i => iC (f i))], 3, []⟩) (fun x => n - x.1) hG ⟨0, Nat.zero_le _⟩ (fun j => match j with | 2 => 1 | j => j) ?_ ?_
  · refine ⟨?_, ?_, rfl, rfl, rfl, rfl, trivial⟩ <;> repeat' (first | exact trivial | exact rfl | (intro i hi; exact ⟨rfl, rfl⟩) | (intro v m g h; exact h) | refine And.intro ?_ ?_)
    all_goals (intro i hi; exact absurd hi (Nat.not_lt_zero _))
  rintro ⟨i, hi⟩
  refine Br.mk (fun h => ?_) (fun h => ?_)
  · have h : (i : Int) < (n : Int) := of_decide_eq_true h
    refine Chk.mk (show (0 : Int) ≤ (i : Int) ∧ (i : Int) < (n : Int) from ⟨by omega, by omega⟩) ?_
    refine fb_append (Te := 0) 2 3 i 1 _ _ (fun j => iC (lpI f v j)) (g.ok _ _ _) cont_std rfl rfl rfl rfl rfl rfl rfl rfl rfl rfl rfl rfl (by decide) (by decide) rfl rfl rfl rfl (by omega) ?_ ?_
    · intro j hj
      split
      · rfl
      · have e1 : j - i = 0 := by omega
        have e2 : j = i := by omega
        rw [e1, e2]; rfl
    refine Chk.mk (show InK .i64 ((i : Int) + 1) from ⟨by omega, by omega⟩) ⟨⟨i + 1, by omega⟩, (fun j => match j with | 2 => 4 | j => j), ?_, by show n - (i + 1) < n - i; omega⟩
    refine ⟨?_, ?_, rfl, rfl, rfl, rfl, trivial⟩ <;> repeat' (first | exact trivial | exact rfl | (intro i hi; exact ⟨rfl, rfl⟩) | (intro v m g h; exact h) | refine And.intro ?_ ?_)
  · have h : ¬ (i : Int) < (n : Int) := of_decide_eq_false h
    obtain rfl : i = n := by omega
    refine ⟨.inl rfl, ⟨rfl, rfl, ?_, ?_, rfl, rfl⟩⟩ <;> repeat' (first | exact trivial | exact rfl | (intro i hi; exact ⟨rfl, rfl⟩) | refine And.intro ?_ ?_)
theorem g76 {l : List (Nat × Ct)} (g : Good P T l) : Good P T ((76, c76) :: l) := g.add (k76 g) c76_mono (body_of Try.func76 (c := code Try.f76) rfl (by decide))

def lpB (b : B5) (v : Int) : B5 := (min b.1 v, min b.2.1 v, min b.2.2.1 v, min b.2.2.2.1 v, min b.2.2.2.2 v)
theorem lpI_eq {b : B5} {v : Int} : lpI (b5N b) v = b5N (lpB b v) := by
  funext i
  unfold lpI b5N lpB
  split <;> rfl
theorem lp_face {b : B5} {v : Int} : fcD (lpB b v) = lk5 (lkL v) b := fcD_eq
/-- All blocks of a list keep a limit, lapped to a level. -/
theorem lap_all {g : Pts} {L : List En} {v : Int} {l : Int × Int} (hL : L.map (·.2.2) = blk g) : lapB g v l = true ↔ ∀ i, i < L.length → keepsP (fcD (lpB (L.getD i eD).2.2 v)) l = true := by
  unfold lapB
  rw [List.all_eq_true]
  constructor
  · intro h i hi
    have hm : OkB g (L.getD i eD).2.2 := mem_blk.1 (hL ▸ List.mem_map.2 ⟨_, en_get hi, rfl⟩)
    obtain ⟨p, hp, e⟩ := List.mem_map.1 ((faces_mem (L := lkL v) (g := g) (f := lk5 (lkL v) (L.getD i eD).2.2)).2 ⟨_, hm, rfl⟩)
    rw [lp_face, ← e]
    exact h p hp
  · intro h p hp
    obtain ⟨b, hb, e⟩ := (faces_mem (L := lkL v) (g := g) (f := p.1)).1 (List.mem_map.2 ⟨p, hp, rfl⟩)
    have := mem_blk.2 hb
    rw [← hL] at this
    obtain ⟨x, hx, rfl⟩ := List.mem_map.1 this
    obtain ⟨i, hi, rfl⟩ := List.mem_iff_getElem.1 hx
    have := h i hi
    rw [lp_face] at this
    rw [← e]
    simpa [List.getD, hi] using this
theorem lapV_none {g : Pts} {l : Int × Int} (hf : ∀ i : Nat, i < 41 → lapB g (20 - (i : Int)) l = false) : lapV g l = none := by
  unfold lapV
  rw [List.find?_range_eq_none]
  intro i hi
  rw [hf i hi]; rfl
/-- All blocks before one keep the limit. -/
def lpA (L : List En) (v : Int) (l : Int × Int) : Nat → Bool
  | 0 => true
  | i + 1 => lpA L v l i && keepsP (fcD (lpB (L.getD i eD).2.2 v)) l
theorem lpA_all {L : List En} {v : Int} {l : Int × Int} : ∀ {n : Nat}, lpA L v l n = true ↔ ∀ i, i < n → keepsP (fcD (lpB (L.getD i eD).2.2 v)) l = true
  | 0 => ⟨fun _ i hi => absurd hi (Nat.not_lt_zero _), fun _ => rfl⟩
  | n + 1 => by
    rw [lpA, Bool.and_eq_true, lpA_all]
    constructor
    · rintro ⟨h1, h2⟩ i hi
      by_cases e : i = n
      · subst e; exact h2
      · exact h1 i (by omega)
    · intro h
      exact ⟨fun i hi => h i (by omega), h n (by omega)⟩

theorem k26 {l : List (Nat × Ct)} (g0 : Good P T l) : COk P 26 c25 := by
  have g := g76 (g75 (g66 good0))
  refine cok (C := tabC _) g.ok Try.func26 (c := code Try.f26) rfl fun fr args H out h hp => ?_
  unfold c25 at h
  split at h
  case h_2 => cases h
  rename_i l q
  obtain ⟨i1, p, n, get, rfl, e1, h⟩ := gradeK_some h
  cases h
  obtain ⟨hs, hn⟩ : Lims n get ∧ n ≤ 1000000 := hp
  have hh : Hand H [(i1, .ro 2 n fun i => liC (liAt get i))] := hand_one e1 (fun i => rfl) (fun i hi => (hs i hi).symm)
  refine ⟨[(i1, .ro 2 n fun i => liC (liAt get i))], [.agg (grA 0 p), .si .i64 q], [(0, .ro 2 n fun i => liC (liAt get i))], 1, [], rfl, rfl, Nat.le_of_ble_eq_true rfl, hh, rfl, rfl, fun G hG => ?_⟩
  unfold limsL
  generalize liAt get = lm
  have hE : limsL n (fun i => liC (lm i)) = (List.range n).map lm := rfl
  refine any_region fol ?_
  refine any_take 2 (g.ok _ _ _) rfl rfl rfl rfl rfl rfl rfl (by kernel_rfl) (by kernel_rfl) (by kernel_rfl) ?_
  refine any_fork [0, 1] ⟨[(12, ⟨[], .agg (grA 0 p)⟩), (15, ⟨[], .sb (isG (limsL n (fun i => liC (lm i))) q)⟩), (2, ⟨[], .sp 1 0⟩), (1, ⟨[], .si .i64 q⟩)], [], [(1, .cells 27 (grA 0 p)), (0, .ro 2 n fun i => liC (lm i))], 2, []⟩ 6 #[true, true, true, true, false, false, false, false, false, false] (g.ok _ _ _) (by kernel_rfl) (by decide) (fun K hK => ?_) ?_
  · have fin : ∀ {st : St}, WeakR 1 (fun j => j) st ⟨[(12, ⟨[], .agg (grA 0 p)⟩), (15, ⟨[], .sb (isG (limsL n (fun i => liC (lm i))) q)⟩), (2, ⟨[], .sp 1 0⟩), (1, ⟨[], .si .i64 q⟩)], [], [(1, .cells 27 (grA 0 p)), (0, .ro 2 n fun i => liC (lm i))], 2, []⟩ → AnyS _ _ 6 #[true, true, true, true, false, false, false, false, false, false] st K := fun hw => any_weaken 1 (fun j => j) hG hw hK
    have hpre : Lims n (fun i => liC (lm i)) ∧ n ≤ 1000000 := ⟨fun i hi => rfl, hn⟩
    refine ⟨?_, ?_, trivial⟩
    · skip
      refine any_step [1] (g.ok _ _ _) (by kernel_rfl) (by decide) ⟨?_, trivial⟩
      refine any_step [3] (g.ok _ _ _) (by kernel_rfl) (by decide) ⟨?_, trivial⟩
      refine Chk.mk hpre ?_
      refine fin ?_
      refine ⟨?_, ?_, rfl, rfl, rfl, rfl, trivial⟩ <;> repeat' (first | exact trivial | exact rfl | (intro i hi; exact ⟨rfl, rfl⟩) | (intro v m g h; exact h) | refine And.intro ?_ ?_)
    · skip
      refine any_step [0, 3] (g.ok _ _ _) (by kernel_rfl) (by decide) ⟨?_, ?_, trivial⟩
      · skip
        refine any_step [3] (g.ok _ _ _) (by kernel_rfl) (by decide) ⟨?_, trivial⟩
        refine Chk.mk hpre ?_
        refine fin ?_
        refine ⟨?_, ?_, rfl, rfl, rfl, rfl, trivial⟩ <;> repeat' (first | exact trivial | exact rfl | (intro i hi; exact ⟨rfl, rfl⟩) | (intro v m g h; exact h) | refine And.intro ?_ ?_)
      · skip
        refine Chk.mk hpre ?_
        refine any_step [0] (g.ok _ _ _) (by kernel_rfl) (by decide) ⟨?_, trivial⟩
        refine fin ?_
        refine ⟨?_, ?_, rfl, rfl, rfl, rfl, trivial⟩ <;> repeat' (first | exact trivial | exact rfl | (intro i hi; exact ⟨rfl, rfl⟩) | (intro v m g h; exact h) | refine And.intro ?_ ?_)
  refine any_step [4] (g.ok _ _ _) (by kernel_rfl) (by decide) ⟨?_, trivial⟩
  refine fb_call (g.ok _ _ _) cont_any rfl rfl rfl rfl ⟨b51, ?_⟩
  rw [hE]
  generalize hq : isG ((List.range n).map lm) q = is
  refine callS_at [.agg (grA 0 p), .sb is] [(0, .ro 2 n fun i => liC (lm i))] 1 (fun j => j) (by repeat' (first | exact trivial | exact rfl | refine And.intro ?_ ?_)) rfl (by repeat' (first | exact trivial | exact rfl | (intro i hi; exact ⟨rfl, rfl⟩) | refine And.intro ?_ ?_)) rfl rfl ?_
  refine s51 hn (fun x hx => ?_)
  have hgd : ∀ q : Nat, q < n → ((List.range n).map lm).getD q (0, 0) = lm q := fun q hq => by simp [List.getD, hq]
  generalize hLm : (List.range n).map lm = Lm at hx hq hE hgd ⊢
  cases x with
  | none =>
    have hx : errT p Lm is ≠ 0 := hx
    have hr : resL p Lm q = (0, errT p Lm is) := by unfold resL; rw [hq, if_neg hx]
    rw [hr]
    refine ⟨rfl, (by repeat' (first | exact trivial | exact rfl | refine And.intro ?_ ?_)), (by repeat' (first | exact trivial | exact rfl | (intro i hi; exact rfl) | refine And.intro ?_ ?_)), ?_⟩
    refine any_take 5 (g.ok _ _ _) rfl rfl rfl rfl rfl rfl rfl (by kernel_rfl) (by kernel_rfl) (by kernel_rfl) ?_
    refine any_take 6 (g.ok _ _ _) rfl rfl rfl rfl rfl rfl rfl (by kernel_rfl) (by kernel_rfl) (by kernel_rfl) ?_
    refine any_take 7 (g.ok _ _ _) rfl rfl rfl rfl rfl rfl rfl (by kernel_rfl) (by kernel_rfl) (by kernel_rfl) ?_
    refine any_take 8 (g.ok _ _ _) rfl rfl rfl rfl rfl rfl rfl (by kernel_rfl) (by kernel_rfl) (by kernel_rfl) ?_
    refine any_take 9 (g.ok _ _ _) rfl rfl rfl rfl rfl rfl rfl (by kernel_rfl) (by kernel_rfl) (by kernel_rfl) ?_
    refine any_done (by kernel_rfl) ?_
    refine Br.mk (fun h => ?_) (fun h => ?_)
    · exact ⟨.inl rfl, end_noid ⟨⟨rfl, rfl⟩, ⟨rfl, rfl⟩, trivial⟩ rfl rfl (by repeat' (first | exact trivial | exact rfl | (intro i hi; exact ⟨rfl, rfl⟩) | refine And.intro ?_ ?_))⟩
    · have h : (!decide (errT p Lm is = 0)) = false := h
      exact (hx (by simpa using h)).elim
  | some L =>
    obtain ⟨hx, hL⟩ : errT p Lm is = 0 ∧ L.map (·.2.2) = blk p := hx
    obtain ⟨he, hok, his, hb⟩ := errT_zero4 hx
    have hlen := en_len hok hL
    have hoks := enOk_of hok hL
    have hg := (gradeOk_b hok).1
    have hqr : 0 ≤ q ∧ q < (n : Int) := by
      rw [his] at hq
      simp only [isG, inB, Bool.and_eq_true, decide_eq_true_eq] at hq
      have : Lm.length = n := by rw [← hLm]; simp
      omega
    obtain ⟨qn, rfl⟩ : ∃ k : Nat, q = (k : Int) := ⟨q.toNat, by omega⟩
    have hr : resL p Lm qn = (match lapV p (lm qn) with
      | some j => (20 - (j : Int), 0)
      | none => (0, 4)) := by
      unfold resL
      rw [hq, if_pos hx, Int.toNat_natCast, hgd qn (by omega)]
      cases lapV p (lm qn) <;> rfl
    rw [hr]
    refine ⟨rfl, (by repeat' (first | exact trivial | exact rfl | refine And.intro ?_ ?_)), (by repeat' (first | exact trivial | exact rfl | (intro i hi; exact rfl) | refine And.intro ?_ ?_)), ?_⟩
    refine any_take 5 (g.ok _ _ _) rfl rfl rfl rfl rfl rfl rfl (by kernel_rfl) (by kernel_rfl) (by kernel_rfl) ?_
    refine any_take 6 (g.ok _ _ _) rfl rfl rfl rfl rfl rfl rfl (by kernel_rfl) (by kernel_rfl) (by kernel_rfl) ?_
    refine any_take 7 (g.ok _ _ _) rfl rfl rfl rfl rfl rfl rfl (by kernel_rfl) (by kernel_rfl) (by kernel_rfl) ?_
    refine any_take 8 (g.ok _ _ _) rfl rfl rfl rfl rfl rfl rfl (by kernel_rfl) (by kernel_rfl) (by kernel_rfl) ?_
    refine any_take 9 (g.ok _ _ _) rfl rfl rfl rfl rfl rfl rfl (by kernel_rfl) (by kernel_rfl) (by kernel_rfl) ?_
    refine any_done (by kernel_rfl) ?_
    refine Br.mk (fun h => (by cases h)) (fun _ => ?_)
    refine loop_okR (g.ok _ _ _) 1 (fun x : {j : Nat // j ≤ 41 ∧ ∀ i : Nat, i < j → lapB p (20 - (i : Int)) (lm qn) = false} => ⟨[(1, ⟨[], .si .i64 qn⟩), (2, ⟨[], .sp 1 0⟩), (6, ⟨[], .sl 2⟩), (8, ⟨[], .si .i64 (20 - (x.1 : Int))⟩)], [], [(3, .fam 1 (famC L)), (2, .vec 73 1 L.length (oG L)), (1, .cells 27 (grA 0 p)), (0, .ro 2 n fun i => liC (lm i))], 4, []⟩) (fun x => 41 - x.1) hG ⟨0, by decide, fun i hi => absurd hi (Nat.not_lt_zero _)⟩ (fun j => j) ?_ ?_
    · refine ⟨?_, ?_, rfl, rfl, rfl, rfl, trivial⟩ <;> repeat' (first | exact trivial | exact rfl | (intro i hi; exact ⟨rfl, rfl⟩) | (intro v m g h; exact h) | refine And.intro ?_ ?_)
    rintro ⟨j, hj, hfj⟩
    refine Br.mk (fun h => ?_) (fun h => ?_)
    · have h : 20 - (j : Int) ≥ -20 := of_decide_eq_true h
      refine loop_okR (g.ok _ _ _) 1 (fun x : {x : Nat × Bool // x.1 ≤ L.length ∧ x.2 = lpA L (20 - (j : Int)) (lm qn) x.1} => ⟨[(1, ⟨[], .si .i64 qn⟩), (2, ⟨[], .sp 1 0⟩), (6, ⟨[], .sl 2⟩), (8, ⟨[], .si .i64 (20 - (j : Int))⟩), (9, ⟨[], .sb x.1.2⟩), (10, ⟨[], .si .i64 x.1.1⟩)], [], [(3, .fam 1 (famC L)), (2, .vec 73 1 L.length (oG L)), (1, .cells 27 (grA 0 p)), (0, .ro 2 n fun i => liC (lm i))], 4, []⟩) (fun x => L.length - x.1.1) hG ⟨(0, true), Nat.zero_le _, rfl⟩ (fun j => j) ?_ ?_
      · refine ⟨?_, ?_, rfl, rfl, rfl, rfl, trivial⟩ <;> repeat' (first | exact trivial | exact rfl | (intro i hi; exact ⟨rfl, rfl⟩) | (intro v m g h; exact h) | refine And.intro ?_ ?_)
      rintro ⟨⟨i, sr⟩, hi, hsr⟩
      have hsr : sr = lpA L (20 - (j : Int)) (lm qn) i := hsr
      have hi : i ≤ L.length := hi
      refine Br.mk (fun h2 => ?_) (fun h2 => ?_)
      · have h2 : (i : Int) < (L.length : Int) := of_decide_eq_true h2
        have hil : i < L.length := by omega
        have hmem := en_get hil
        have hbd : (0 : Int) ≤ (i : Int) ∧ (i : Int) < (L.length : Int) := ⟨by omega, by omega⟩
        have hqd : (0 : Int) ≤ (qn : Int) ∧ (qn : Int) < (n : Int) := ⟨by omega, by omega⟩
        cases sr with
        | false =>
          refine drawn_ok (g.ok _ _ _) fol [0,1,3,7,3,31,63,3,3,387,899,3,3971,8191,16383,32767] [] 16 (by kernel_rfl) ?_
          refine Chk.mk (under_of hqd) (Chk.mk (under_of hbd) ?_)
          refine Chk.mk (show InK .i64 ((i : Int) + 1) from ⟨by omega, by omega⟩) ⟨⟨(i + 1, false), by omega, by show false = lpA L (20 - (j : Int)) (lm qn) (i + 1); rw [lpA, ← hsr]; rfl⟩, (fun j => j), ?_, by show L.length - (i + 1) < L.length - i; omega⟩
          refine ⟨?_, ?_, rfl, rfl, rfl, rfl, trivial⟩ <;> repeat' (first | exact trivial | exact rfl | (intro i hi; exact ⟨rfl, rfl⟩) | (intro v m g h; exact h) | refine And.intro ?_ ?_)
        | true =>
          refine (show SemC _ _ _ _ from ?_)
          refine any_region fol ?_
          refine any_take 0 (g.ok _ _ _) rfl rfl rfl rfl rfl rfl rfl (by kernel_rfl) (by kernel_rfl) (by kernel_rfl) ?_
          refine any_take 1 (g.ok _ _ _) rfl rfl rfl rfl rfl rfl rfl (by kernel_rfl) (by kernel_rfl) (by kernel_rfl) ?_
          refine any_takeG 2 (g.ok _ _ _) rfl rfl rfl rfl ⟨trivial, rfl, rfl⟩ rfl rfl rfl (by kernel_rfl) (by kernel_rfl) (by kernel_rfl) ?_
          refine any_takeG 4 (g.ok _ _ _) rfl rfl rfl rfl ⟨trivial, rfl, rfl⟩ rfl rfl rfl (by kernel_rfl) (by kernel_rfl) (by kernel_rfl) ?_
          refine any_takeG 7 (g.ok _ _ _) rfl rfl rfl rfl ⟨trivial, rfl, rfl⟩ rfl rfl rfl (by kernel_rfl) (by kernel_rfl) (by kernel_rfl) ?_
          refine any_takeG 8 (g.ok _ _ _) rfl rfl rfl rfl ⟨trivial, rfl, rfl⟩ rfl rfl rfl (by kernel_rfl) (by kernel_rfl) (by kernel_rfl) ?_
          refine any_takeG 11 (g.ok _ _ _) rfl rfl rfl rfl ⟨trivial, rfl, rfl⟩ rfl rfl rfl (by kernel_rfl) (by kernel_rfl) (by kernel_rfl) ?_
          have hp76 : Ints 5 (b5G (L.getD i eD).2.2) ∧ 1 ≤ 5 ∧ 5 ≤ 1000 := ⟨ints_b5 (hoks _ hmem), by decide, by decide⟩
          refine any_forkG [3, 9] ⟨[(33, ⟨[], .sb true⟩), (38, ⟨[], .agg [.si .i64 (lm qn).1, .si .i64 (lm qn).2]⟩), (44, ⟨[], .sl 5⟩), (1, ⟨[], .si .i64 qn⟩), (2, ⟨[], .sp 1 0⟩), (6, ⟨[], .sl 2⟩), (8, ⟨[], .si .i64 (20 - (j : Int))⟩), (10, ⟨[], .si .i64 i⟩)], [], [(5, .vec 3 1 5 fun k => iC (lpI (iAt (b5G (L.getD i eD).2.2)) (20 - (j : Int)) k)), (3, .fam 1 (famC L)), (2, .vec 73 1 L.length (oG L)), (1, .cells 27 (grA 0 p)), (0, .ro 2 n fun i => liC (lm i))], 9, []⟩ 3 #[true, true, true, true, true, true, true, true, true, true, true, true, true, false, false, false] (g.ok _ _ _) (by kernel_rfl) (by decide) (fun K hK => ?_) ?_
          · have fin : ∀ {st : St}, WeakR 1 (fun j => j) st ⟨[(33, ⟨[], .sb true⟩), (38, ⟨[], .agg [.si .i64 (lm qn).1, .si .i64 (lm qn).2]⟩), (44, ⟨[], .sl 5⟩), (1, ⟨[], .si .i64 qn⟩), (2, ⟨[], .sp 1 0⟩), (6, ⟨[], .sl 2⟩), (8, ⟨[], .si .i64 (20 - (j : Int))⟩), (10, ⟨[], .si .i64 i⟩)], [], [(5, .vec 3 1 5 fun k => iC (lpI (iAt (b5G (L.getD i eD).2.2)) (20 - (j : Int)) k)), (3, .fam 1 (famC L)), (2, .vec 73 1 L.length (oG L)), (1, .cells 27 (grA 0 p)), (0, .ro 2 n fun i => liC (lm i))], 9, []⟩ → AnyS _ _ 3 #[true, true, true, true, true, true, true, true, true, true, true, true, true, false, false, false] st K := fun hw => any_weaken 1 (fun j => j) hG hw hK
            refine ⟨⟨⟨trivial, rfl, rfl⟩, ?_⟩, ⟨⟨trivial, rfl, rfl⟩, ?_⟩, trivial⟩
            · skip
              refine any_stepG [5, 9] (g.ok _ _ _) (by kernel_rfl) (by decide) ⟨⟨⟨trivial, rfl, rfl⟩, ?_⟩, ⟨⟨trivial, rfl, rfl⟩, ?_⟩, trivial⟩
              · skip
                refine Chk.mk hqd ?_
                refine any_stepG [6, 9] (g.ok _ _ _) (by kernel_rfl) (by decide) ⟨⟨⟨trivial, rfl, rfl⟩, ?_⟩, ⟨⟨trivial, rfl, rfl⟩, ?_⟩, trivial⟩
                · skip
                  refine any_stepG [9] (g.ok _ _ _) (by kernel_rfl) (by decide) ⟨⟨⟨trivial, rfl, rfl⟩, ?_⟩, trivial⟩
                  refine Chk.mk hbd ?_
                  refine any_stepG [10] (g.ok _ _ _) (by kernel_rfl) (by decide) ⟨⟨⟨trivial, rfl, rfl⟩, ?_⟩, trivial⟩
                  refine any_stepG [12] (g.ok _ _ _) (by kernel_rfl) (by decide) ⟨⟨⟨trivial, rfl, rfl⟩, ?_⟩, trivial⟩
                  refine fb_focus 3 42 5 (L.getD i eD).2.1 (L.getD i eD).1 (b5G (L.getD i eD).2.2) (.sl 4) (g.ok _ _ _) cont_any rfl ⟨⟨_, hmem, rfl, rfl, rfl⟩, rfl, ?_⟩
                  refine Chk.mk hp76 ?_
                  refine fin ?_
                  refine ⟨?_, ?_, rfl, rfl, rfl, rfl, trivial⟩ <;> repeat' (first | exact trivial | exact rfl | (intro i hi; exact ⟨rfl, rfl⟩) | (intro v m g h; exact h) | refine And.intro ?_ ?_)
                · skip
                  refine Chk.mk hbd ?_
                  refine any_stepG [6, 10] (g.ok _ _ _) (by kernel_rfl) (by decide) ⟨⟨⟨trivial, rfl, rfl⟩, ?_⟩, ⟨⟨trivial, rfl, rfl⟩, ?_⟩, trivial⟩
                  · skip
                    refine any_stepG [10] (g.ok _ _ _) (by kernel_rfl) (by decide) ⟨⟨⟨trivial, rfl, rfl⟩, ?_⟩, trivial⟩
                    refine any_stepG [12] (g.ok _ _ _) (by kernel_rfl) (by decide) ⟨⟨⟨trivial, rfl, rfl⟩, ?_⟩, trivial⟩
                    refine fb_focus 3 42 5 (L.getD i eD).2.1 (L.getD i eD).1 (b5G (L.getD i eD).2.2) (.sl 4) (g.ok _ _ _) cont_any rfl ⟨⟨_, hmem, rfl, rfl, rfl⟩, rfl, ?_⟩
                    refine Chk.mk hp76 ?_
                    refine fin ?_
                    refine ⟨?_, ?_, rfl, rfl, rfl, rfl, trivial⟩ <;> repeat' (first | exact trivial | exact rfl | (intro i hi; exact ⟨rfl, rfl⟩) | (intro v m g h; exact h) | refine And.intro ?_ ?_)
                  · skip
                    refine any_stepG [6, 12] (g.ok _ _ _) (by kernel_rfl) (by decide) ⟨⟨⟨trivial, rfl, rfl⟩, ?_⟩, ⟨⟨trivial, rfl, rfl⟩, ?_⟩, trivial⟩
                    · skip
                      refine any_stepG [12] (g.ok _ _ _) (by kernel_rfl) (by decide) ⟨⟨⟨trivial, rfl, rfl⟩, ?_⟩, trivial⟩
                      refine fb_focus 3 42 5 (L.getD i eD).2.1 (L.getD i eD).1 (b5G (L.getD i eD).2.2) (.sl 4) (g.ok _ _ _) cont_any rfl ⟨⟨_, hmem, rfl, rfl, rfl⟩, rfl, ?_⟩
                      refine Chk.mk hp76 ?_
                      refine fin ?_
                      refine ⟨?_, ?_, rfl, rfl, rfl, rfl, trivial⟩ <;> repeat' (first | exact trivial | exact rfl | (intro i hi; exact ⟨rfl, rfl⟩) | (intro v m g h; exact h) | refine And.intro ?_ ?_)
                    · skip
                      refine fb_focus 3 42 5 (L.getD i eD).2.1 (L.getD i eD).1 (b5G (L.getD i eD).2.2) (.sl 4) (g.ok _ _ _) cont_any rfl ⟨⟨_, hmem, rfl, rfl, rfl⟩, rfl, ?_⟩
                      refine Chk.mk hp76 ?_
                      refine any_stepG [6] (g.ok _ _ _) (by kernel_rfl) (by decide) ⟨⟨⟨trivial, rfl, rfl⟩, ?_⟩, trivial⟩
                      refine fin ?_
                      refine ⟨?_, ?_, rfl, rfl, rfl, rfl, trivial⟩ <;> repeat' (first | exact trivial | exact rfl | (intro i hi; exact ⟨rfl, rfl⟩) | (intro v m g h; exact h) | refine And.intro ?_ ?_)
              · skip
                refine Chk.mk hbd ?_
                refine any_stepG [5, 10] (g.ok _ _ _) (by kernel_rfl) (by decide) ⟨⟨⟨trivial, rfl, rfl⟩, ?_⟩, ⟨⟨trivial, rfl, rfl⟩, ?_⟩, trivial⟩
                · skip
                  refine Chk.mk hqd ?_
                  refine any_stepG [6, 10] (g.ok _ _ _) (by kernel_rfl) (by decide) ⟨⟨⟨trivial, rfl, rfl⟩, ?_⟩, ⟨⟨trivial, rfl, rfl⟩, ?_⟩, trivial⟩
                  · skip
                    refine any_stepG [10] (g.ok _ _ _) (by kernel_rfl) (by decide) ⟨⟨⟨trivial, rfl, rfl⟩, ?_⟩, trivial⟩
                    refine any_stepG [12] (g.ok _ _ _) (by kernel_rfl) (by decide) ⟨⟨⟨trivial, rfl, rfl⟩, ?_⟩, trivial⟩
                    refine fb_focus 3 42 5 (L.getD i eD).2.1 (L.getD i eD).1 (b5G (L.getD i eD).2.2) (.sl 4) (g.ok _ _ _) cont_any rfl ⟨⟨_, hmem, rfl, rfl, rfl⟩, rfl, ?_⟩
                    refine Chk.mk hp76 ?_
                    refine fin ?_
                    refine ⟨?_, ?_, rfl, rfl, rfl, rfl, trivial⟩ <;> repeat' (first | exact trivial | exact rfl | (intro i hi; exact ⟨rfl, rfl⟩) | (intro v m g h; exact h) | refine And.intro ?_ ?_)
                  · skip
                    refine any_stepG [6, 12] (g.ok _ _ _) (by kernel_rfl) (by decide) ⟨⟨⟨trivial, rfl, rfl⟩, ?_⟩, ⟨⟨trivial, rfl, rfl⟩, ?_⟩, trivial⟩
                    · skip
                      refine any_stepG [12] (g.ok _ _ _) (by kernel_rfl) (by decide) ⟨⟨⟨trivial, rfl, rfl⟩, ?_⟩, trivial⟩
                      refine fb_focus 3 42 5 (L.getD i eD).2.1 (L.getD i eD).1 (b5G (L.getD i eD).2.2) (.sl 4) (g.ok _ _ _) cont_any rfl ⟨⟨_, hmem, rfl, rfl, rfl⟩, rfl, ?_⟩
                      refine Chk.mk hp76 ?_
                      refine fin ?_
                      refine ⟨?_, ?_, rfl, rfl, rfl, rfl, trivial⟩ <;> repeat' (first | exact trivial | exact rfl | (intro i hi; exact ⟨rfl, rfl⟩) | (intro v m g h; exact h) | refine And.intro ?_ ?_)
                    · skip
                      refine fb_focus 3 42 5 (L.getD i eD).2.1 (L.getD i eD).1 (b5G (L.getD i eD).2.2) (.sl 4) (g.ok _ _ _) cont_any rfl ⟨⟨_, hmem, rfl, rfl, rfl⟩, rfl, ?_⟩
                      refine Chk.mk hp76 ?_
                      refine any_stepG [6] (g.ok _ _ _) (by kernel_rfl) (by decide) ⟨⟨⟨trivial, rfl, rfl⟩, ?_⟩, trivial⟩
                      refine fin ?_
                      refine ⟨?_, ?_, rfl, rfl, rfl, rfl, trivial⟩ <;> repeat' (first | exact trivial | exact rfl | (intro i hi; exact ⟨rfl, rfl⟩) | (intro v m g h; exact h) | refine And.intro ?_ ?_)
                · skip
                  refine any_stepG [5, 12] (g.ok _ _ _) (by kernel_rfl) (by decide) ⟨⟨⟨trivial, rfl, rfl⟩, ?_⟩, ⟨⟨trivial, rfl, rfl⟩, ?_⟩, trivial⟩
                  · skip
                    refine Chk.mk hqd ?_
                    refine any_stepG [6, 12] (g.ok _ _ _) (by kernel_rfl) (by decide) ⟨⟨⟨trivial, rfl, rfl⟩, ?_⟩, ⟨⟨trivial, rfl, rfl⟩, ?_⟩, trivial⟩
                    · skip
                      refine any_stepG [12] (g.ok _ _ _) (by kernel_rfl) (by decide) ⟨⟨⟨trivial, rfl, rfl⟩, ?_⟩, trivial⟩
                      refine fb_focus 3 42 5 (L.getD i eD).2.1 (L.getD i eD).1 (b5G (L.getD i eD).2.2) (.sl 4) (g.ok _ _ _) cont_any rfl ⟨⟨_, hmem, rfl, rfl, rfl⟩, rfl, ?_⟩
                      refine Chk.mk hp76 ?_
                      refine fin ?_
                      refine ⟨?_, ?_, rfl, rfl, rfl, rfl, trivial⟩ <;> repeat' (first | exact trivial | exact rfl | (intro i hi; exact ⟨rfl, rfl⟩) | (intro v m g h; exact h) | refine And.intro ?_ ?_)
                    · skip
                      refine fb_focus 3 42 5 (L.getD i eD).2.1 (L.getD i eD).1 (b5G (L.getD i eD).2.2) (.sl 4) (g.ok _ _ _) cont_any rfl ⟨⟨_, hmem, rfl, rfl, rfl⟩, rfl, ?_⟩
                      refine Chk.mk hp76 ?_
                      refine any_stepG [6] (g.ok _ _ _) (by kernel_rfl) (by decide) ⟨⟨⟨trivial, rfl, rfl⟩, ?_⟩, trivial⟩
                      refine fin ?_
                      refine ⟨?_, ?_, rfl, rfl, rfl, rfl, trivial⟩ <;> repeat' (first | exact trivial | exact rfl | (intro i hi; exact ⟨rfl, rfl⟩) | (intro v m g h; exact h) | refine And.intro ?_ ?_)
                  · skip
                    refine fb_focus 3 42 5 (L.getD i eD).2.1 (L.getD i eD).1 (b5G (L.getD i eD).2.2) (.sl 4) (g.ok _ _ _) cont_any rfl ⟨⟨_, hmem, rfl, rfl, rfl⟩, rfl, ?_⟩
                    refine Chk.mk hp76 ?_
                    refine any_stepG [5] (g.ok _ _ _) (by kernel_rfl) (by decide) ⟨⟨⟨trivial, rfl, rfl⟩, ?_⟩, trivial⟩
                    refine Chk.mk hqd ?_
                    refine any_stepG [6] (g.ok _ _ _) (by kernel_rfl) (by decide) ⟨⟨⟨trivial, rfl, rfl⟩, ?_⟩, trivial⟩
                    refine fin ?_
                    refine ⟨?_, ?_, rfl, rfl, rfl, rfl, trivial⟩ <;> repeat' (first | exact trivial | exact rfl | (intro i hi; exact ⟨rfl, rfl⟩) | (intro v m g h; exact h) | refine And.intro ?_ ?_)
            · skip
              refine Chk.mk hbd ?_
              refine any_stepG [3, 10] (g.ok _ _ _) (by kernel_rfl) (by decide) ⟨⟨⟨trivial, rfl, rfl⟩, ?_⟩, ⟨⟨trivial, rfl, rfl⟩, ?_⟩, trivial⟩
              · skip
                refine any_stepG [5, 10] (g.ok _ _ _) (by kernel_rfl) (by decide) ⟨⟨⟨trivial, rfl, rfl⟩, ?_⟩, ⟨⟨trivial, rfl, rfl⟩, ?_⟩, trivial⟩
                · skip
                  refine Chk.mk hqd ?_
                  refine any_stepG [6, 10] (g.ok _ _ _) (by kernel_rfl) (by decide) ⟨⟨⟨trivial, rfl, rfl⟩, ?_⟩, ⟨⟨trivial, rfl, rfl⟩, ?_⟩, trivial⟩
                  · skip
                    refine any_stepG [10] (g.ok _ _ _) (by kernel_rfl) (by decide) ⟨⟨⟨trivial, rfl, rfl⟩, ?_⟩, trivial⟩
                    refine any_stepG [12] (g.ok _ _ _) (by kernel_rfl) (by decide) ⟨⟨⟨trivial, rfl, rfl⟩, ?_⟩, trivial⟩
                    refine fb_focus 3 42 5 (L.getD i eD).2.1 (L.getD i eD).1 (b5G (L.getD i eD).2.2) (.sl 4) (g.ok _ _ _) cont_any rfl ⟨⟨_, hmem, rfl, rfl, rfl⟩, rfl, ?_⟩
                    refine Chk.mk hp76 ?_
                    refine fin ?_
                    refine ⟨?_, ?_, rfl, rfl, rfl, rfl, trivial⟩ <;> repeat' (first | exact trivial | exact rfl | (intro i hi; exact ⟨rfl, rfl⟩) | (intro v m g h; exact h) | refine And.intro ?_ ?_)
                  · skip
                    refine any_stepG [6, 12] (g.ok _ _ _) (by kernel_rfl) (by decide) ⟨⟨⟨trivial, rfl, rfl⟩, ?_⟩, ⟨⟨trivial, rfl, rfl⟩, ?_⟩, trivial⟩
                    · skip
                      refine any_stepG [12] (g.ok _ _ _) (by kernel_rfl) (by decide) ⟨⟨⟨trivial, rfl, rfl⟩, ?_⟩, trivial⟩
                      refine fb_focus 3 42 5 (L.getD i eD).2.1 (L.getD i eD).1 (b5G (L.getD i eD).2.2) (.sl 4) (g.ok _ _ _) cont_any rfl ⟨⟨_, hmem, rfl, rfl, rfl⟩, rfl, ?_⟩
                      refine Chk.mk hp76 ?_
                      refine fin ?_
                      refine ⟨?_, ?_, rfl, rfl, rfl, rfl, trivial⟩ <;> repeat' (first | exact trivial | exact rfl | (intro i hi; exact ⟨rfl, rfl⟩) | (intro v m g h; exact h) | refine And.intro ?_ ?_)
                    · skip
                      refine fb_focus 3 42 5 (L.getD i eD).2.1 (L.getD i eD).1 (b5G (L.getD i eD).2.2) (.sl 4) (g.ok _ _ _) cont_any rfl ⟨⟨_, hmem, rfl, rfl, rfl⟩, rfl, ?_⟩
                      refine Chk.mk hp76 ?_
                      refine any_stepG [6] (g.ok _ _ _) (by kernel_rfl) (by decide) ⟨⟨⟨trivial, rfl, rfl⟩, ?_⟩, trivial⟩
                      refine fin ?_
                      refine ⟨?_, ?_, rfl, rfl, rfl, rfl, trivial⟩ <;> repeat' (first | exact trivial | exact rfl | (intro i hi; exact ⟨rfl, rfl⟩) | (intro v m g h; exact h) | refine And.intro ?_ ?_)
                · skip
                  refine any_stepG [5, 12] (g.ok _ _ _) (by kernel_rfl) (by decide) ⟨⟨⟨trivial, rfl, rfl⟩, ?_⟩, ⟨⟨trivial, rfl, rfl⟩, ?_⟩, trivial⟩
                  · skip
                    refine Chk.mk hqd ?_
                    refine any_stepG [6, 12] (g.ok _ _ _) (by kernel_rfl) (by decide) ⟨⟨⟨trivial, rfl, rfl⟩, ?_⟩, ⟨⟨trivial, rfl, rfl⟩, ?_⟩, trivial⟩
                    · skip
                      refine any_stepG [12] (g.ok _ _ _) (by kernel_rfl) (by decide) ⟨⟨⟨trivial, rfl, rfl⟩, ?_⟩, trivial⟩
                      refine fb_focus 3 42 5 (L.getD i eD).2.1 (L.getD i eD).1 (b5G (L.getD i eD).2.2) (.sl 4) (g.ok _ _ _) cont_any rfl ⟨⟨_, hmem, rfl, rfl, rfl⟩, rfl, ?_⟩
                      refine Chk.mk hp76 ?_
                      refine fin ?_
                      refine ⟨?_, ?_, rfl, rfl, rfl, rfl, trivial⟩ <;> repeat' (first | exact trivial | exact rfl | (intro i hi; exact ⟨rfl, rfl⟩) | (intro v m g h; exact h) | refine And.intro ?_ ?_)
                    · skip
                      refine fb_focus 3 42 5 (L.getD i eD).2.1 (L.getD i eD).1 (b5G (L.getD i eD).2.2) (.sl 4) (g.ok _ _ _) cont_any rfl ⟨⟨_, hmem, rfl, rfl, rfl⟩, rfl, ?_⟩
                      refine Chk.mk hp76 ?_
                      refine any_stepG [6] (g.ok _ _ _) (by kernel_rfl) (by decide) ⟨⟨⟨trivial, rfl, rfl⟩, ?_⟩, trivial⟩
                      refine fin ?_
                      refine ⟨?_, ?_, rfl, rfl, rfl, rfl, trivial⟩ <;> repeat' (first | exact trivial | exact rfl | (intro i hi; exact ⟨rfl, rfl⟩) | (intro v m g h; exact h) | refine And.intro ?_ ?_)
                  · skip
                    refine fb_focus 3 42 5 (L.getD i eD).2.1 (L.getD i eD).1 (b5G (L.getD i eD).2.2) (.sl 4) (g.ok _ _ _) cont_any rfl ⟨⟨_, hmem, rfl, rfl, rfl⟩, rfl, ?_⟩
                    refine Chk.mk hp76 ?_
                    refine any_stepG [5] (g.ok _ _ _) (by kernel_rfl) (by decide) ⟨⟨⟨trivial, rfl, rfl⟩, ?_⟩, trivial⟩
                    refine Chk.mk hqd ?_
                    refine any_stepG [6] (g.ok _ _ _) (by kernel_rfl) (by decide) ⟨⟨⟨trivial, rfl, rfl⟩, ?_⟩, trivial⟩
                    refine fin ?_
                    refine ⟨?_, ?_, rfl, rfl, rfl, rfl, trivial⟩ <;> repeat' (first | exact trivial | exact rfl | (intro i hi; exact ⟨rfl, rfl⟩) | (intro v m g h; exact h) | refine And.intro ?_ ?_)
              · skip
                refine any_stepG [3, 12] (g.ok _ _ _) (by kernel_rfl) (by decide) ⟨⟨⟨trivial, rfl, rfl⟩, ?_⟩, ⟨⟨trivial, rfl, rfl⟩, ?_⟩, trivial⟩
                · skip
                  refine any_stepG [5, 12] (g.ok _ _ _) (by kernel_rfl) (by decide) ⟨⟨⟨trivial, rfl, rfl⟩, ?_⟩, ⟨⟨trivial, rfl, rfl⟩, ?_⟩, trivial⟩
                  · skip
                    refine Chk.mk hqd ?_
                    refine any_stepG [6, 12] (g.ok _ _ _) (by kernel_rfl) (by decide) ⟨⟨⟨trivial, rfl, rfl⟩, ?_⟩, ⟨⟨trivial, rfl, rfl⟩, ?_⟩, trivial⟩
                    · skip
                      refine any_stepG [12] (g.ok _ _ _) (by kernel_rfl) (by decide) ⟨⟨⟨trivial, rfl, rfl⟩, ?_⟩, trivial⟩
                      refine fb_focus 3 42 5 (L.getD i eD).2.1 (L.getD i eD).1 (b5G (L.getD i eD).2.2) (.sl 4) (g.ok _ _ _) cont_any rfl ⟨⟨_, hmem, rfl, rfl, rfl⟩, rfl, ?_⟩
                      refine Chk.mk hp76 ?_
                      refine fin ?_
                      refine ⟨?_, ?_, rfl, rfl, rfl, rfl, trivial⟩ <;> repeat' (first | exact trivial | exact rfl | (intro i hi; exact ⟨rfl, rfl⟩) | (intro v m g h; exact h) | refine And.intro ?_ ?_)
                    · skip
                      refine fb_focus 3 42 5 (L.getD i eD).2.1 (L.getD i eD).1 (b5G (L.getD i eD).2.2) (.sl 4) (g.ok _ _ _) cont_any rfl ⟨⟨_, hmem, rfl, rfl, rfl⟩, rfl, ?_⟩
                      refine Chk.mk hp76 ?_
                      refine any_stepG [6] (g.ok _ _ _) (by kernel_rfl) (by decide) ⟨⟨⟨trivial, rfl, rfl⟩, ?_⟩, trivial⟩
                      refine fin ?_
                      refine ⟨?_, ?_, rfl, rfl, rfl, rfl, trivial⟩ <;> repeat' (first | exact trivial | exact rfl | (intro i hi; exact ⟨rfl, rfl⟩) | (intro v m g h; exact h) | refine And.intro ?_ ?_)
                  · skip
                    refine fb_focus 3 42 5 (L.getD i eD).2.1 (L.getD i eD).1 (b5G (L.getD i eD).2.2) (.sl 4) (g.ok _ _ _) cont_any rfl ⟨⟨_, hmem, rfl, rfl, rfl⟩, rfl, ?_⟩
                    refine Chk.mk hp76 ?_
                    refine any_stepG [5] (g.ok _ _ _) (by kernel_rfl) (by decide) ⟨⟨⟨trivial, rfl, rfl⟩, ?_⟩, trivial⟩
                    refine Chk.mk hqd ?_
                    refine any_stepG [6] (g.ok _ _ _) (by kernel_rfl) (by decide) ⟨⟨⟨trivial, rfl, rfl⟩, ?_⟩, trivial⟩
                    refine fin ?_
                    refine ⟨?_, ?_, rfl, rfl, rfl, rfl, trivial⟩ <;> repeat' (first | exact trivial | exact rfl | (intro i hi; exact ⟨rfl, rfl⟩) | (intro v m g h; exact h) | refine And.intro ?_ ?_)
                · skip
                  refine fb_focus 3 42 5 (L.getD i eD).2.1 (L.getD i eD).1 (b5G (L.getD i eD).2.2) (.sl 4) (g.ok _ _ _) cont_any rfl ⟨⟨_, hmem, rfl, rfl, rfl⟩, rfl, ?_⟩
                  refine Chk.mk hp76 ?_
                  refine any_stepG [3] (g.ok _ _ _) (by kernel_rfl) (by decide) ⟨⟨⟨trivial, rfl, rfl⟩, ?_⟩, trivial⟩
                  refine any_stepG [5] (g.ok _ _ _) (by kernel_rfl) (by decide) ⟨⟨⟨trivial, rfl, rfl⟩, ?_⟩, trivial⟩
                  refine Chk.mk hqd ?_
                  refine any_stepG [6] (g.ok _ _ _) (by kernel_rfl) (by decide) ⟨⟨⟨trivial, rfl, rfl⟩, ?_⟩, trivial⟩
                  refine fin ?_
                  refine ⟨?_, ?_, rfl, rfl, rfl, rfl, trivial⟩ <;> repeat' (first | exact trivial | exact rfl | (intro i hi; exact ⟨rfl, rfl⟩) | (intro v m g h; exact h) | refine And.intro ?_ ?_)
          refine any_stepG [13] (g.ok _ _ _) (by kernel_rfl) (by decide) ⟨⟨⟨trivial, rfl, rfl⟩, ?_⟩, trivial⟩
          have hb76 : okI (lpB (L.getD i eD).2.2 (20 - (j : Int))).1 ∧ okI (lpB (L.getD i eD).2.2 (20 - (j : Int))).2.1 ∧ okI (lpB (L.getD i eD).2.2 (20 - (j : Int))).2.2.1 ∧ okI (lpB (L.getD i eD).2.2 (20 - (j : Int))).2.2.2.1 ∧ okI (lpB (L.getD i eD).2.2 (20 - (j : Int))).2.2.2.2 := by
            have := hoks _ hmem
            unfold okI at this ⊢
            unfold lpB
            simp only
            omega
          have hfe : lpI (iAt (b5G (L.getD i eD).2.2)) (20 - (j : Int)) = b5N (lpB (L.getD i eD).2.2 (20 - (j : Int))) := lpI_eq
          refine Chk.mk (show Ints 5 (fun k => iC (lpI (iAt (b5G (L.getD i eD).2.2)) (20 - (j : Int)) k)) ∧ 5 ≤ 1000 from ⟨fun k hk => ⟨rfl, by
            show sm (lpI (iAt (b5G (L.getD i eD).2.2)) (20 - (j : Int)) k)
            rw [hfe]
            exact b5N_sm hb76⟩, by decide⟩) ?_
          refine any_take 14 (g.ok _ _ _) rfl rfl rfl rfl rfl rfl rfl (by kernel_rfl) (by kernel_rfl) (by kernel_rfl) ?_
          refine any_take 15 (g.ok _ _ _) rfl rfl rfl rfl rfl rfl rfl (by kernel_rfl) (by kernel_rfl) (by kernel_rfl) ?_
          refine any_done (by kernel_rfl) ?_
          have hnext : keepsP (offD (lpI (iAt (b5G (L.getD i eD).2.2)) (20 - (j : Int))) 5, vrD (lpI (iAt (b5G (L.getD i eD).2.2)) (20 - (j : Int))) 5 5) ((lm qn).1, (lm qn).2) = lpA L (20 - (j : Int)) (lm qn) (i + 1) := by
            rw [lpA, ← hsr, Bool.true_and, hfe]
            rfl
          refine Chk.mk (show InK .i64 ((i : Int) + 1) from ⟨by omega, by omega⟩) ⟨⟨(i + 1, lpA L (20 - (j : Int)) (lm qn) (i + 1)), by omega, rfl⟩, (fun j => j), ?_, by show L.length - (i + 1) < L.length - i; omega⟩
          refine ⟨?_, ?_, rfl, rfl, rfl, rfl, trivial⟩ <;> repeat' (first | exact hnext | exact trivial | exact rfl | (intro i hi; exact ⟨rfl, rfl⟩) | (intro v m g h; exact h) | refine And.intro ?_ ?_)
      · have h2 : ¬ (i : Int) < (L.length : Int) := of_decide_eq_false h2
        obtain rfl : i = L.length := by omega
        have hV : lapB p (20 - (j : Int)) (lm qn) = sr := by
          have h5 := lap_all (g := p) (v := 20 - (j : Int)) (l := lm qn) hL
          rw [← lpA_all, ← hsr] at h5
          cases sr <;> cases h6 : lapB p (20 - (j : Int)) (lm qn) <;> simp_all
        refine Br.mk (fun h3 => ?_) (fun h3 => ?_)
        · have h3 : sr = true := h3
          rw [h3] at hV
          rw [lapV_some (by omega) hV hfj]
          exact ⟨.inl rfl, end_noid ⟨⟨rfl, rfl⟩, ⟨rfl, rfl⟩, trivial⟩ rfl rfl (by repeat' (first | exact trivial | exact rfl | (intro i hi; exact ⟨rfl, rfl⟩) | refine And.intro ?_ ?_))⟩
        · have h3 : sr = false := h3
          rw [h3] at hV
          refine Chk.mk (show InK .i64 (20 - (j : Int) - 1) from ⟨by omega, by omega⟩) ⟨⟨j + 1, by omega, fun k hk => ?_⟩, (fun j => j), ?_, by show 41 - (j + 1) < 41 - j; omega⟩
          · by_cases hkj : k = j
            · subst hkj; exact hV
            · exact hfj k (by omega)
          · have hj1 : 20 - (j : Int) - 1 = 20 - ((j + 1 : Nat) : Int) := by omega
            refine ⟨?_, ?_, rfl, rfl, rfl, rfl, trivial⟩ <;> repeat' (first | exact hj1 | exact trivial | exact rfl | (intro i hi; exact ⟨rfl, rfl⟩) | (intro v m g h; exact h) | refine And.intro ?_ ?_)
    · have h : ¬ 20 - (j : Int) ≥ -20 := of_decide_eq_false h
      obtain rfl : j = 41 := by omega
      rw [lapV_none hfj]
      exact ⟨.inl rfl, end_noid ⟨⟨rfl, rfl⟩, ⟨rfl, rfl⟩, trivial⟩ rfl rfl (by repeat' (first | exact trivial | exact rfl | (intro i hi; exact ⟨rfl, rfl⟩) | refine And.intro ?_ ?_))⟩
theorem g26 {l : List (Nat × Ct)} (g : Good P T l) : Good P T ((26, c25) :: l) := g.add (k26 g) c25_mono (body_of Try.func26 (c := code Try.f26) rfl (by decide))

end Go.X.Gr
end

section
set_option linter.unusedVariables false
set_option linter.unusedSimpArgs false
set_option linter.unusedSectionVars false
/- Grade: left and Ask of the document. -/
set_option linter.unusedVariables false
set_option linter.unusedSimpArgs false
set_option maxRecDepth 10000
set_option maxHeartbeats 4000000
namespace Go.X.Gr
open Go Go.Proofs Go.X

theorem setF_lt {Ls : List (Int × Int)} {bs : List B5} (hL : Ls.length ≤ 4) : setF Ls bs < 32 := by
  have : gradesN Ls (bs.map fcD) < 2 ^ 5 := gradesN_lt fun f hf => by
    have := List.findIdx_le_length (p := fun l => keepsP f l) (xs := Ls)
    unfold ofL
    omega
  rw [setF_grades]
  simpa using this
/-- Those truths in which point q is k. -/
def selE (q : Nat) (k : Int) (L : List En) : List En := L.filter fun e => decide (b5N e.2.2 q = k)
theorem selE_snoc {q : Nat} {k : Int} {L : List En} {i : Nat} (hi : i < L.length) : selE q k (L.take (i + 1)) = if b5N (L.getD i eD).2.2 q = k then selE q k (L.take i) ++ [L.getD i eD] else selE q k (L.take i) := by
  have e : L.take (i + 1) = L.take i ++ [L.getD i eD] := by rw [List.take_add_one]; simp [List.getD, hi]
  unfold selE
  rw [e, List.filter_append]
  split
  · rename_i h; simp only [List.filter_cons, h, decide_true, if_true, List.filter_nil]
  · rename_i h; simp only [List.filter_cons, h, decide_false, List.filter_nil, List.append_nil]; simp
def leftK (Ls : List (Int × Int)) (L : List En) (q : Nat) (k : Int) : Nat := sizeN (setF Ls ((selE q k L).map (·.2.2)))
def lfV (f : Int → Nat) : Nat → Nat
  | 0 => 0
  | j + 1 => max (lfV f j) (f (-20 + (j : Int)))
theorem lfV_ge {f : Int → Nat} : ∀ {n j : Nat}, j < n → f (-20 + (j : Int)) ≤ lfV f n
  | n + 1, j, h => by
    have e : lfV f (n + 1) = max (lfV f n) (f (-20 + (n : Int))) := rfl
    rw [e]
    by_cases hj : j = n
    · subst hj; omega
    · have := lfV_ge (f := f) (n := n) (j := j) (by omega); omega
theorem lfV_le {f : Int → Nat} {c : Nat} : ∀ {n : Nat}, (∀ j, j < n → f (-20 + (j : Int)) ≤ c) → lfV f n ≤ c
  | 0, _ => Nat.zero_le _
  | n + 1, h => by
    have e : lfV f (n + 1) = max (lfV f n) (f (-20 + (n : Int))) := rfl
    rw [e]
    have h1 := lfV_le (f := f) (c := c) (n := n) fun j hj => h j (by omega)
    have h2 := h n (by omega)
    omega
theorem b82 : Body P 82 := body_of Try.func82 (c := code Try.f82) rfl (by decide)
theorem s82 {p : Pts} {n : Nat} {l : Nat → Int × Int} (hn : n ≤ 4) {L : List En} (hL : L.length ≤ 16807) (hok : enOk L) {q : Nat} (hq : q < 5) {Rv : SV → List (Nat × HB) → Nat → Prop} {Rp : List PanicEntry → List (Nat × HB) → Nat → Prop}
    (hRv : Rv (.si .i64 (lfV (leftK ((List.range n).map l) L q) 41 : Nat)) (tH L n l) 3) : CallS P 82 [.agg (grA 0 p), .sl 1, .si .i64 (q : Int)] (tH L n l) 3 Rv Rp := by
  have g := g38 good0
  refine callS_to g.ok Try.func82 (c := code Try.f82) rfl (Nat.le_of_ble_eq_true rfl) _ _ _ (fun G hG => ?_) hRv
  generalize hLs : (List.range n).map l = Ls
  have hLl : Ls.length ≤ 4 := by rw [← hLs]; simpa using hn
  refine loop_okR (g.ok _ _ _) 3 (fun x : {x : Nat × Nat // x.1 ≤ 41 ∧ x.2 = lfV (leftK Ls L q) x.1 ∧ x.2 ≤ 32} => ⟨[(1, ⟨[], .sl 1⟩), (2, ⟨[], .si .i64 (q : Int)⟩), (3, ⟨[], .sp 3 0⟩), (7, ⟨[], .si .i64 (x.1.2 : Nat)⟩), (8, ⟨[], .si .i64 (-20 + (x.1.1 : Int))⟩)], [], (3, .cells 27 (grA 0 p)) :: tH L n l, 4, []⟩) (fun x => 41 - x.1.1) hG
    ⟨(0, 0), by decide, rfl, by decide⟩ (fun j => j) ?_ ?_
  · refine ⟨?_, ?_, rfl, rfl, rfl, rfl, trivial⟩ <;> repeat' (first | exact trivial | exact rfl | (intro i hi; exact ⟨rfl, rfl⟩) | (intro v m g h; exact h) | refine And.intro ?_ ?_)
  rintro ⟨⟨j, o⟩, hj, ho, ho32⟩
  have hj : j ≤ 41 := hj
  have ho : o = lfV (leftK Ls L q) j := ho
  have ho32 : o ≤ 32 := ho32
  refine Br.mk (fun h => ?_) (fun h => ?_)
  · have h : -20 + (j : Int) ≤ 20 := of_decide_eq_true h
    refine nil_slot 9 73 1 (oG []) rfl ?_
    refine loop_okR (g.ok _ _ _) 3 (fun x : {i : Nat // i ≤ L.length} => ⟨[(1, ⟨[], .sl 1⟩), (2, ⟨[], .si .i64 (q : Int)⟩), (3, ⟨[], .sp 3 0⟩), (7, ⟨[], .si .i64 (o : Nat)⟩), (8, ⟨[], .si .i64 (-20 + (j : Int))⟩), (9, ⟨[], .sl 4⟩), (10, ⟨[], .si .i64 x.1⟩)], [], (4, .vec 73 1 (selE q (-20 + (j : Int)) (L.take x.1)).length (oG (selE q (-20 + (j : Int)) (L.take x.1)))) :: (3, .cells 27 (grA 0 p)) :: tH L n l, 5, []⟩) (fun x => L.length - x.1) hG ⟨0, Nat.zero_le _⟩ (fun j => j) ?_ ?_
    · refine ⟨?_, ?_, rfl, rfl, rfl, rfl, trivial⟩ <;> repeat' (first | exact trivial | exact rfl | (intro i hi; exact ⟨rfl, rfl⟩) | (intro v m g h; exact h) | refine And.intro ?_ ?_)
    rintro ⟨i, hi⟩
    have hsl : (selE q (-20 + (j : Int)) (L.take i)).length ≤ 16807 := by
      have := List.length_filter_le (fun e : En => decide (b5N e.2.2 q = -20 + (j : Int))) (L.take i)
      rw [List.length_take] at this
      unfold selE
      omega
    refine Br.mk (fun h2 => ?_) (fun h2 => ?_)
    · have h2 : (i : Int) < (L.length : Int) := of_decide_eq_true h2
      have hil : i < L.length := by omega
      have hmem := en_get hil
      refine Chk.mk (show (0 : Int) ≤ (i : Int) ∧ (i : Int) < (L.length : Int) from ⟨by omega, by omega⟩) ?_
      refine fb_focus 2 24 5 (L.getD i eD).2.1 (L.getD i eD).1 (b5G (L.getD i eD).2.2) (.sl 5) (g.ok _ _ _) cont_std rfl ⟨⟨_, hmem, rfl, rfl, rfl⟩, rfl, ?_⟩
      refine Chk.mk (show (0 : Int) ≤ (q : Int) ∧ (q : Int) < (5 : Nat) from ⟨by omega, by omega⟩) ?_
      have hsn := selE_snoc (q := q) (k := -20 + (j : Int)) hil
      refine Br.mk (fun h3 => ?_) (fun h3 => ?_)
      · have h3 : b5N (L.getD i eD).2.2 q = -20 + (j : Int) := of_decide_eq_true h3
        rw [if_pos h3] at hsn
        refine Chk.mk (show (0 : Int) ≤ (i : Int) ∧ (i : Int) < (L.length : Int) from ⟨by omega, by omega⟩) ?_
        refine fb_append (Te := 0) 4 6 (selE q (-20 + (j : Int)) (L.take i)).length 1 _ _ (oG (selE q (-20 + (j : Int)) (L.take (i + 1)))) (g.ok _ _ _) cont_std rfl rfl rfl rfl rfl rfl rfl rfl rfl rfl rfl rfl (by decide) (by decide) rfl rfl rfl rfl (by omega) ?_ ?_
        · intro k hk
          rw [hsn, oG_app hk]
          split
          · rfl
          · have e1 : k - (selE q (-20 + (j : Int)) (L.take i)).length = 0 := by omega
            rw [e1]; rfl
        refine Chk.mk (show InK .i64 ((i : Int) + 1) from ⟨by omega, by omega⟩) ⟨⟨i + 1, by omega⟩, (fun j => match j with | 4 => 7 | j => j), ?_, by show L.length - (i + 1) < L.length - i; omega⟩
        refine ⟨?_, ?_, rfl, rfl, rfl, rfl, trivial⟩ <;> repeat' (first | exact trivial | exact rfl | (intro i hi; exact ⟨rfl, rfl⟩) | (intro v m g h; exact h) | refine And.intro ?_ ?_)
        show (selE q (-20 + (j : Int)) (L.take i)).length + 1 = (selE q (-20 + (j : Int)) (L.take (i + 1))).length
        rw [hsn]; simp
      · have h3 : ¬ b5N (L.getD i eD).2.2 q = -20 + (j : Int) := of_decide_eq_false h3
        rw [if_neg h3] at hsn
        refine Chk.mk (show InK .i64 ((i : Int) + 1) from ⟨by omega, by omega⟩) ⟨⟨i + 1, by omega⟩, (fun j => j), ?_, by show L.length - (i + 1) < L.length - i; omega⟩
        refine ⟨?_, ?_, rfl, rfl, rfl, rfl, trivial⟩ <;> repeat' (first | exact trivial | exact rfl | (intro i hi; exact ⟨rfl, rfl⟩) | (intro v m g h; exact h) | refine And.intro ?_ ?_)
        · show (selE q (-20 + (j : Int)) (L.take i)).length = (selE q (-20 + (j : Int)) (L.take (i + 1))).length
          rw [hsn]
        · intro k hk
          refine ⟨?_, rfl⟩
          show oG (selE q (-20 + (j : Int)) (L.take i)) k = oG (selE q (-20 + (j : Int)) (L.take (i + 1))) k
          rw [hsn]
    · have h2 : ¬ (i : Int) < (L.length : Int) := of_decide_eq_false h2
      obtain rfl : i = L.length := by omega
      have hM : selE q (-20 + (j : Int)) (L.take L.length) = selE q (-20 + (j : Int)) L := by rw [List.take_length]
      obtain ⟨M, hMe⟩ : ∃ M, selE q (-20 + (j : Int)) L = M := ⟨_, rfl⟩
      have hsub : ∀ e ∈ M, e ∈ L := fun e he => by
        rw [← hMe] at he
        exact (List.mem_filter.1 he).1
      have hMl : M.length ≤ 16807 := by rw [← hMe, ← hM]; exact hsl
      have hf : leftK Ls L q (-20 + (j : Int)) = sizeN (setF Ls (M.map (·.2.2))) := by unfold leftK; rw [hMe]
      have hs32 := setF_lt (Ls := Ls) (bs := M.map (·.2.2)) hLl
      have hsz := sizeN_le (setF Ls (M.map (·.2.2)))
      rw [hM, hMe]
      refine fb_call (g.ok _ _ _) cont_std rfl rfl rfl rfl ⟨b63, ?_⟩
      refine callS_at [.agg (grA 0 p), .sl 1] (tHC (famC L) M n l) 3 (fun j => match j with | 1 => 4 | j => j) (by repeat' (first | exact trivial | exact rfl | refine And.intro ?_ ?_)) rfl (by repeat' (first | exact trivial | exact rfl | (intro i hi; exact ⟨rfl, rfl⟩) | (intro v m g h; exact h) | refine And.intro ?_ ?_)) rfl rfl ?_
      refine s63 hn (fun e he => ⟨e, hsub e he, rfl, rfl, rfl⟩) (by omega) (fun e he => hok e (hsub e he)) ⟨rfl, ?_, ?_, ?_⟩
      · repeat' (first | exact trivial | exact rfl | refine And.intro ?_ ?_)
      · repeat' (first | exact trivial | exact rfl | (intro i hi; exact rfl) | refine And.intro ?_ ?_)
      rw [hLs]
      have hmx : max (o : Int) ((sizeN ((setF Ls (M.map (·.2.2)) : Nat) : Int).toNat : Nat) : Int) = ((max o (sizeN (setF Ls (M.map (·.2.2)))) : Nat) : Int) := by
        rw [Int.toNat_natCast]
        omega
      have hj1 : -20 + (j : Int) + 1 = -20 + ((j + 1 : Nat) : Int) := by omega
      refine Chk.mk (show ((setF Ls (M.map (·.2.2)) : Nat) : Int) < 4611686018427387904 from by omega) ?_
      refine Chk.mk (show InK .i64 (-20 + (j : Int) + 1) from ⟨by omega, by omega⟩) ⟨⟨(j + 1, max o (sizeN (setF Ls (M.map (·.2.2))))), by omega, by rw [ho, ← hf]; rfl, by show max o _ ≤ 32; omega⟩, (fun j => j), ?_, by show 41 - (j + 1) < 41 - j; omega⟩
      refine ⟨?_, ?_, rfl, rfl, rfl, rfl, trivial⟩ <;> repeat' (first | exact hmx | exact hj1 | exact trivial | exact rfl | (intro i hi; exact ⟨rfl, rfl⟩) | (intro v m g h; exact h) | refine And.intro ?_ ?_)
  · have h : ¬ -20 + (j : Int) ≤ 20 := of_decide_eq_false h
    obtain rfl : j = 41 := by omega
    have hfin : (o : Int) = ((lfV (leftK Ls L q) 41 : Nat) : Int) := by rw [ho]
    refine ⟨(fun j => j), ?_, ?_, rfl, rfl, rfl, rfl⟩ <;> repeat' (first | exact hfin | exact trivial | exact rfl | (intro i hi; exact ⟨rfl, rfl⟩) | (intro v m g h; exact h) | refine And.intro ?_ ?_)
end Go.X.Gr
end

section
set_option linter.unusedVariables false
set_option linter.unusedSimpArgs false
set_option linter.unusedSectionVars false
/- Grade: Ask of the document. -/
set_option linter.unusedVariables false
set_option linter.unusedSimpArgs false
set_option maxRecDepth 10000
set_option maxHeartbeats 4000000
namespace Go.X.Gr
open Go Go.Proofs Go.X

theorem sizeN_zero : sizeN 0 = 0 := by simp [sizeN]
theorem left_ask {p : Pts} {Ls : List (Int × Int)} {L : List En} (hok : gradeOk p Ls = true) (hL : L.map (·.2.2) = blk p) {q : Nat} (hq : q < 5) : lfV (leftK Ls L q) 41 = askV (lims3 Ls) (q : Int) p := by
  have hqi : (0 : Int) ≤ (q : Int) ∧ (q : Int) < 5 := ⟨by omega, by omega⟩
  rw [ask_most hok hqi]
  have hg := (gradeOk_b hok).1
  have hpt : ∀ b : B5, fun5 (ptV (q : Int)) b = b5N b q := fun b => by rw [pt_eq hqi]; rfl
  have hmemE : ∀ b, OkB p b ↔ ∃ e ∈ L, e.2.2 = b := fun b => by
    rw [← mem_blk, ← hL, List.mem_map]
  have hbit : ∀ (k : Int) (j : Nat), (setF Ls ((selE q k L).map (·.2.2))).testBit j = true ↔ ∃ b, OkB p b ∧ b5N b q = k ∧ ofL (lims3 Ls) (lk5 lkP b) = j := fun k j => by
    rw [setF_bit]
    constructor
    · rintro ⟨b, hb, e⟩
      obtain ⟨x, hx, rfl⟩ := List.mem_map.1 hb
      obtain ⟨h1, h2⟩ := List.mem_filter.1 hx
      have hb : OkB p x.2.2 := (hmemE _).2 ⟨x, h1, rfl⟩
      exact ⟨_, hb, of_decide_eq_true h2, by rw [← ofD_eq hg hb]; exact e⟩
    · rintro ⟨b, hb, hk, e⟩
      obtain ⟨x, hx, rfl⟩ := (hmemE b).1 hb
      exact ⟨_, List.mem_map.2 ⟨x, List.mem_filter.2 ⟨hx, decide_eq_true hk⟩, rfl⟩, by rw [ofD_eq hg hb]; exact e⟩
  have hin : ∀ k, loP p q ≤ k → k ≤ hiP p q → leftK Ls L q k = sizeN (resG (atP p q k) Ls true) := fun k h1 h2 => by
    have hk := gradeOk_at hok hqi ⟨h1, h2⟩
    have hs : setF Ls ((selE q k L).map (·.2.2)) = setV (lims3 Ls) (atP p q k) := by
      refine Nat.eq_of_testBit_eq fun j => ?_
      have : (setF Ls ((selE q k L).map (·.2.2))).testBit j = true ↔ (setV (lims3 Ls) (atP p q k)).testBit j = true := by
        rw [hbit, setV_bit]
        constructor
        · rintro ⟨b, hb, hk, e⟩
          exact ⟨b, (okB_at hqi ⟨h1, h2⟩).2 ⟨hb, by rw [hpt]; exact hk⟩, e⟩
        · rintro ⟨b, hb, e⟩
          obtain ⟨g1, g2⟩ := (okB_at hqi ⟨h1, h2⟩).1 hb
          rw [hpt] at g2
          exact ⟨b, g1, g2, e⟩
      cases e1 : (setF Ls ((selE q k L).map (·.2.2))).testBit j <;> cases e2 : (setV (lims3 Ls) (atP p q k)).testBit j <;> simp_all
    unfold leftK
    rw [hs]
    cases hh : hasB (atP p q k) with
    | true => rw [resG_ok hk hh]
    | false =>
      have e0 : setV (lims3 Ls) (atP p q k) = 0 := by
        refine Nat.eq_of_testBit_eq fun j => ?_
        rw [Nat.zero_testBit]
        cases e1 : (setV (lims3 Ls) (atP p q k)).testBit j with
        | false => rfl
        | true =>
          obtain ⟨b, hb, _⟩ := setV_bit.1 e1
          rw [hasB_iff.2 ⟨b, hb⟩] at hh
          cases hh
      have e1 : resG (atP p q k) Ls true = 0 := by
        unfold resG
        split
        · exact e0
        · rfl
      rw [e0, e1]
  have hout : ∀ k, ¬ (loP p q ≤ k ∧ k ≤ hiP p q) → leftK Ls L q k = 0 := fun k h => by
    have e0 : setF Ls ((selE q k L).map (·.2.2)) = 0 := by
      refine Nat.eq_of_testBit_eq fun j => ?_
      rw [Nat.zero_testBit]
      cases e1 : (setF Ls ((selE q k L).map (·.2.2))).testBit j with
      | false => rfl
      | true =>
        obtain ⟨b, hb, hk, _⟩ := (hbit k j).1 e1
        have := okB_pt hqi hb
        rw [hpt, hk] at this
        exact (h this).elim
    unfold leftK
    rw [e0, sizeN_zero]
  have hlh : -20 ≤ loP p q ∧ hiP p q ≤ 20 := by
    have := hg
    unfold ptsB at this
    unfold loP hiP
    split
    · omega
    · split
      · omega
      · split
        · omega
        · split <;> omega
  obtain ⟨_, b2, b3⟩ := foldMax (fun n => sizeN (resG (atP p q n) Ls true)) (rangeI (loP p q) (hiP p q)) 0
  have b2 : ∀ x ∈ rangeI (loP p q) (hiP p q), sizeN (resG (atP p q x) Ls true) ≤ mostI p Ls q := b2
  have b3 : mostI p Ls q = 0 ∨ ∃ x ∈ rangeI (loP p q) (hiP p q), mostI p Ls q = sizeN (resG (atP p q x) Ls true) := b3
  refine Nat.le_antisymm (lfV_le fun j hj => ?_) ?_
  · by_cases h : loP p q ≤ -20 + (j : Int) ∧ -20 + (j : Int) ≤ hiP p q
    · rw [hin _ h.1 h.2]
      exact b2 _ (rangeI_mem.2 h)
    · rw [hout _ h]
      exact Nat.zero_le _
  · rcases b3 with b3 | ⟨k, hk, b3⟩
    · omega
    · have hk := rangeI_mem.1 hk
      rw [b3, ← hin k hk.1 hk.2]
      have := lfV_ge (f := leftK Ls L q) (n := 41) (j := (k + 20).toNat) (by omega)
      rw [show -20 + (((k + 20).toNat : Nat) : Int) = k by omega] at this
      exact this
theorem bestA_nat {A : Nat → Nat} {B : Int → Nat} (h : ∀ q : Nat, q < 5 → B (q : Int) = A q) : ∀ q : Nat, 1 ≤ q → q ≤ 5 → ∃ b : Nat, b < q ∧ bestA B q = ((b : Int), (A b : Int))
  | 1, _, _ => ⟨0, by omega, by
    show stepA (B 0) 0 (bestA B 0) = _
    have e : (B ((0 : Nat) : Int)) = A 0 := h 0 (by omega)
    unfold stepA
    rw [if_pos (.inl rfl)]
    have e : B 0 = A 0 := e
    rw [e]⟩
  | q + 2, _, h5 => by
    obtain ⟨b, hb, e⟩ := bestA_nat h (q + 1) (by omega) (by omega)
    have e2 : bestA B (q + 2) = stepA (B ((q + 1 : Nat) : Int)) (q + 1) (bestA B (q + 1)) := rfl
    rw [e2, e, h (q + 1) (by omega)]
    unfold stepA
    split
    · exact ⟨q + 1, by omega, rfl⟩
    · exact ⟨b, by omega, rfl⟩
theorem k28 {l : List (Nat × Ct)} (g0 : Good P T l) : COk P 28 c27 := by
  have g := good0
  refine cok (C := tabC _) g.ok Try.func28 (c := code Try.f28) rfl fun fr args H out h hp => ?_
  unfold c27 at h
  split at h
  case h_2 => cases h
  rename_i l
  obtain ⟨i1, p, n, get, rfl, e1, h⟩ := gradeK_some h
  cases h
  obtain ⟨hs, hn⟩ : Lims n get ∧ n ≤ 1000000 := hp
  have hh : Hand H [(i1, .ro 2 n fun i => liC (liAt get i))] := hand_one e1 (fun i => rfl) (fun i hi => (hs i hi).symm)
  refine ⟨[(i1, .ro 2 n fun i => liC (liAt get i))], [.agg (grA 0 p)], [(0, .ro 2 n fun i => liC (liAt get i))], 1, [], rfl, rfl, Nat.le_of_ble_eq_true rfl, hh, rfl, rfl, fun G hG => ?_⟩
  unfold limsL
  generalize liAt get = lm
  refine fb_call (g.ok _ _ _) cont_std rfl rfl rfl rfl ⟨b51, ?_⟩
  refine callS_at [.agg (grA 0 p), .sb true] [(0, .ro 2 n fun i => liC (lm i))] 1 (fun j => j) (by repeat' (first | exact trivial | exact rfl | refine And.intro ?_ ?_)) rfl (by repeat' (first | exact trivial | exact rfl | (intro i hi; exact ⟨rfl, rfl⟩) | refine And.intro ?_ ?_)) rfl rfl ?_
  refine s51 hn (fun x hx => ?_)
  generalize hLm : (List.range n).map lm = Lm at hx ⊢
  cases x with
  | none =>
    have hx : errT p Lm true ≠ 0 := hx
    have hr : resA p Lm = (0, 0, errT p Lm true) := by unfold resA; rw [if_neg hx]
    rw [hr]
    refine ⟨rfl, (by repeat' (first | exact trivial | exact rfl | refine And.intro ?_ ?_)), (by repeat' (first | exact trivial | exact rfl | (intro i hi; exact rfl) | refine And.intro ?_ ?_)), ?_⟩
    refine Br.mk (fun h => ?_) (fun h => ?_)
    · exact ⟨.inl rfl, end_noid ⟨⟨rfl, rfl⟩, ⟨rfl, rfl⟩, ⟨rfl, rfl⟩, trivial⟩ rfl rfl (by repeat' (first | exact trivial | exact rfl | (intro i hi; exact ⟨rfl, rfl⟩) | refine And.intro ?_ ?_))⟩
    · have h : (!decide (errT p Lm true = 0)) = false := h
      exact (hx (by simpa using h)).elim
  | some L =>
    obtain ⟨hx, hL⟩ : errT p Lm true = 0 ∧ L.map (·.2.2) = blk p := hx
    obtain ⟨he, hok, _, hb⟩ := errT_zero4 hx
    have hlen := en_len hok hL
    have hoks := enOk_of hok hL
    have hn4 : n ≤ 4 := by
      have := (gradeOk_b hok).2.2
      rw [← hLm, List.length_map, List.length_range] at this
      exact this
    obtain ⟨A, hA0⟩ : ∃ A : Nat → Nat, A = fun (k : Nat) => askV (lims3 Lm) (k : Int) p := ⟨_, rfl⟩
    have hA : ∀ q : Nat, q < 5 → lfV (leftK Lm L q) 41 = A q := fun q hq => by rw [hA0]; exact left_ask hok hL hq
    have hbest := bestA_nat (A := A) (B := fun q => askV (lims3 Lm) q p) (fun q hq => by rw [hA0])
    have hA32 : ∀ q : Nat, q < 5 → A q ≤ 1000 := fun q hq => by
      rw [← hA q hq]
      refine lfV_le fun j hj => ?_
      have h1 := sizeN_le (setF Lm ((selE q (-20 + (j : Int)) L).map (·.2.2)))
      have h2 := setF_lt (Ls := Lm) (bs := (selE q (-20 + (j : Int)) L).map (·.2.2)) (gradeOk_b hok).2.2
      unfold leftK
      omega
    have hr : resA p Lm = ((bestA (fun q => askV (lims3 Lm) q p) 5).1, (bestA (fun q => askV (lims3 Lm) q p) 5).2, 0) := by unfold resA; rw [if_pos hx]
    rw [hr]
    generalize hB : bestA (fun q => askV (lims3 Lm) q p) = B at hbest ⊢
    have hstep : ∀ q, B (q + 1) = stepA (askV (lims3 Lm) (q : Int) p) q (B q) := fun q => by rw [← hB]; rfl
    obtain ⟨r1, hr1⟩ : ∃ r, (B 5).1 = r := ⟨_, rfl⟩
    obtain ⟨r2, hr2⟩ : ∃ r, (B 5).2 = r := ⟨_, rfl⟩
    rw [hr1, hr2]
    refine ⟨rfl, (by repeat' (first | exact trivial | exact rfl | refine And.intro ?_ ?_)), (by repeat' (first | exact trivial | exact rfl | (intro i hi; exact rfl) | refine And.intro ?_ ?_)), ?_⟩
    refine Br.mk (fun h => (by cases h)) (fun _ => ?_)
    refine loop_okR (g.ok _ _ _) 1 (fun x : {x : Nat × Nat // (1 ≤ x.1 ∧ x.1 ≤ 5) ∧ x.2 < x.1 ∧ B x.1 = ((x.2 : Int), (A x.2 : Int))} => ⟨[(1, ⟨[], .sp 1 0⟩), (5, ⟨[], .sl 2⟩), (7, ⟨[], .si .i64 (x.1.2 : Nat)⟩), (8, ⟨[], .si .i64 (x.1.1 : Nat)⟩)], [], [(2, .vec 73 1 L.length (oG L)), (3, .fam 1 (famC L)), (1, .cells 27 (grA 0 p)), (0, .ro 2 n fun i => liC (lm i))], 4, []⟩) (fun x => 5 - x.1.1) hG
      ⟨(1, 0), by decide, by decide, by
        obtain ⟨b, hb, e⟩ := hbest 1 (by decide) (by decide)
        obtain rfl : b = 0 := by omega
        exact e⟩ (fun j => j) ?_ ?_
    · refine ⟨?_, ?_, rfl, rfl, rfl, rfl, trivial⟩ <;> repeat' (first | exact trivial | exact rfl | (intro i hi; exact ⟨rfl, rfl⟩) | (intro v m g h; exact h) | refine And.intro ?_ ?_)
    rintro ⟨⟨q, b⟩, ⟨hq1, hq5⟩, hbq, hBq⟩
    have hq1 : 1 ≤ q := hq1
    have hq5 : q ≤ 5 := hq5
    have hbq : b < q := hbq
    have hBq : B q = ((b : Int), (A b : Int)) := hBq
    refine Br.mk (fun h => ?_) (fun h => ?_)
    · have h : (q : Int) < 5 := of_decide_eq_true h
      refine (show SemC _ _ _ _ from ?_)
      refine any_region fol ?_
      refine any_take 1 (g.ok _ _ _) rfl rfl rfl rfl rfl rfl rfl (by kernel_rfl) (by kernel_rfl) (by kernel_rfl) ?_
      refine any_take 2 (g.ok _ _ _) rfl rfl rfl rfl rfl rfl rfl (by kernel_rfl) (by kernel_rfl) (by kernel_rfl) ?_
      refine any_take 5 (g.ok _ _ _) rfl rfl rfl rfl rfl rfl rfl (by kernel_rfl) (by kernel_rfl) (by kernel_rfl) ?_
      refine any_take 6 (g.ok _ _ _) rfl rfl rfl rfl rfl rfl rfl (by kernel_rfl) (by kernel_rfl) (by kernel_rfl) ?_
      have hq' : q < 5 := by omega
      have hb' : b < 5 := by omega
      refine any_fork [0, 4] ⟨[(21, ⟨[], .agg (grA 0 p)⟩), (24, ⟨[], .si .i64 (A q : Nat)⟩), (25, ⟨[], .agg (grA 0 p)⟩), (1, ⟨[], .sp 1 0⟩), (5, ⟨[], .sl 2⟩), (7, ⟨[], .si .i64 (b : Nat)⟩), (8, ⟨[], .si .i64 (q : Nat)⟩), (22, ⟨[], .sl 2⟩), (26, ⟨[], .sl 2⟩), (27, ⟨[], .si .i64 (b : Nat)⟩)], [], [(2, .vec 73 1 L.length (oG L)), (3, .fam 1 (famC L)), (1, .cells 27 (grA 0 p)), (0, .ro 2 n fun i => liC (lm i))], 4, []⟩ 2 #[true, true, true, true, true, true, true, false, false] (g.ok _ _ _) (by kernel_rfl) (by decide) (fun K hK => ?_) ?_
      · have fin : ∀ {st : St}, WeakR 1 (fun j => j) st ⟨[(21, ⟨[], .agg (grA 0 p)⟩), (24, ⟨[], .si .i64 (A q : Nat)⟩), (25, ⟨[], .agg (grA 0 p)⟩), (1, ⟨[], .sp 1 0⟩), (5, ⟨[], .sl 2⟩), (7, ⟨[], .si .i64 (b : Nat)⟩), (8, ⟨[], .si .i64 (q : Nat)⟩), (22, ⟨[], .sl 2⟩), (26, ⟨[], .sl 2⟩), (27, ⟨[], .si .i64 (b : Nat)⟩)], [], [(2, .vec 73 1 L.length (oG L)), (3, .fam 1 (famC L)), (1, .cells 27 (grA 0 p)), (0, .ro 2 n fun i => liC (lm i))], 4, []⟩ → AnyS _ _ 2 #[true, true, true, true, true, true, true, false, false] st K := fun hw => any_weaken 1 (fun j => j) hG hw hK
        refine ⟨?_, ?_, trivial⟩
        · skip
          refine any_step [3, 4] (g.ok _ _ _) (by kernel_rfl) (by decide) ⟨?_, ?_, trivial⟩
          · skip
            refine fb_call (g.ok _ _ _) cont_any rfl rfl rfl rfl ⟨b82, ?_⟩
            refine callS_at [.agg (grA 0 p), .sl 1, .si .i64 (q : Int)] (tH L n lm) 3 (fun j => match j with | 1 => 2 | 2 => 3 | j => j) (by repeat' (first | exact trivial | exact rfl | refine And.intro ?_ ?_)) rfl (by repeat' (first | exact trivial | exact rfl | (intro i hi; exact ⟨rfl, rfl⟩) | (intro v m g h; exact h) | refine And.intro ?_ ?_)) rfl rfl ?_
            refine s82 hn4 hlen hoks (q := q) (by omega) ⟨rfl, ?_, ?_, ?_⟩
            · repeat' (first | exact trivial | exact rfl | refine And.intro ?_ ?_)
            · repeat' (first | exact trivial | exact rfl | (intro i hi; exact rfl) | refine And.intro ?_ ?_)
            rw [hLm, hA q (by omega)]
            refine any_step [4] (g.ok _ _ _) (by kernel_rfl) (by decide) ⟨?_, trivial⟩
            refine fin ?_
            refine ⟨?_, ?_, rfl, rfl, rfl, rfl, trivial⟩ <;> repeat' (first | exact trivial | exact rfl | (intro i hi; exact ⟨rfl, rfl⟩) | (intro v m g h; exact h) | refine And.intro ?_ ?_)
          · skip
            refine any_step [3] (g.ok _ _ _) (by kernel_rfl) (by decide) ⟨?_, trivial⟩
            refine fb_call (g.ok _ _ _) cont_any rfl rfl rfl rfl ⟨b82, ?_⟩
            refine callS_at [.agg (grA 0 p), .sl 1, .si .i64 (q : Int)] (tH L n lm) 3 (fun j => match j with | 1 => 2 | 2 => 3 | j => j) (by repeat' (first | exact trivial | exact rfl | refine And.intro ?_ ?_)) rfl (by repeat' (first | exact trivial | exact rfl | (intro i hi; exact ⟨rfl, rfl⟩) | (intro v m g h; exact h) | refine And.intro ?_ ?_)) rfl rfl ?_
            refine s82 hn4 hlen hoks (q := q) (by omega) ⟨rfl, ?_, ?_, ?_⟩
            · repeat' (first | exact trivial | exact rfl | refine And.intro ?_ ?_)
            · repeat' (first | exact trivial | exact rfl | (intro i hi; exact rfl) | refine And.intro ?_ ?_)
            rw [hLm, hA q (by omega)]
            refine fin ?_
            refine ⟨?_, ?_, rfl, rfl, rfl, rfl, trivial⟩ <;> repeat' (first | exact trivial | exact rfl | (intro i hi; exact ⟨rfl, rfl⟩) | (intro v m g h; exact h) | refine And.intro ?_ ?_)
        · skip
          refine any_step [0] (g.ok _ _ _) (by kernel_rfl) (by decide) ⟨?_, trivial⟩
          refine any_step [3] (g.ok _ _ _) (by kernel_rfl) (by decide) ⟨?_, trivial⟩
          refine fb_call (g.ok _ _ _) cont_any rfl rfl rfl rfl ⟨b82, ?_⟩
          refine callS_at [.agg (grA 0 p), .sl 1, .si .i64 (q : Int)] (tH L n lm) 3 (fun j => match j with | 1 => 2 | 2 => 3 | j => j) (by repeat' (first | exact trivial | exact rfl | refine And.intro ?_ ?_)) rfl (by repeat' (first | exact trivial | exact rfl | (intro i hi; exact ⟨rfl, rfl⟩) | (intro v m g h; exact h) | refine And.intro ?_ ?_)) rfl rfl ?_
          refine s82 hn4 hlen hoks (q := q) (by omega) ⟨rfl, ?_, ?_, ?_⟩
          · repeat' (first | exact trivial | exact rfl | refine And.intro ?_ ?_)
          · repeat' (first | exact trivial | exact rfl | (intro i hi; exact rfl) | refine And.intro ?_ ?_)
          rw [hLm, hA q (by omega)]
          refine fin ?_
          refine ⟨?_, ?_, rfl, rfl, rfl, rfl, trivial⟩ <;> repeat' (first | exact trivial | exact rfl | (intro i hi; exact ⟨rfl, rfl⟩) | (intro v m g h; exact h) | refine And.intro ?_ ?_)
      refine any_step [7] (g.ok _ _ _) (by kernel_rfl) (by decide) ⟨?_, trivial⟩
      refine fb_call (g.ok _ _ _) cont_any rfl rfl rfl rfl ⟨b82, ?_⟩
      refine callS_at [.agg (grA 0 p), .sl 1, .si .i64 (b : Int)] (tH L n lm) 3 (fun j => match j with | 1 => 2 | 2 => 3 | j => j) (by repeat' (first | exact trivial | exact rfl | refine And.intro ?_ ?_)) rfl (by repeat' (first | exact trivial | exact rfl | (intro i hi; exact ⟨rfl, rfl⟩) | (intro v m g h; exact h) | refine And.intro ?_ ?_)) rfl rfl ?_
      refine s82 hn4 hlen hoks (q := b) (by omega) ⟨rfl, ?_, ?_, ?_⟩
      · repeat' (first | exact trivial | exact rfl | refine And.intro ?_ ?_)
      · repeat' (first | exact trivial | exact rfl | (intro i hi; exact rfl) | refine And.intro ?_ ?_)
      rw [hLm, hA b (by omega)]
      refine any_take 8 (g.ok _ _ _) rfl rfl rfl rfl rfl rfl rfl (by kernel_rfl) (by kernel_rfl) (by kernel_rfl) ?_
      refine any_done (by kernel_rfl) ?_
      have hAq : A q = askV (lims3 Lm) (q : Int) p := by rw [hA0]
      refine Br.mk (fun h2 => ?_) (fun h2 => ?_)
      · have h2 : ((A q : Nat) : Int) < ((A b : Nat) : Int) := of_decide_eq_true h2
        refine Chk.mk (show InK .i64 ((q : Int) + 1) from ⟨by omega, by omega⟩) ⟨⟨(q + 1, q), ⟨by omega, by omega⟩, by omega, ?_⟩, (fun j => j), ?_, by show 5 - (q + 1) < 5 - q; omega⟩
        · show B (q + 1) = ((q : Int), (A q : Int))
          rw [hstep, hBq, ← hAq]
          unfold stepA
          rw [if_pos (.inr h2)]
        · refine ⟨?_, ?_, rfl, rfl, rfl, rfl, trivial⟩ <;> repeat' (first | exact trivial | exact rfl | (intro i hi; exact ⟨rfl, rfl⟩) | (intro v m g h; exact h) | refine And.intro ?_ ?_)
      · have h2 : ¬ ((A q : Nat) : Int) < ((A b : Nat) : Int) := of_decide_eq_false h2
        refine Chk.mk (show InK .i64 ((q : Int) + 1) from ⟨by omega, by omega⟩) ⟨⟨(q + 1, b), ⟨by omega, by omega⟩, by omega, ?_⟩, (fun j => j), ?_, by show 5 - (q + 1) < 5 - q; omega⟩
        · show B (q + 1) = ((b : Int), (A b : Int))
          rw [hstep, hBq, ← hAq]
          unfold stepA
          rw [if_neg]
          rintro (h3 | h3)
          · omega
          · exact h2 h3
        · refine ⟨?_, ?_, rfl, rfl, rfl, rfl, trivial⟩ <;> repeat' (first | exact trivial | exact rfl | (intro i hi; exact ⟨rfl, rfl⟩) | (intro v m g h; exact h) | refine And.intro ?_ ?_)
    · have h : ¬ (q : Int) < 5 := of_decide_eq_false h
      obtain rfl : q = 5 := by omega
      have hb' : b < 5 := by omega
      rw [hBq] at hr1 hr2
      refine fb_call (g.ok _ _ _) cont_std rfl rfl rfl rfl ⟨b82, ?_⟩
      refine callS_at [.agg (grA 0 p), .sl 1, .si .i64 (b : Int)] (tH L n lm) 3 (fun j => match j with | 1 => 2 | 2 => 3 | j => j) (by repeat' (first | exact trivial | exact rfl | refine And.intro ?_ ?_)) rfl (by repeat' (first | exact trivial | exact rfl | (intro i hi; exact ⟨rfl, rfl⟩) | (intro v m g h; exact h) | refine And.intro ?_ ?_)) rfl rfl ?_
      refine s82 hn4 hlen hoks (q := b) (by omega) ⟨rfl, ?_, ?_, ?_⟩
      · repeat' (first | exact trivial | exact rfl | refine And.intro ?_ ?_)
      · repeat' (first | exact trivial | exact rfl | (intro i hi; exact rfl) | refine And.intro ?_ ?_)
      rw [hLm, hA b (by omega)]
      exact ⟨.inl rfl, end_noid ⟨⟨rfl, hr1⟩, ⟨rfl, hr2⟩, ⟨rfl, rfl⟩, trivial⟩ rfl rfl (by repeat' (first | exact trivial | exact rfl | (intro i hi; exact ⟨rfl, rfl⟩) | refine And.intro ?_ ?_))⟩
theorem g28 {l : List (Nat × Ct)} (g : Good P T l) : Good P T ((28, c27) :: l) := g.add (k28 g) c27_mono (body_of Try.func28 (c := code Try.f28) rfl (by decide))
end Go.X.Gr
end

section
set_option linter.unusedVariables false
set_option linter.unusedSimpArgs false
set_option linter.unusedSectionVars false
/- Grade: the walk of GradeFinds. -/
set_option linter.unusedVariables false
set_option linter.unusedSimpArgs false
set_option maxRecDepth 10000
set_option maxHeartbeats 4000000
namespace Go.X.Gr
open Go Go.Proofs Go.X

theorem hv_far' {p : Pts} {n : Nat} {L : List (Int × Int)} {w : Int} (h : hvV p n L w = false) : n ≤ 40 := by
  unfold hvV at h
  split at h
  · have := of_decide_eq_false h; omega
  · rename_i h1
    rw [Bool.not_eq_true, Bool.or_eq_false_iff] at h1
    have := of_decide_eq_false h1.1
    omega
def c4 : Ct := fun fr args H => match args with
  | [.agg l, .si .i64 x] => gradeK H l fun i1 g n get => some ⟨some (Lims n get), none, .sb true, []⟩
  | _ => none
theorem k4 {l : List (Nat × Ct)} (g0 : Good P T l) : COk P 4 c4 := by
  have g := g13 (g14 (g25 (g26 (g27 (g28 (g29 (g30 good0)))))))
  refine cok (C := tabC _) g.ok Try.func4 (c := code Try.f4) rfl fun fr args H out h hp => ?_
  unfold c4 at h
  split at h
  case h_2 => cases h
  rename_i l x
  obtain ⟨i1, p, n, get, rfl, e1, h⟩ := gradeK_some h
  cases h
  have hs : Lims n get := hp
  have hh : Hand H [(i1, .ro 2 n fun i => liC (liAt get i))] := hand_one e1 (fun i => rfl) (fun i hi => (hs i hi).symm)
  refine ⟨[(i1, .ro 2 n fun i => liC (liAt get i))], [.agg (grA 0 p), .si .i64 x], [(0, .ro 2 n fun i => liC (liAt get i))], 1, [], rfl, rfl, Nat.le_of_ble_eq_true rfl, hh, rfl, rfl, fun G hG => ?_⟩
  generalize liAt get = L
  refine Chk.mk (lims_i _ _) ?_
  refine Br.mk (fun h => ?_) (fun h => ?_)
  · exact ⟨.inl rfl, end_noid rfl rfl rfl (by repeat' (first | exact trivial | exact rfl | (intro i hi; exact ⟨rfl, rfl⟩) | refine And.intro ?_ ?_))⟩
  have hn40 : n ≤ 40 := hv_far' h
  have hlim : Lims n (fun i => liC (L i)) ∧ n ≤ 1000000 := ⟨lims_i _ _, by omega⟩
  refine Chk.mk hlim (Chk.mk hlim (Chk.mk hlim (Chk.mk hlim (Chk.mk hlim (Chk.mk hlim ?_)))))
  refine ⟨.inl rfl, end_noid ?_ rfl rfl (by repeat' (first | exact trivial | exact rfl | (intro i hi; exact ⟨rfl, rfl⟩) | refine And.intro ?_ ?_))⟩
  simp [SVeq, resV]
end Go.X.Gr
end
