/- Contracts of functions of the package grade: spans, faces, grades, and whether one is sure. -/
import Derived.Test.YtafggknckgmkaaaNA

section
set_option linter.unusedVariables false
set_option linter.unusedSimpArgs false
set_option linter.unusedSectionVars false
/- Grade: span. -/
set_option linter.unusedVariables false
set_option linter.unusedSimpArgs false
set_option maxRecDepth 10000
set_option maxHeartbeats 4000000
namespace Go.X.Gr
open Go Go.Proofs Go.X

def spanOut (L : Int → Int → Int → Int → Int → Int) (pre : Prop) (g : Pts) : Option COut := some ⟨some pre, some (!bSpan (spanG L g), refP 10), .agg [.si .i64 (vSpan (spanG L g)).1, .si .i64 (vSpan (spanG L g)).2], []⟩
def c49 : Ct := fun fr args H => match args with
  | [.sp bid 0, .fn (.func 55) [] []] => benchK H bid fun g n get m get2 => spanOut varV (Lims n get ∧ Lims m get2 ∧ ptsB g) g
  | [.sp bid 0, .fn (.func 58) [] []] => benchK H bid fun g n get m get2 => spanOut offV (Lims n get ∧ Lims m get2 ∧ ptsB g) g
  | [.sp bid 0, .fn (.func 50) [] [.sp px 0]] => (match H px with
    | some (.cells 3 [.si .i64 q]) => benchK H bid fun g n get m get2 => spanOut (ptV q) ((Lims n get ∧ Lims m get2 ∧ ptsB g) ∧ 0 ≤ q ∧ q < 5) g
    | _ => none)
  | _ => none
theorem c49_mono : CtMono c49 := by
  intro fr args H H' out hH h
  unfold c49 at h ⊢
  split at h
  · exact benchK_mono hH h
  · exact benchK_mono hH h
  · split at h
    · rename_i e
      rw [hH _ _ e]
      exact benchK_mono hH h
    · cases h
  · cases h
def bnP5 (i1 bid i2 px n m : Nat) (g : Pts) (l1 l2 : Nat → Int × Int) (q : Int) : List (Nat × HB) := [(i1, .ro 2 n fun i => liC (l1 i)), (bid, .cells 108 (bnC g)), (i2, .ro 2 m fun i => liC (l2 i)), (px, .cells 3 [.si .i64 q])]
def bnH5 (n m : Nat) (g : Pts) (l1 l2 : Nat → Int × Int) (q : Int) : List (Nat × HB) := [(0, .ro 2 n fun i => liC (l1 i)), (1, .cells 108 (bnC g)), (2, .ro 2 m fun i => liC (l2 i)), (3, .cells 3 [.si .i64 q])]
theorem bnHand5 {H : LH} {bid i1 i2 px n m : Nat} {g : Pts} {get get2 : Nat → List SV} {q : Int} (h1 : H bid = some (.cells 108 (bnX i1 i2 g))) (h2 : sliceOf 2 H i1 = some (n, get)) (h3 : sliceOf 2 H i2 = some (m, get2)) (hs : Lims n get) (hs2 : Lims m get2) (h4 : H px = some (.cells 3 [.si .i64 q])) :
    Hand H (bnP5 i1 bid i2 px n m g (liAt get) (liAt get2) q) where
  ok j c hb h := by
    match j, h with
    | 0, h =>
      simp [bnP5] at h; obtain ⟨rfl, rfl⟩ := h
      exact sliceOf_piece h2 fun i hi => by rw [hs i hi]; rfl
    | 1, h => simp [bnP5] at h; obtain ⟨rfl, rfl⟩ := h; exact h1
    | 2, h =>
      simp [bnP5] at h; obtain ⟨rfl, rfl⟩ := h
      exact sliceOf_piece h3 fun i hi => by rw [hs2 i hi]; rfl
    | 3, h => simp [bnP5] at h; obtain ⟨rfl, rfl⟩ := h; exact h4
    | j + 4, h => simp [bnP5] at h
  ids j c hb h := by
    match j, h with
    | 0, h => simp [bnP5] at h; obtain ⟨rfl, rfl⟩ := h; exact fun i hi => ⟨trivial, trivial, trivial⟩
    | 1, h => simp [bnP5] at h; obtain ⟨rfl, rfl⟩ := h; exact ⟨(by show 0 < 4; decide), trivial, trivial, trivial, trivial, trivial, trivial, trivial, trivial, trivial, trivial, trivial, (by show 2 < 4; decide), trivial⟩
    | 2, h => simp [bnP5] at h; obtain ⟨rfl, rfl⟩ := h; exact fun i hi => ⟨trivial, trivial, trivial⟩
    | 3, h => simp [bnP5] at h; obtain ⟨rfl, rfl⟩ := h; exact ⟨trivial, trivial⟩
    | j + 4, h => simp [bnP5] at h
  inj i j c hb hb' k1 k2 o1 o2 := by
    match i, j, k1, k2 with
    | 0, 0, _, _ => rfl
    | 1, 1, _, _ => rfl
    | 2, 2, _, _ => rfl
    | 3, 3, _, _ => rfl
    | 0, _, k1, _ => simp [bnP5] at k1; obtain ⟨_, rfl⟩ := k1; cases o1
    | 2, _, k1, _ => simp [bnP5] at k1; obtain ⟨_, rfl⟩ := k1; cases o1
    | 1, 0, _, k2 => simp [bnP5] at k2; obtain ⟨_, rfl⟩ := k2; cases o2
    | 3, 0, _, k2 => simp [bnP5] at k2; obtain ⟨_, rfl⟩ := k2; cases o2
    | 1, 2, _, k2 => simp [bnP5] at k2; obtain ⟨_, rfl⟩ := k2; cases o2
    | 3, 2, _, k2 => simp [bnP5] at k2; obtain ⟨_, rfl⟩ := k2; cases o2
    | 1, 3, k1, k2 =>
      simp [bnP5] at k1 k2; obtain ⟨e1, _⟩ := k1; obtain ⟨e2, _⟩ := k2
      rw [e1, ← e2, h4] at h1; cases h1
    | 3, 1, k1, k2 =>
      simp [bnP5] at k1 k2; obtain ⟨e1, _⟩ := k1; obtain ⟨e2, _⟩ := k2
      rw [e2, ← e1, h4] at h1; cases h1
    | i + 4, _, h, _ => simp [bnP5] at h
    | _, j + 4, _, h => simp [bnP5] at h
theorem k49 {l : List (Nat × Ct)} (g0 : Good P T l) : COk P 49 c49 := by
  have g := g74 good0
  refine cokM (C := tabC _) g.ok Try.func49 (c := code Try.f49) rfl fun fr args H out h hp => ?_
  unfold c49 at h
  split at h
  · rename_i bid
    obtain ⟨i1, i2, p, n, get, m, get2, e1, e2, e3, h⟩ := benchK_some h
    cases h
    obtain ⟨hs, hs2, hb⟩ : Lims n get ∧ Lims m get2 ∧ ptsB p := hp
    refine ⟨bnP4 i1 bid i2 n m p (liAt get) (liAt get2), [.sp 1 0, .fn (.func 55) [] []], bnH4 n m p (liAt get) (liAt get2), 4, [], rfl, rfl, Nat.le_of_ble_eq_true rfl, bnHand4 e1 e2 e3 hs hs2, rfl, rfl, fun G hG => ?_⟩
    generalize liAt get = l1
    generalize liAt get2 = l2
    refine fb_call (g.ok _ _ _) cont_std rfl rfl rfl rfl ?_
    refine ⟨b78, ?_⟩
    refine callS_exec g.ok Try.func78 (c := code Try.f78) rfl (Nat.le_of_ble_eq_true rfl) fun G2 hG2 => ?_
    refine (show SemC _ _ _ _ from ?_)
    refine weaken (g.ok _ _ _) (st' := ⟨[(3, ⟨[], .sp 5 0⟩), (4, ⟨[], .sp 6 0⟩), (5, ⟨[], .sp 7 0⟩), (9, ⟨[], .fn (.func 98) [] [.sp 4 0]⟩)], [],
      (7, .cells 4 [.sb false]) :: (6, .cells 24 [.si .i64 0, .si .i64 0]) :: (5, .cells 69 [.fn (.func 55) [] []]) :: (4, .cells 64 [.sp 1 0]) :: bnH4 n m p l1 l2, 20, []⟩) 4 (fun j => match j with | 4 => 7 | 5 => 4 | 6 => 5 | 7 => 6 | j => j) hG ?_ ?_
    · refine ⟨?_, ?_, rfl, rfl, rfl, rfl, trivial⟩
      · repeat' (first | exact trivial | exact rfl | (intro i hi; exact ⟨rfl, rfl⟩) | refine allV_find ?_ | refine And.intro ?_ ?_)
      · repeat' (first | exact trivial | exact rfl | (intro i hi; exact ⟨rfl, rfl⟩) | refine allV_find ?_ | refine And.intro ?_ ?_)
    refine rangeFunc_ok (g.ok _ _ _) rfl rfl rfl b98 ?_
    intro fn
    refine callS_sub (Bx p ++ chSpan (.fn (.func 55) [] []) [] n m l1 l2 fn none) (by repeat' (first | exact trivial | exact rfl | (intro i hi; exact ⟨rfl, rfl⟩) | refine allV_find ?_ | refine And.intro ?_ ?_)) ?_
    refine s98 (f := fSpan varV) (ok := fun _ => True) (CH := chSpan (.fn (.func 55) [] []) [] n m l1 l2 fn) hb (fun c => ?_) (fun c => keys_of rfl) (fun c a0 a1 a2 a3 a4 _ _ => trivial) (fun c a0 a1 a2 a3 a4 _ o0 o1 o2 o3 o4 => ySpan_v c o0 o1 o2 o3 o4) none trivial ?_
    · repeat' (first | exact trivial | exact rfl | (intro i hi; exact ⟨rfl, rfl⟩) | refine allV_find ?_ | refine And.intro ?_ ?_)
    show afterRange _ _ _ _ _ _ (Bx p ++ chSpan (.fn (.func 55) [] []) [] n m l1 l2 fn (spanG varV p)) 25
    generalize spanG varV p = R
    cases R with
    | none =>
      refine Br.mk (fun _ => ?_) (fun h => by cases h)
      exact ⟨rfl, by repeat' (first | exact trivial | exact rfl | (intro i hi; exact ⟨rfl, rfl⟩) | refine allV_find ?_ | refine And.intro ?_ ?_)⟩
    | some x =>
      obtain ⟨lo, hi⟩ := x
      refine Br.mk (fun h => by cases h) (fun _ => ?_)
      exact ⟨.inr ⟨_, rfl⟩, end_noid ⟨⟨rfl, rfl⟩, ⟨rfl, rfl⟩, trivial⟩ rfl rfl (by repeat' (first | exact trivial | exact rfl | (intro i hi; exact ⟨rfl, rfl⟩) | refine allV_find ?_ | refine And.intro ?_ ?_))⟩
  · rename_i bid
    obtain ⟨i1, i2, p, n, get, m, get2, e1, e2, e3, h⟩ := benchK_some h
    cases h
    obtain ⟨hs, hs2, hb⟩ : Lims n get ∧ Lims m get2 ∧ ptsB p := hp
    refine ⟨bnP4 i1 bid i2 n m p (liAt get) (liAt get2), [.sp 1 0, .fn (.func 58) [] []], bnH4 n m p (liAt get) (liAt get2), 4, [], rfl, rfl, Nat.le_of_ble_eq_true rfl, bnHand4 e1 e2 e3 hs hs2, rfl, rfl, fun G hG => ?_⟩
    generalize liAt get = l1
    generalize liAt get2 = l2
    refine fb_call (g.ok _ _ _) cont_std rfl rfl rfl rfl ?_
    refine ⟨b78, ?_⟩
    refine callS_exec g.ok Try.func78 (c := code Try.f78) rfl (Nat.le_of_ble_eq_true rfl) fun G2 hG2 => ?_
    refine (show SemC _ _ _ _ from ?_)
    refine weaken (g.ok _ _ _) (st' := ⟨[(3, ⟨[], .sp 5 0⟩), (4, ⟨[], .sp 6 0⟩), (5, ⟨[], .sp 7 0⟩), (9, ⟨[], .fn (.func 98) [] [.sp 4 0]⟩)], [],
      (7, .cells 4 [.sb false]) :: (6, .cells 24 [.si .i64 0, .si .i64 0]) :: (5, .cells 69 [.fn (.func 58) [] []]) :: (4, .cells 64 [.sp 1 0]) :: bnH4 n m p l1 l2, 20, []⟩) 4 (fun j => match j with | 4 => 7 | 5 => 4 | 6 => 5 | 7 => 6 | j => j) hG ?_ ?_
    · refine ⟨?_, ?_, rfl, rfl, rfl, rfl, trivial⟩
      · repeat' (first | exact trivial | exact rfl | (intro i hi; exact ⟨rfl, rfl⟩) | refine allV_find ?_ | refine And.intro ?_ ?_)
      · repeat' (first | exact trivial | exact rfl | (intro i hi; exact ⟨rfl, rfl⟩) | refine allV_find ?_ | refine And.intro ?_ ?_)
    refine rangeFunc_ok (g.ok _ _ _) rfl rfl rfl b98 ?_
    intro fn
    refine callS_sub (Bx p ++ chSpan (.fn (.func 58) [] []) [] n m l1 l2 fn none) (by repeat' (first | exact trivial | exact rfl | (intro i hi; exact ⟨rfl, rfl⟩) | refine allV_find ?_ | refine And.intro ?_ ?_)) ?_
    refine s98 (f := fSpan offV) (ok := fun _ => True) (CH := chSpan (.fn (.func 58) [] []) [] n m l1 l2 fn) hb (fun c => ?_) (fun c => keys_of rfl) (fun c a0 a1 a2 a3 a4 _ _ => trivial) (fun c a0 a1 a2 a3 a4 _ o0 o1 o2 o3 o4 => ySpan_o c o0 o1 o2 o3 o4) none trivial ?_
    · repeat' (first | exact trivial | exact rfl | (intro i hi; exact ⟨rfl, rfl⟩) | refine allV_find ?_ | refine And.intro ?_ ?_)
    show afterRange _ _ _ _ _ _ (Bx p ++ chSpan (.fn (.func 58) [] []) [] n m l1 l2 fn (spanG offV p)) 25
    generalize spanG offV p = R
    cases R with
    | none =>
      refine Br.mk (fun _ => ?_) (fun h => by cases h)
      exact ⟨rfl, by repeat' (first | exact trivial | exact rfl | (intro i hi; exact ⟨rfl, rfl⟩) | refine allV_find ?_ | refine And.intro ?_ ?_)⟩
    | some x =>
      obtain ⟨lo, hi⟩ := x
      refine Br.mk (fun h => by cases h) (fun _ => ?_)
      exact ⟨.inr ⟨_, rfl⟩, end_noid ⟨⟨rfl, rfl⟩, ⟨rfl, rfl⟩, trivial⟩ rfl rfl (by repeat' (first | exact trivial | exact rfl | (intro i hi; exact ⟨rfl, rfl⟩) | refine allV_find ?_ | refine And.intro ?_ ?_))⟩
  · rename_i bid px
    split at h
    · rename_i q e4
      obtain ⟨i1, i2, p, n, get, m, get2, e1, e2, e3, h⟩ := benchK_some h
      cases h
      obtain ⟨⟨hs, hs2, hb⟩, hq1, hq2⟩ : (Lims n get ∧ Lims m get2 ∧ ptsB p) ∧ 0 ≤ q ∧ q < 5 := hp
      rcases (show q = 0 ∨ q = 1 ∨ q = 2 ∨ q = 3 ∨ q = 4 by omega) with rfl | rfl | rfl | rfl | rfl
      · refine ⟨bnP5 i1 bid i2 px n m p (liAt get) (liAt get2) 0, [.sp 1 0, .fn (.func 50) [] [.sp 3 0]], bnH5 n m p (liAt get) (liAt get2) 0, 4, [], rfl, rfl, Nat.le_of_ble_eq_true rfl, bnHand5 e1 e2 e3 hs hs2 e4, rfl, rfl, fun G hG => ?_⟩
        generalize liAt get = l1
        generalize liAt get2 = l2
        refine fb_call (g.ok _ _ _) cont_std rfl rfl rfl rfl ?_
        refine ⟨b78, ?_⟩
        refine callS_exec g.ok Try.func78 (c := code Try.f78) rfl (Nat.le_of_ble_eq_true rfl) fun G2 hG2 => ?_
        refine (show SemC _ _ _ _ from ?_)
        refine weaken (g.ok _ _ _) (st' := ⟨[(3, ⟨[], .sp 5 0⟩), (4, ⟨[], .sp 6 0⟩), (5, ⟨[], .sp 7 0⟩), (9, ⟨[], .fn (.func 98) [] [.sp 4 0]⟩)], [],
          (7, .cells 4 [.sb false]) :: (6, .cells 24 [.si .i64 0, .si .i64 0]) :: (5, .cells 69 [.fn (.func 50) [] [.sp 3 0]]) :: (4, .cells 64 [.sp 1 0]) :: bnH5 n m p l1 l2 0, 20, []⟩) 4 (fun j => match j with | 4 => 7 | 5 => 4 | 6 => 5 | 7 => 6 | j => j) hG ?_ ?_
        · refine ⟨?_, ?_, rfl, rfl, rfl, rfl, trivial⟩
          · repeat' (first | exact trivial | exact rfl | (intro i hi; exact ⟨rfl, rfl⟩) | refine allV_find ?_ | refine And.intro ?_ ?_)
          · repeat' (first | exact trivial | exact rfl | (intro i hi; exact ⟨rfl, rfl⟩) | refine allV_find ?_ | refine And.intro ?_ ?_)
        refine rangeFunc_ok (g.ok _ _ _) rfl rfl rfl b98 ?_
        intro fn
        refine callS_sub (Bx p ++ chSpan (.fn (.func 50) [] [.sp 3 0]) [(3, .cells 3 [.si .i64 0])] n m l1 l2 fn none) (by repeat' (first | exact trivial | exact rfl | (intro i hi; exact ⟨rfl, rfl⟩) | refine allV_find ?_ | refine And.intro ?_ ?_)) ?_
        refine s98 (f := fSpan (ptV 0)) (ok := fun _ => True) (CH := chSpan (.fn (.func 50) [] [.sp 3 0]) [(3, .cells 3 [.si .i64 0])] n m l1 l2 fn) hb (fun c => ?_) (fun c => keys_of rfl) (fun c a0 a1 a2 a3 a4 _ _ => trivial) (fun c a0 a1 a2 a3 a4 _ o0 o1 o2 o3 o4 => ySpan_p0 c o0 o1 o2 o3 o4) none trivial ?_
        · repeat' (first | exact trivial | exact rfl | (intro i hi; exact ⟨rfl, rfl⟩) | refine allV_find ?_ | refine And.intro ?_ ?_)
        show afterRange _ _ _ _ _ _ (Bx p ++ chSpan (.fn (.func 50) [] [.sp 3 0]) [(3, .cells 3 [.si .i64 0])] n m l1 l2 fn (spanG (ptV 0) p)) 25
        generalize spanG (ptV 0) p = R
        cases R with
        | none =>
          refine Br.mk (fun _ => ?_) (fun h => by cases h)
          exact ⟨rfl, by repeat' (first | exact trivial | exact rfl | (intro i hi; exact ⟨rfl, rfl⟩) | refine allV_find ?_ | refine And.intro ?_ ?_)⟩
        | some x =>
          obtain ⟨lo, hi⟩ := x
          refine Br.mk (fun h => by cases h) (fun _ => ?_)
          exact ⟨.inr ⟨_, rfl⟩, end_noid ⟨⟨rfl, rfl⟩, ⟨rfl, rfl⟩, trivial⟩ rfl rfl (by repeat' (first | exact trivial | exact rfl | (intro i hi; exact ⟨rfl, rfl⟩) | refine allV_find ?_ | refine And.intro ?_ ?_))⟩
      · refine ⟨bnP5 i1 bid i2 px n m p (liAt get) (liAt get2) 1, [.sp 1 0, .fn (.func 50) [] [.sp 3 0]], bnH5 n m p (liAt get) (liAt get2) 1, 4, [], rfl, rfl, Nat.le_of_ble_eq_true rfl, bnHand5 e1 e2 e3 hs hs2 e4, rfl, rfl, fun G hG => ?_⟩
        generalize liAt get = l1
        generalize liAt get2 = l2
        refine fb_call (g.ok _ _ _) cont_std rfl rfl rfl rfl ?_
        refine ⟨b78, ?_⟩
        refine callS_exec g.ok Try.func78 (c := code Try.f78) rfl (Nat.le_of_ble_eq_true rfl) fun G2 hG2 => ?_
        refine (show SemC _ _ _ _ from ?_)
        refine weaken (g.ok _ _ _) (st' := ⟨[(3, ⟨[], .sp 5 0⟩), (4, ⟨[], .sp 6 0⟩), (5, ⟨[], .sp 7 0⟩), (9, ⟨[], .fn (.func 98) [] [.sp 4 0]⟩)], [],
          (7, .cells 4 [.sb false]) :: (6, .cells 24 [.si .i64 0, .si .i64 0]) :: (5, .cells 69 [.fn (.func 50) [] [.sp 3 0]]) :: (4, .cells 64 [.sp 1 0]) :: bnH5 n m p l1 l2 1, 20, []⟩) 4 (fun j => match j with | 4 => 7 | 5 => 4 | 6 => 5 | 7 => 6 | j => j) hG ?_ ?_
        · refine ⟨?_, ?_, rfl, rfl, rfl, rfl, trivial⟩
          · repeat' (first | exact trivial | exact rfl | (intro i hi; exact ⟨rfl, rfl⟩) | refine allV_find ?_ | refine And.intro ?_ ?_)
          · repeat' (first | exact trivial | exact rfl | (intro i hi; exact ⟨rfl, rfl⟩) | refine allV_find ?_ | refine And.intro ?_ ?_)
        refine rangeFunc_ok (g.ok _ _ _) rfl rfl rfl b98 ?_
        intro fn
        refine callS_sub (Bx p ++ chSpan (.fn (.func 50) [] [.sp 3 0]) [(3, .cells 3 [.si .i64 1])] n m l1 l2 fn none) (by repeat' (first | exact trivial | exact rfl | (intro i hi; exact ⟨rfl, rfl⟩) | refine allV_find ?_ | refine And.intro ?_ ?_)) ?_
        refine s98 (f := fSpan (ptV 1)) (ok := fun _ => True) (CH := chSpan (.fn (.func 50) [] [.sp 3 0]) [(3, .cells 3 [.si .i64 1])] n m l1 l2 fn) hb (fun c => ?_) (fun c => keys_of rfl) (fun c a0 a1 a2 a3 a4 _ _ => trivial) (fun c a0 a1 a2 a3 a4 _ o0 o1 o2 o3 o4 => ySpan_p1 c o0 o1 o2 o3 o4) none trivial ?_
        · repeat' (first | exact trivial | exact rfl | (intro i hi; exact ⟨rfl, rfl⟩) | refine allV_find ?_ | refine And.intro ?_ ?_)
        show afterRange _ _ _ _ _ _ (Bx p ++ chSpan (.fn (.func 50) [] [.sp 3 0]) [(3, .cells 3 [.si .i64 1])] n m l1 l2 fn (spanG (ptV 1) p)) 25
        generalize spanG (ptV 1) p = R
        cases R with
        | none =>
          refine Br.mk (fun _ => ?_) (fun h => by cases h)
          exact ⟨rfl, by repeat' (first | exact trivial | exact rfl | (intro i hi; exact ⟨rfl, rfl⟩) | refine allV_find ?_ | refine And.intro ?_ ?_)⟩
        | some x =>
          obtain ⟨lo, hi⟩ := x
          refine Br.mk (fun h => by cases h) (fun _ => ?_)
          exact ⟨.inr ⟨_, rfl⟩, end_noid ⟨⟨rfl, rfl⟩, ⟨rfl, rfl⟩, trivial⟩ rfl rfl (by repeat' (first | exact trivial | exact rfl | (intro i hi; exact ⟨rfl, rfl⟩) | refine allV_find ?_ | refine And.intro ?_ ?_))⟩
      · refine ⟨bnP5 i1 bid i2 px n m p (liAt get) (liAt get2) 2, [.sp 1 0, .fn (.func 50) [] [.sp 3 0]], bnH5 n m p (liAt get) (liAt get2) 2, 4, [], rfl, rfl, Nat.le_of_ble_eq_true rfl, bnHand5 e1 e2 e3 hs hs2 e4, rfl, rfl, fun G hG => ?_⟩
        generalize liAt get = l1
        generalize liAt get2 = l2
        refine fb_call (g.ok _ _ _) cont_std rfl rfl rfl rfl ?_
        refine ⟨b78, ?_⟩
        refine callS_exec g.ok Try.func78 (c := code Try.f78) rfl (Nat.le_of_ble_eq_true rfl) fun G2 hG2 => ?_
        refine (show SemC _ _ _ _ from ?_)
        refine weaken (g.ok _ _ _) (st' := ⟨[(3, ⟨[], .sp 5 0⟩), (4, ⟨[], .sp 6 0⟩), (5, ⟨[], .sp 7 0⟩), (9, ⟨[], .fn (.func 98) [] [.sp 4 0]⟩)], [],
          (7, .cells 4 [.sb false]) :: (6, .cells 24 [.si .i64 0, .si .i64 0]) :: (5, .cells 69 [.fn (.func 50) [] [.sp 3 0]]) :: (4, .cells 64 [.sp 1 0]) :: bnH5 n m p l1 l2 2, 20, []⟩) 4 (fun j => match j with | 4 => 7 | 5 => 4 | 6 => 5 | 7 => 6 | j => j) hG ?_ ?_
        · refine ⟨?_, ?_, rfl, rfl, rfl, rfl, trivial⟩
          · repeat' (first | exact trivial | exact rfl | (intro i hi; exact ⟨rfl, rfl⟩) | refine allV_find ?_ | refine And.intro ?_ ?_)
          · repeat' (first | exact trivial | exact rfl | (intro i hi; exact ⟨rfl, rfl⟩) | refine allV_find ?_ | refine And.intro ?_ ?_)
        refine rangeFunc_ok (g.ok _ _ _) rfl rfl rfl b98 ?_
        intro fn
        refine callS_sub (Bx p ++ chSpan (.fn (.func 50) [] [.sp 3 0]) [(3, .cells 3 [.si .i64 2])] n m l1 l2 fn none) (by repeat' (first | exact trivial | exact rfl | (intro i hi; exact ⟨rfl, rfl⟩) | refine allV_find ?_ | refine And.intro ?_ ?_)) ?_
        refine s98 (f := fSpan (ptV 2)) (ok := fun _ => True) (CH := chSpan (.fn (.func 50) [] [.sp 3 0]) [(3, .cells 3 [.si .i64 2])] n m l1 l2 fn) hb (fun c => ?_) (fun c => keys_of rfl) (fun c a0 a1 a2 a3 a4 _ _ => trivial) (fun c a0 a1 a2 a3 a4 _ o0 o1 o2 o3 o4 => ySpan_p2 c o0 o1 o2 o3 o4) none trivial ?_
        · repeat' (first | exact trivial | exact rfl | (intro i hi; exact ⟨rfl, rfl⟩) | refine allV_find ?_ | refine And.intro ?_ ?_)
        show afterRange _ _ _ _ _ _ (Bx p ++ chSpan (.fn (.func 50) [] [.sp 3 0]) [(3, .cells 3 [.si .i64 2])] n m l1 l2 fn (spanG (ptV 2) p)) 25
        generalize spanG (ptV 2) p = R
        cases R with
        | none =>
          refine Br.mk (fun _ => ?_) (fun h => by cases h)
          exact ⟨rfl, by repeat' (first | exact trivial | exact rfl | (intro i hi; exact ⟨rfl, rfl⟩) | refine allV_find ?_ | refine And.intro ?_ ?_)⟩
        | some x =>
          obtain ⟨lo, hi⟩ := x
          refine Br.mk (fun h => by cases h) (fun _ => ?_)
          exact ⟨.inr ⟨_, rfl⟩, end_noid ⟨⟨rfl, rfl⟩, ⟨rfl, rfl⟩, trivial⟩ rfl rfl (by repeat' (first | exact trivial | exact rfl | (intro i hi; exact ⟨rfl, rfl⟩) | refine allV_find ?_ | refine And.intro ?_ ?_))⟩
      · refine ⟨bnP5 i1 bid i2 px n m p (liAt get) (liAt get2) 3, [.sp 1 0, .fn (.func 50) [] [.sp 3 0]], bnH5 n m p (liAt get) (liAt get2) 3, 4, [], rfl, rfl, Nat.le_of_ble_eq_true rfl, bnHand5 e1 e2 e3 hs hs2 e4, rfl, rfl, fun G hG => ?_⟩
        generalize liAt get = l1
        generalize liAt get2 = l2
        refine fb_call (g.ok _ _ _) cont_std rfl rfl rfl rfl ?_
        refine ⟨b78, ?_⟩
        refine callS_exec g.ok Try.func78 (c := code Try.f78) rfl (Nat.le_of_ble_eq_true rfl) fun G2 hG2 => ?_
        refine (show SemC _ _ _ _ from ?_)
        refine weaken (g.ok _ _ _) (st' := ⟨[(3, ⟨[], .sp 5 0⟩), (4, ⟨[], .sp 6 0⟩), (5, ⟨[], .sp 7 0⟩), (9, ⟨[], .fn (.func 98) [] [.sp 4 0]⟩)], [],
          (7, .cells 4 [.sb false]) :: (6, .cells 24 [.si .i64 0, .si .i64 0]) :: (5, .cells 69 [.fn (.func 50) [] [.sp 3 0]]) :: (4, .cells 64 [.sp 1 0]) :: bnH5 n m p l1 l2 3, 20, []⟩) 4 (fun j => match j with | 4 => 7 | 5 => 4 | 6 => 5 | 7 => 6 | j => j) hG ?_ ?_
        · refine ⟨?_, ?_, rfl, rfl, rfl, rfl, trivial⟩
          · repeat' (first | exact trivial | exact rfl | (intro i hi; exact ⟨rfl, rfl⟩) | refine allV_find ?_ | refine And.intro ?_ ?_)
          · repeat' (first | exact trivial | exact rfl | (intro i hi; exact ⟨rfl, rfl⟩) | refine allV_find ?_ | refine And.intro ?_ ?_)
        refine rangeFunc_ok (g.ok _ _ _) rfl rfl rfl b98 ?_
        intro fn
        refine callS_sub (Bx p ++ chSpan (.fn (.func 50) [] [.sp 3 0]) [(3, .cells 3 [.si .i64 3])] n m l1 l2 fn none) (by repeat' (first | exact trivial | exact rfl | (intro i hi; exact ⟨rfl, rfl⟩) | refine allV_find ?_ | refine And.intro ?_ ?_)) ?_
        refine s98 (f := fSpan (ptV 3)) (ok := fun _ => True) (CH := chSpan (.fn (.func 50) [] [.sp 3 0]) [(3, .cells 3 [.si .i64 3])] n m l1 l2 fn) hb (fun c => ?_) (fun c => keys_of rfl) (fun c a0 a1 a2 a3 a4 _ _ => trivial) (fun c a0 a1 a2 a3 a4 _ o0 o1 o2 o3 o4 => ySpan_p3 c o0 o1 o2 o3 o4) none trivial ?_
        · repeat' (first | exact trivial | exact rfl | (intro i hi; exact ⟨rfl, rfl⟩) | refine allV_find ?_ | refine And.intro ?_ ?_)
        show afterRange _ _ _ _ _ _ (Bx p ++ chSpan (.fn (.func 50) [] [.sp 3 0]) [(3, .cells 3 [.si .i64 3])] n m l1 l2 fn (spanG (ptV 3) p)) 25
        generalize spanG (ptV 3) p = R
        cases R with
        | none =>
          refine Br.mk (fun _ => ?_) (fun h => by cases h)
          exact ⟨rfl, by repeat' (first | exact trivial | exact rfl | (intro i hi; exact ⟨rfl, rfl⟩) | refine allV_find ?_ | refine And.intro ?_ ?_)⟩
        | some x =>
          obtain ⟨lo, hi⟩ := x
          refine Br.mk (fun h => by cases h) (fun _ => ?_)
          exact ⟨.inr ⟨_, rfl⟩, end_noid ⟨⟨rfl, rfl⟩, ⟨rfl, rfl⟩, trivial⟩ rfl rfl (by repeat' (first | exact trivial | exact rfl | (intro i hi; exact ⟨rfl, rfl⟩) | refine allV_find ?_ | refine And.intro ?_ ?_))⟩
      · refine ⟨bnP5 i1 bid i2 px n m p (liAt get) (liAt get2) 4, [.sp 1 0, .fn (.func 50) [] [.sp 3 0]], bnH5 n m p (liAt get) (liAt get2) 4, 4, [], rfl, rfl, Nat.le_of_ble_eq_true rfl, bnHand5 e1 e2 e3 hs hs2 e4, rfl, rfl, fun G hG => ?_⟩
        generalize liAt get = l1
        generalize liAt get2 = l2
        refine fb_call (g.ok _ _ _) cont_std rfl rfl rfl rfl ?_
        refine ⟨b78, ?_⟩
        refine callS_exec g.ok Try.func78 (c := code Try.f78) rfl (Nat.le_of_ble_eq_true rfl) fun G2 hG2 => ?_
        refine (show SemC _ _ _ _ from ?_)
        refine weaken (g.ok _ _ _) (st' := ⟨[(3, ⟨[], .sp 5 0⟩), (4, ⟨[], .sp 6 0⟩), (5, ⟨[], .sp 7 0⟩), (9, ⟨[], .fn (.func 98) [] [.sp 4 0]⟩)], [],
          (7, .cells 4 [.sb false]) :: (6, .cells 24 [.si .i64 0, .si .i64 0]) :: (5, .cells 69 [.fn (.func 50) [] [.sp 3 0]]) :: (4, .cells 64 [.sp 1 0]) :: bnH5 n m p l1 l2 4, 20, []⟩) 4 (fun j => match j with | 4 => 7 | 5 => 4 | 6 => 5 | 7 => 6 | j => j) hG ?_ ?_
        · refine ⟨?_, ?_, rfl, rfl, rfl, rfl, trivial⟩
          · repeat' (first | exact trivial | exact rfl | (intro i hi; exact ⟨rfl, rfl⟩) | refine allV_find ?_ | refine And.intro ?_ ?_)
          · repeat' (first | exact trivial | exact rfl | (intro i hi; exact ⟨rfl, rfl⟩) | refine allV_find ?_ | refine And.intro ?_ ?_)
        refine rangeFunc_ok (g.ok _ _ _) rfl rfl rfl b98 ?_
        intro fn
        refine callS_sub (Bx p ++ chSpan (.fn (.func 50) [] [.sp 3 0]) [(3, .cells 3 [.si .i64 4])] n m l1 l2 fn none) (by repeat' (first | exact trivial | exact rfl | (intro i hi; exact ⟨rfl, rfl⟩) | refine allV_find ?_ | refine And.intro ?_ ?_)) ?_
        refine s98 (f := fSpan (ptV 4)) (ok := fun _ => True) (CH := chSpan (.fn (.func 50) [] [.sp 3 0]) [(3, .cells 3 [.si .i64 4])] n m l1 l2 fn) hb (fun c => ?_) (fun c => keys_of rfl) (fun c a0 a1 a2 a3 a4 _ _ => trivial) (fun c a0 a1 a2 a3 a4 _ o0 o1 o2 o3 o4 => ySpan_p4 c o0 o1 o2 o3 o4) none trivial ?_
        · repeat' (first | exact trivial | exact rfl | (intro i hi; exact ⟨rfl, rfl⟩) | refine allV_find ?_ | refine And.intro ?_ ?_)
        show afterRange _ _ _ _ _ _ (Bx p ++ chSpan (.fn (.func 50) [] [.sp 3 0]) [(3, .cells 3 [.si .i64 4])] n m l1 l2 fn (spanG (ptV 4) p)) 25
        generalize spanG (ptV 4) p = R
        cases R with
        | none =>
          refine Br.mk (fun _ => ?_) (fun h => by cases h)
          exact ⟨rfl, by repeat' (first | exact trivial | exact rfl | (intro i hi; exact ⟨rfl, rfl⟩) | refine allV_find ?_ | refine And.intro ?_ ?_)⟩
        | some x =>
          obtain ⟨lo, hi⟩ := x
          refine Br.mk (fun h => by cases h) (fun _ => ?_)
          exact ⟨.inr ⟨_, rfl⟩, end_noid ⟨⟨rfl, rfl⟩, ⟨rfl, rfl⟩, trivial⟩ rfl rfl (by repeat' (first | exact trivial | exact rfl | (intro i hi; exact ⟨rfl, rfl⟩) | refine allV_find ?_ | refine And.intro ?_ ?_))⟩
    · cases h
  · cases h
theorem g49 {l : List (Nat × Ct)} (g : Good P T l) : Good P T ((49, c49) :: l) := g.add (k49 g) c49_mono (body_of Try.func49 (c := code Try.f49) rfl (by decide))
end Go.X.Gr
end

section
set_option linter.unusedVariables false
set_option linter.unusedSimpArgs false
set_option linter.unusedSectionVars false
/- Grade: all faces. -/
set_option linter.unusedVariables false
set_option linter.unusedSimpArgs false
set_option maxRecDepth 10000
set_option maxHeartbeats 4000000
namespace Go.X.Gr
open Go Go.Proofs Go.X

abbrev Fc := Int × Int
def encF (p : Fc) : SV := .agg [.si .i64 p.1, .si .i64 p.2]
def encB (b : Bool) : SV := .sb b
theorem encF_key : KeyT T 92 encF where
  ty := ⟨_, rfl⟩
  chk := fun a => by kernel_rfl
  eq := fun a b => by
    have h : eqC T 9 92 (encF a) (encF b) = some (decide (a.1 = b.1) && (decide (a.2 = b.2) && true)) := by kernel_rfl
    rw [h]
    congr 1
    rw [Bool.eq_iff_iff]
    obtain ⟨a1, a2⟩ := a
    obtain ⟨b1, b2⟩ := b
    simp
  cl := fun a => ⟨.agg #[.int .i64 a.1, .int .i64 a.2], rfl⟩
  same := fun a => by
    have : cv (encF a) = .agg #[.int .i64 a.1, .int .i64 a.2] := rfl
    rw [this]
    simp [Instr.sameBits]
theorem encB_cl : Closed encB := fun a => ⟨.bool a, rfl⟩
theorem b80 : Body P 80 := body_of Try.func80 (c := code Try.f80) rfl (by decide)
theorem b121 : Body P 121 := body_of Try.func121 (c := code Try.f121) rfl (by decide)
theorem m80 : MethOk P 88 "blockworks/grade.at" 80 := meth_of (i := _) (d := _) rfl rfl (by intro e h; cases h) ⟨_, rfl, rfl, rfl⟩
theorem m121 : MethOk P 90 "blockworks/grade.at" 121 := meth_of (i := _) (d := _) rfl rfl (by intro e h; cases h) ⟨_, rfl, rfl, rfl⟩
def lkP (a0 a1 a2 a3 a4 : Int) : Fc := (offV a0 a1 a2 a3 a4, varV a0 a1 a2 a3 a4)
def lkL (v a0 a1 a2 a3 a4 : Int) : Fc := lkP (min a0 v) (min a1 v) (min a2 v) (min a3 v) (min a4 v)
def fFaces (L : Int → Int → Int → Int → Int → Fc) (c : List (Fc × Bool)) (a0 a1 a2 a3 a4 : Int) : List (Fc × Bool) × Bool := (updA c (L a0 a1 a2 a3 a4) true, true)
def facesV (L : Int → Int → Int → Int → Int → Fc) (g : Pts) : List (Fc × Bool) := (on0 (fFaces L) g []).1
noncomputable def chFacesS (s : LoopState) (LK : SV) (n m : Nat) (l1 l2 : Nat → Int × Int) (fn : Nat) (c : List (Fc × Bool)) : List (Nat × HB) :=
  [(21, .loop [(3, .sp 5 0), (5, .sp 7 0), (9, .fn (.func 98) [] [.sp 4 0])] Try.f72.ntmps fn [10] (rfA (code Try.f72)) (rfB (code Try.f72)) 20 s none), (20, .dfr),
   (7, .cells 85 [.sm 6]), (6, .mp (encM encF encB c)), (5, .cells 128 [LK]), (2, .ro 2 m fun i => liC (l2 i)), (0, .ro 2 n fun i => liC (l1 i))]
noncomputable abbrev chFaces := chFacesS .ready
theorem yFaces_p {g : Pts} {n m : Nat} {l1 l2 : Nat → Int × Int} {fn : Nat} (c : List (Fc × Bool)) {a0 a1 a2 a3 a4 : Int} (o0 : okI a0) (o1 : okI a1) (o2 : okI a2) (o3 : okI a3) (o4 : okI a4) :
    YieldOk P T (tabC [(84, c84), (85, c85)]) 21 [.agg (c5 a0 a1 a2 a3 a4)] (Fr g a0 a1 a2 a3 a4 ++ chFaces (.ifc 88 (.agg [])) n m l1 l2 fn c) 25 true (Fr g a0 a1 a2 a3 a4 ++ chFaces (.ifc 88 (.agg [])) n m l1 l2 fn (fFaces lkP c a0 a1 a2 a3 a4).1) 25 := by
  refine yield_to 21 g8485.ok (l' := [(10, .agg (c5 a0 a1 a2 a3 a4)), (3, .sp 5 0), (5, .sp 7 0), (9, .fn (.func 98) [] [.sp 4 0])]) rfl rfl (by decide) fun G r hG => ?_
  refine (show SemC _ _ _ _ from ?_)
  refine any_region fol ?_
  refine any_fork [0, 1, 2] ⟨[(11, ⟨[], .sm 6⟩), (14, ⟨[], encF (lkP a0 a1 a2 a3 a4)⟩)], [], Fr g a0 a1 a2 a3 a4 ++ chFacesS .busy (.ifc 88 (.agg [])) n m l1 l2 fn c, 30, []⟩ 1 #[true, true, true, true, false] (g8485.ok _ _ _) (by kernel_rfl) (by decide) (fun K hK => ⟨?_, ?_, ?_, trivial⟩) ?_
  · skip
    refine any_step [1, 2] (g8485.ok _ _ _) (by kernel_rfl) (by decide) ⟨?_, ?_, trivial⟩
    · skip
      refine any_step [2] (g8485.ok _ _ _) (by kernel_rfl) (by decide) ⟨?_, trivial⟩
      refine any_step [3] (g8485.ok _ _ _) (by kernel_rfl) (by decide) ⟨?_, trivial⟩
      refine fb_invoke 80 (g8485.ok _ _ _) cont_any rfl rfl rfl rfl rfl rfl rfl m80 b80 ?_
      refine callS_ct (k80 good0) rfl (sm5_of o0 o1 o2 o3 o4) (fun _ => ?_) (fun ch h => by cases h)
      exact any_weaken 25 (fun j => j) hG (by refine ⟨?_, ?_, injI_id _, rfl, rfl, rfl, trivial⟩ <;> repeat' (first | exact trivial | exact rfl | (intro i hi; exact ⟨rfl, rfl⟩) | exact List.Perm.refl _ | refine allV_find ?_ | refine And.intro ?_ ?_)) hK
    · skip
      refine any_step [1] (g8485.ok _ _ _) (by kernel_rfl) (by decide) ⟨?_, trivial⟩
      refine any_step [3] (g8485.ok _ _ _) (by kernel_rfl) (by decide) ⟨?_, trivial⟩
      refine fb_invoke 80 (g8485.ok _ _ _) cont_any rfl rfl rfl rfl rfl rfl rfl m80 b80 ?_
      refine callS_ct (k80 good0) rfl (sm5_of o0 o1 o2 o3 o4) (fun _ => ?_) (fun ch h => by cases h)
      exact any_weaken 25 (fun j => j) hG (by refine ⟨?_, ?_, injI_id _, rfl, rfl, rfl, trivial⟩ <;> repeat' (first | exact trivial | exact rfl | (intro i hi; exact ⟨rfl, rfl⟩) | exact List.Perm.refl _ | refine allV_find ?_ | refine And.intro ?_ ?_)) hK
  · skip
    refine any_step [0, 2] (g8485.ok _ _ _) (by kernel_rfl) (by decide) ⟨?_, ?_, trivial⟩
    · skip
      refine any_step [2] (g8485.ok _ _ _) (by kernel_rfl) (by decide) ⟨?_, trivial⟩
      refine any_step [3] (g8485.ok _ _ _) (by kernel_rfl) (by decide) ⟨?_, trivial⟩
      refine fb_invoke 80 (g8485.ok _ _ _) cont_any rfl rfl rfl rfl rfl rfl rfl m80 b80 ?_
      refine callS_ct (k80 good0) rfl (sm5_of o0 o1 o2 o3 o4) (fun _ => ?_) (fun ch h => by cases h)
      exact any_weaken 25 (fun j => j) hG (by refine ⟨?_, ?_, injI_id _, rfl, rfl, rfl, trivial⟩ <;> repeat' (first | exact trivial | exact rfl | (intro i hi; exact ⟨rfl, rfl⟩) | exact List.Perm.refl _ | refine allV_find ?_ | refine And.intro ?_ ?_)) hK
    · skip
      refine any_step [0, 3] (g8485.ok _ _ _) (by kernel_rfl) (by decide) ⟨?_, ?_, trivial⟩
      · skip
        refine any_step [3] (g8485.ok _ _ _) (by kernel_rfl) (by decide) ⟨?_, trivial⟩
        refine fb_invoke 80 (g8485.ok _ _ _) cont_any rfl rfl rfl rfl rfl rfl rfl m80 b80 ?_
        refine callS_ct (k80 good0) rfl (sm5_of o0 o1 o2 o3 o4) (fun _ => ?_) (fun ch h => by cases h)
        exact any_weaken 25 (fun j => j) hG (by refine ⟨?_, ?_, injI_id _, rfl, rfl, rfl, trivial⟩ <;> repeat' (first | exact trivial | exact rfl | (intro i hi; exact ⟨rfl, rfl⟩) | exact List.Perm.refl _ | refine allV_find ?_ | refine And.intro ?_ ?_)) hK
      · skip
        refine fb_invoke 80 (g8485.ok _ _ _) cont_any rfl rfl rfl rfl rfl rfl rfl m80 b80 ?_
        refine callS_ct (k80 good0) rfl (sm5_of o0 o1 o2 o3 o4) (fun _ => ?_) (fun ch h => by cases h)
        refine any_step [0] (g8485.ok _ _ _) (by kernel_rfl) (by decide) ⟨?_, trivial⟩
        exact any_weaken 25 (fun j => j) hG (by refine ⟨?_, ?_, injI_id _, rfl, rfl, rfl, trivial⟩ <;> repeat' (first | exact trivial | exact rfl | (intro i hi; exact ⟨rfl, rfl⟩) | exact List.Perm.refl _ | refine allV_find ?_ | refine And.intro ?_ ?_)) hK
  · skip
    refine any_step [0, 1] (g8485.ok _ _ _) (by kernel_rfl) (by decide) ⟨?_, ?_, trivial⟩
    · skip
      refine any_step [1] (g8485.ok _ _ _) (by kernel_rfl) (by decide) ⟨?_, trivial⟩
      refine any_step [3] (g8485.ok _ _ _) (by kernel_rfl) (by decide) ⟨?_, trivial⟩
      refine fb_invoke 80 (g8485.ok _ _ _) cont_any rfl rfl rfl rfl rfl rfl rfl m80 b80 ?_
      refine callS_ct (k80 good0) rfl (sm5_of o0 o1 o2 o3 o4) (fun _ => ?_) (fun ch h => by cases h)
      exact any_weaken 25 (fun j => j) hG (by refine ⟨?_, ?_, injI_id _, rfl, rfl, rfl, trivial⟩ <;> repeat' (first | exact trivial | exact rfl | (intro i hi; exact ⟨rfl, rfl⟩) | exact List.Perm.refl _ | refine allV_find ?_ | refine And.intro ?_ ?_)) hK
    · skip
      refine any_step [0, 3] (g8485.ok _ _ _) (by kernel_rfl) (by decide) ⟨?_, ?_, trivial⟩
      · skip
        refine any_step [3] (g8485.ok _ _ _) (by kernel_rfl) (by decide) ⟨?_, trivial⟩
        refine fb_invoke 80 (g8485.ok _ _ _) cont_any rfl rfl rfl rfl rfl rfl rfl m80 b80 ?_
        refine callS_ct (k80 good0) rfl (sm5_of o0 o1 o2 o3 o4) (fun _ => ?_) (fun ch h => by cases h)
        exact any_weaken 25 (fun j => j) hG (by refine ⟨?_, ?_, injI_id _, rfl, rfl, rfl, trivial⟩ <;> repeat' (first | exact trivial | exact rfl | (intro i hi; exact ⟨rfl, rfl⟩) | exact List.Perm.refl _ | refine allV_find ?_ | refine And.intro ?_ ?_)) hK
      · skip
        refine fb_invoke 80 (g8485.ok _ _ _) cont_any rfl rfl rfl rfl rfl rfl rfl m80 b80 ?_
        refine callS_ct (k80 good0) rfl (sm5_of o0 o1 o2 o3 o4) (fun _ => ?_) (fun ch h => by cases h)
        refine any_step [0] (g8485.ok _ _ _) (by kernel_rfl) (by decide) ⟨?_, trivial⟩
        exact any_weaken 25 (fun j => j) hG (by refine ⟨?_, ?_, injI_id _, rfl, rfl, rfl, trivial⟩ <;> repeat' (first | exact trivial | exact rfl | (intro i hi; exact ⟨rfl, rfl⟩) | exact List.Perm.refl _ | refine allV_find ?_ | refine And.intro ?_ ?_)) hK
  refine any_step [4] (g8485.ok _ _ _) (by kernel_rfl) (by decide) ⟨?_, trivial⟩
  refine fb_update encF encB c (lkP a0 a1 a2 a3 a4) true _ rfl 6 (g8485.ok _ _ _) cont_any rfl (.inl rfl) rfl rfl rfl rfl encF_key encB_cl rfl rfl rfl rfl fun _ => ?_
  refine any_done (by kernel_rfl) ?_
  refine ⟨fun j => j, ?_, rfl, rfl, injI_id _, rfl, rfl⟩
  repeat' (first | exact trivial | exact rfl | (intro i hi; exact ⟨rfl, rfl⟩) | exact List.Perm.refl _ | refine allV_find ?_ | refine And.intro ?_ ?_)
theorem yFaces_l {v : Int} (hv : sm v) {g : Pts} {n m : Nat} {l1 l2 : Nat → Int × Int} {fn : Nat} (c : List (Fc × Bool)) {a0 a1 a2 a3 a4 : Int} (o0 : okI a0) (o1 : okI a1) (o2 : okI a2) (o3 : okI a3) (o4 : okI a4) :
    YieldOk P T (tabC [(84, c84), (85, c85)]) 21 [.agg (c5 a0 a1 a2 a3 a4)] (Fr g a0 a1 a2 a3 a4 ++ chFaces (.ifc 90 (.agg [.si .i64 v])) n m l1 l2 fn c) 25 true (Fr g a0 a1 a2 a3 a4 ++ chFaces (.ifc 90 (.agg [.si .i64 v])) n m l1 l2 fn (fFaces (lkL v) c a0 a1 a2 a3 a4).1) 25 := by
  refine yield_to 21 g8485.ok (l' := [(10, .agg (c5 a0 a1 a2 a3 a4)), (3, .sp 5 0), (5, .sp 7 0), (9, .fn (.func 98) [] [.sp 4 0])]) rfl rfl (by decide) fun G r hG => ?_
  refine (show SemC _ _ _ _ from ?_)
  refine any_region fol ?_
  refine any_fork [0, 1, 2] ⟨[(11, ⟨[], .sm 6⟩), (14, ⟨[], encF ((lkL v) a0 a1 a2 a3 a4)⟩)], [], Fr g a0 a1 a2 a3 a4 ++ chFacesS .busy (.ifc 90 (.agg [.si .i64 v])) n m l1 l2 fn c, 30, []⟩ 1 #[true, true, true, true, false] (g8485.ok _ _ _) (by kernel_rfl) (by decide) (fun K hK => ⟨?_, ?_, ?_, trivial⟩) ?_
  · skip
    refine any_step [1, 2] (g8485.ok _ _ _) (by kernel_rfl) (by decide) ⟨?_, ?_, trivial⟩
    · skip
      refine any_step [2] (g8485.ok _ _ _) (by kernel_rfl) (by decide) ⟨?_, trivial⟩
      refine any_step [3] (g8485.ok _ _ _) (by kernel_rfl) (by decide) ⟨?_, trivial⟩
      refine fb_invoke 121 (g8485.ok _ _ _) cont_any rfl rfl rfl rfl rfl rfl rfl m121 b121 ?_
      refine callS_ct (k121 good0) rfl ⟨sm5_of o0 o1 o2 o3 o4, hv⟩ (fun _ => ?_) (fun ch h => by cases h)
      exact any_weaken 25 (fun j => j) hG (by refine ⟨?_, ?_, injI_id _, rfl, rfl, rfl, trivial⟩ <;> repeat' (first | exact trivial | exact rfl | (intro i hi; exact ⟨rfl, rfl⟩) | exact List.Perm.refl _ | refine allV_find ?_ | refine And.intro ?_ ?_)) hK
    · skip
      refine any_step [1] (g8485.ok _ _ _) (by kernel_rfl) (by decide) ⟨?_, trivial⟩
      refine any_step [3] (g8485.ok _ _ _) (by kernel_rfl) (by decide) ⟨?_, trivial⟩
      refine fb_invoke 121 (g8485.ok _ _ _) cont_any rfl rfl rfl rfl rfl rfl rfl m121 b121 ?_
      refine callS_ct (k121 good0) rfl ⟨sm5_of o0 o1 o2 o3 o4, hv⟩ (fun _ => ?_) (fun ch h => by cases h)
      exact any_weaken 25 (fun j => j) hG (by refine ⟨?_, ?_, injI_id _, rfl, rfl, rfl, trivial⟩ <;> repeat' (first | exact trivial | exact rfl | (intro i hi; exact ⟨rfl, rfl⟩) | exact List.Perm.refl _ | refine allV_find ?_ | refine And.intro ?_ ?_)) hK
  · skip
    refine any_step [0, 2] (g8485.ok _ _ _) (by kernel_rfl) (by decide) ⟨?_, ?_, trivial⟩
    · skip
      refine any_step [2] (g8485.ok _ _ _) (by kernel_rfl) (by decide) ⟨?_, trivial⟩
      refine any_step [3] (g8485.ok _ _ _) (by kernel_rfl) (by decide) ⟨?_, trivial⟩
      refine fb_invoke 121 (g8485.ok _ _ _) cont_any rfl rfl rfl rfl rfl rfl rfl m121 b121 ?_
      refine callS_ct (k121 good0) rfl ⟨sm5_of o0 o1 o2 o3 o4, hv⟩ (fun _ => ?_) (fun ch h => by cases h)
      exact any_weaken 25 (fun j => j) hG (by refine ⟨?_, ?_, injI_id _, rfl, rfl, rfl, trivial⟩ <;> repeat' (first | exact trivial | exact rfl | (intro i hi; exact ⟨rfl, rfl⟩) | exact List.Perm.refl _ | refine allV_find ?_ | refine And.intro ?_ ?_)) hK
    · skip
      refine any_step [0, 3] (g8485.ok _ _ _) (by kernel_rfl) (by decide) ⟨?_, ?_, trivial⟩
      · skip
        refine any_step [3] (g8485.ok _ _ _) (by kernel_rfl) (by decide) ⟨?_, trivial⟩
        refine fb_invoke 121 (g8485.ok _ _ _) cont_any rfl rfl rfl rfl rfl rfl rfl m121 b121 ?_
        refine callS_ct (k121 good0) rfl ⟨sm5_of o0 o1 o2 o3 o4, hv⟩ (fun _ => ?_) (fun ch h => by cases h)
        exact any_weaken 25 (fun j => j) hG (by refine ⟨?_, ?_, injI_id _, rfl, rfl, rfl, trivial⟩ <;> repeat' (first | exact trivial | exact rfl | (intro i hi; exact ⟨rfl, rfl⟩) | exact List.Perm.refl _ | refine allV_find ?_ | refine And.intro ?_ ?_)) hK
      · skip
        refine fb_invoke 121 (g8485.ok _ _ _) cont_any rfl rfl rfl rfl rfl rfl rfl m121 b121 ?_
        refine callS_ct (k121 good0) rfl ⟨sm5_of o0 o1 o2 o3 o4, hv⟩ (fun _ => ?_) (fun ch h => by cases h)
        refine any_step [0] (g8485.ok _ _ _) (by kernel_rfl) (by decide) ⟨?_, trivial⟩
        exact any_weaken 25 (fun j => j) hG (by refine ⟨?_, ?_, injI_id _, rfl, rfl, rfl, trivial⟩ <;> repeat' (first | exact trivial | exact rfl | (intro i hi; exact ⟨rfl, rfl⟩) | exact List.Perm.refl _ | refine allV_find ?_ | refine And.intro ?_ ?_)) hK
  · skip
    refine any_step [0, 1] (g8485.ok _ _ _) (by kernel_rfl) (by decide) ⟨?_, ?_, trivial⟩
    · skip
      refine any_step [1] (g8485.ok _ _ _) (by kernel_rfl) (by decide) ⟨?_, trivial⟩
      refine any_step [3] (g8485.ok _ _ _) (by kernel_rfl) (by decide) ⟨?_, trivial⟩
      refine fb_invoke 121 (g8485.ok _ _ _) cont_any rfl rfl rfl rfl rfl rfl rfl m121 b121 ?_
      refine callS_ct (k121 good0) rfl ⟨sm5_of o0 o1 o2 o3 o4, hv⟩ (fun _ => ?_) (fun ch h => by cases h)
      exact any_weaken 25 (fun j => j) hG (by refine ⟨?_, ?_, injI_id _, rfl, rfl, rfl, trivial⟩ <;> repeat' (first | exact trivial | exact rfl | (intro i hi; exact ⟨rfl, rfl⟩) | exact List.Perm.refl _ | refine allV_find ?_ | refine And.intro ?_ ?_)) hK
    · skip
      refine any_step [0, 3] (g8485.ok _ _ _) (by kernel_rfl) (by decide) ⟨?_, ?_, trivial⟩
      · skip
        refine any_step [3] (g8485.ok _ _ _) (by kernel_rfl) (by decide) ⟨?_, trivial⟩
        refine fb_invoke 121 (g8485.ok _ _ _) cont_any rfl rfl rfl rfl rfl rfl rfl m121 b121 ?_
        refine callS_ct (k121 good0) rfl ⟨sm5_of o0 o1 o2 o3 o4, hv⟩ (fun _ => ?_) (fun ch h => by cases h)
        exact any_weaken 25 (fun j => j) hG (by refine ⟨?_, ?_, injI_id _, rfl, rfl, rfl, trivial⟩ <;> repeat' (first | exact trivial | exact rfl | (intro i hi; exact ⟨rfl, rfl⟩) | exact List.Perm.refl _ | refine allV_find ?_ | refine And.intro ?_ ?_)) hK
      · skip
        refine fb_invoke 121 (g8485.ok _ _ _) cont_any rfl rfl rfl rfl rfl rfl rfl m121 b121 ?_
        refine callS_ct (k121 good0) rfl ⟨sm5_of o0 o1 o2 o3 o4, hv⟩ (fun _ => ?_) (fun ch h => by cases h)
        refine any_step [0] (g8485.ok _ _ _) (by kernel_rfl) (by decide) ⟨?_, trivial⟩
        exact any_weaken 25 (fun j => j) hG (by refine ⟨?_, ?_, injI_id _, rfl, rfl, rfl, trivial⟩ <;> repeat' (first | exact trivial | exact rfl | (intro i hi; exact ⟨rfl, rfl⟩) | exact List.Perm.refl _ | refine allV_find ?_ | refine And.intro ?_ ?_)) hK
  refine any_step [4] (g8485.ok _ _ _) (by kernel_rfl) (by decide) ⟨?_, trivial⟩
  refine fb_update encF encB c ((lkL v) a0 a1 a2 a3 a4) true _ rfl 6 (g8485.ok _ _ _) cont_any rfl (.inl rfl) rfl rfl rfl rfl encF_key encB_cl rfl rfl rfl rfl fun _ => ?_
  refine any_done (by kernel_rfl) ?_
  refine ⟨fun j => j, ?_, rfl, rfl, injI_id _, rfl, rfl⟩
  repeat' (first | exact trivial | exact rfl | (intro i hi; exact ⟨rfl, rfl⟩) | exact List.Perm.refl _ | refine allV_find ?_ | refine And.intro ?_ ?_)
end Go.X.Gr
end

section
set_option linter.unusedVariables false
set_option linter.unusedSimpArgs false
set_option linter.unusedSectionVars false
/- Grade: faces. -/
set_option linter.unusedVariables false
set_option linter.unusedSimpArgs false
set_option maxRecDepth 10000
set_option maxHeartbeats 4000000
namespace Go.X.Gr
open Go Go.Proofs Go.X

def facesOut (fr : Nat) (L : Int → Int → Int → Int → Int → Fc) (pre : Prop) (g : Pts) : Option COut := some ⟨some pre, none, .sm fr, [(fr, .mp (encM encF encB (facesV L g)))]⟩
def c72 : Ct := fun fr args H => match args with
  | [.sp bid 0, .ifc 88 (.agg [])] => benchK H bid fun g n get m get2 => facesOut fr lkP (Lims n get ∧ Lims m get2 ∧ ptsB g) g
  | [.sp bid 0, .ifc 90 (.agg [.si .i64 v])] => benchK H bid fun g n get m get2 => facesOut fr (lkL v) ((Lims n get ∧ Lims m get2 ∧ ptsB g) ∧ sm v) g
  | _ => none
theorem c72_mono : CtMono c72 := by
  intro fr args H H' out hH h
  unfold c72 at h ⊢
  split at h
  · exact benchK_mono hH h
  · exact benchK_mono hH h
  · cases h
theorem k72 {l : List (Nat × Ct)} (g0 : Good P T l) : COk P 72 c72 := by
  have g := good0
  refine cokM (C := tabC _) g.ok Try.func72 (c := code Try.f72) rfl fun fr args H out h hp => ?_
  unfold c72 at h
  split at h
  · rename_i bid 
    obtain ⟨i1, i2, p, n, get, m, get2, e1, e2, e3, h⟩ := benchK_some h
    cases h
    obtain ⟨hs, hs2, hb⟩ : Lims n get ∧ Lims m get2 ∧ ptsB p := hp
    refine ⟨bnP4 i1 bid i2 n m p (liAt get) (liAt get2), [.sp 1 0, .ifc 88 (.agg [])], bnH4 n m p (liAt get) (liAt get2), 4, [6], rfl, rfl, Nat.le_of_ble_eq_true rfl, bnHand4 e1 e2 e3 hs hs2, rfl, rfl, fun G hG => ?_⟩
    generalize liAt get = l1
    generalize liAt get2 = l2
    refine fb_makeMap (g.ok _ _ _) cont_std rfl rfl rfl rfl rfl ?_
    refine fb_call (g.ok _ _ _) cont_std rfl rfl rfl rfl ?_
    refine ⟨b78, ?_⟩
    refine callS_exec g.ok Try.func78 (c := code Try.f78) rfl (Nat.le_of_ble_eq_true rfl) fun G2 hG2 => ?_
    refine (show SemC _ _ _ _ from ?_)
    refine weaken (g.ok _ _ _) (st' := ⟨[(3, ⟨[], .sp 5 0⟩), (5, ⟨[], .sp 7 0⟩), (9, ⟨[], .fn (.func 98) [] [.sp 4 0]⟩)], [],
      (7, .cells 85 [.sm 6]) :: (6, .mp []) :: (5, .cells 128 [.ifc 88 (.agg [])]) :: (4, .cells 64 [.sp 1 0]) :: bnH4 n m p l1 l2, 20, []⟩) 4 (fun j => match j with | 4 => 7 | 5 => 4 | 6 => 5 | 7 => 6 | j => j) hG ?_ ?_
    · refine ⟨?_, ?_, rfl, rfl, rfl, rfl, trivial⟩
      · repeat' (first | exact trivial | exact rfl | (intro i hi; exact ⟨rfl, rfl⟩) | exact List.Perm.refl _ | refine allV_find ?_ | refine And.intro ?_ ?_)
      · repeat' (first | exact trivial | exact rfl | (intro i hi; exact ⟨rfl, rfl⟩) | exact List.Perm.refl _ | refine allV_find ?_ | refine And.intro ?_ ?_)
    refine rangeFunc_ok (g.ok _ _ _) rfl rfl rfl b98 ?_
    intro fn
    refine callS_sub (Bx p ++ chFaces (.ifc 88 (.agg [])) n m l1 l2 fn []) (by repeat' (first | exact trivial | exact rfl | (intro i hi; exact ⟨rfl, rfl⟩) | exact List.Perm.refl _ | refine allV_find ?_ | refine And.intro ?_ ?_)) ?_
    refine s98 (f := fFaces lkP) (ok := fun _ => True) (CH := chFaces (.ifc 88 (.agg [])) n m l1 l2 fn) hb (fun c => ?_) (fun c => keys_of rfl) (fun c a0 a1 a2 a3 a4 _ _ => trivial) (fun c a0 a1 a2 a3 a4 _ o0 o1 o2 o3 o4 => yFaces_p c o0 o1 o2 o3 o4) [] trivial ?_
    · repeat' (first | exact trivial | exact rfl | (intro i hi; exact ⟨rfl, rfl⟩) | exact List.Perm.refl _ | refine allV_find ?_ | refine And.intro ?_ ?_)
    show afterRange _ _ _ _ _ _ (Bx p ++ chFaces (.ifc 88 (.agg [])) n m l1 l2 fn (facesV lkP p)) 25
    generalize facesV lkP p = R
    exact ⟨.inl rfl, ⟨rfl, rfl, ⟨rfl, List.Perm.refl _, trivial⟩, (by repeat' (first | exact trivial | exact rfl | (intro i hi; exact ⟨rfl, rfl⟩) | exact List.Perm.refl _ | refine allV_find ?_ | refine And.intro ?_ ?_)), rfl, rfl⟩⟩
  · rename_i bid v
    obtain ⟨i1, i2, p, n, get, m, get2, e1, e2, e3, h⟩ := benchK_some h
    cases h
    obtain ⟨⟨hs, hs2, hb⟩, hv⟩ : (Lims n get ∧ Lims m get2 ∧ ptsB p) ∧ sm v := hp
    refine ⟨bnP4 i1 bid i2 n m p (liAt get) (liAt get2), [.sp 1 0, .ifc 90 (.agg [.si .i64 v])], bnH4 n m p (liAt get) (liAt get2), 4, [6], rfl, rfl, Nat.le_of_ble_eq_true rfl, bnHand4 e1 e2 e3 hs hs2, rfl, rfl, fun G hG => ?_⟩
    generalize liAt get = l1
    generalize liAt get2 = l2
    refine fb_makeMap (g.ok _ _ _) cont_std rfl rfl rfl rfl rfl ?_
    refine fb_call (g.ok _ _ _) cont_std rfl rfl rfl rfl ?_
    refine ⟨b78, ?_⟩
    refine callS_exec g.ok Try.func78 (c := code Try.f78) rfl (Nat.le_of_ble_eq_true rfl) fun G2 hG2 => ?_
    refine (show SemC _ _ _ _ from ?_)
    refine weaken (g.ok _ _ _) (st' := ⟨[(3, ⟨[], .sp 5 0⟩), (5, ⟨[], .sp 7 0⟩), (9, ⟨[], .fn (.func 98) [] [.sp 4 0]⟩)], [],
      (7, .cells 85 [.sm 6]) :: (6, .mp []) :: (5, .cells 128 [.ifc 90 (.agg [.si .i64 v])]) :: (4, .cells 64 [.sp 1 0]) :: bnH4 n m p l1 l2, 20, []⟩) 4 (fun j => match j with | 4 => 7 | 5 => 4 | 6 => 5 | 7 => 6 | j => j) hG ?_ ?_
    · refine ⟨?_, ?_, rfl, rfl, rfl, rfl, trivial⟩
      · repeat' (first | exact trivial | exact rfl | (intro i hi; exact ⟨rfl, rfl⟩) | exact List.Perm.refl _ | refine allV_find ?_ | refine And.intro ?_ ?_)
      · repeat' (first | exact trivial | exact rfl | (intro i hi; exact ⟨rfl, rfl⟩) | exact List.Perm.refl _ | refine allV_find ?_ | refine And.intro ?_ ?_)
    refine rangeFunc_ok (g.ok _ _ _) rfl rfl rfl b98 ?_
    intro fn
    refine callS_sub (Bx p ++ chFaces (.ifc 90 (.agg [.si .i64 v])) n m l1 l2 fn []) (by repeat' (first | exact trivial | exact rfl | (intro i hi; exact ⟨rfl, rfl⟩) | exact List.Perm.refl _ | refine allV_find ?_ | refine And.intro ?_ ?_)) ?_
    refine s98 (f := fFaces (lkL v)) (ok := fun _ => True) (CH := chFaces (.ifc 90 (.agg [.si .i64 v])) n m l1 l2 fn) hb (fun c => ?_) (fun c => keys_of rfl) (fun c a0 a1 a2 a3 a4 _ _ => trivial) (fun c a0 a1 a2 a3 a4 _ o0 o1 o2 o3 o4 => yFaces_l hv c o0 o1 o2 o3 o4) [] trivial ?_
    · repeat' (first | exact trivial | exact rfl | (intro i hi; exact ⟨rfl, rfl⟩) | exact List.Perm.refl _ | refine allV_find ?_ | refine And.intro ?_ ?_)
    show afterRange _ _ _ _ _ _ (Bx p ++ chFaces (.ifc 90 (.agg [.si .i64 v])) n m l1 l2 fn (facesV (lkL v) p)) 25
    generalize facesV (lkL v) p = R
    exact ⟨.inl rfl, ⟨rfl, rfl, ⟨rfl, List.Perm.refl _, trivial⟩, (by repeat' (first | exact trivial | exact rfl | (intro i hi; exact ⟨rfl, rfl⟩) | exact List.Perm.refl _ | refine allV_find ?_ | refine And.intro ?_ ?_)), rfl, rfl⟩⟩
  · cases h
theorem g72 {l : List (Nat × Ct)} (g : Good P T l) : Good P T ((72, c72) :: l) := g.add (k72 g) c72_mono (body_of Try.func72 (c := code Try.f72) rfl (by decide))
end Go.X.Gr
end

section
set_option linter.unusedVariables false
set_option linter.unusedSimpArgs false
set_option linter.unusedSectionVars false
/- Grade: the grade of a face; the grades that there are. -/
set_option linter.unusedVariables false
set_option linter.unusedSimpArgs false
set_option maxRecDepth 10000
set_option maxHeartbeats 4000000
namespace Go.X.Gr
open Go Go.Proofs Go.X

def limsL (n : Nat) (get : Nat → List SV) : List (Int × Int) := (List.range n).map (liAt get)
def keepsP (f l : Int × Int) : Bool := keepsB f.1 f.2 l.1 l.2
def ofL (L : List (Int × Int)) (f : Fc) : Nat := L.findIdx fun l => keepsP f l
def c79 : Ct := fun fr args H => match args with
  | [.sp bid 0, .agg [.si .i64 a, .si .i64 b]] => benchK H bid fun g n get m get2 => some ⟨some (Lims n get ∧ Lims m get2 ∧ m ≤ 100 ∧ ofL (limsL m get2) (a, b) < m), none, .si .i64 (ofL (limsL m get2) (a, b) : Nat), []⟩
  | _ => none
theorem c79_mono : CtMono c79 := by
  intro fr args H H' out hH h
  unfold c79 at h ⊢
  split at h
  · exact benchK_mono hH h
  · cases h
theorem k79 {l : List (Nat × Ct)} (g0 : Good P T l) : COk P 79 c79 := by
  have g := g73 good0
  refine cok (C := tabC _) g.ok Try.func79 (c := code Try.f79) rfl fun fr args H out h hp => ?_
  unfold c79 at h
  split at h
  · rename_i bid a b
    obtain ⟨i1, i2, p, n, get, m, get2, e1, e2, e3, h⟩ := benchK_some h
    cases h
    obtain ⟨hs, hs2, hm, hx⟩ : Lims n get ∧ Lims m get2 ∧ m ≤ 100 ∧ ofL (limsL m get2) (a, b) < m := hp
    refine ⟨bnP i1 bid i2 n m p (liAt get) (liAt get2), [.sp 1 0, .agg [.si .i64 a, .si .i64 b]], bnH n m p (liAt get) (liAt get2), 3, [], rfl, rfl, Nat.le_of_ble_eq_true rfl, bnHand e1 e2 e3 hs hs2, rfl, rfl, fun G hG => ?_⟩
    unfold limsL at hx ⊢
    generalize liAt get = l1
    generalize liAt get2 = l2 at hx ⊢
    obtain ⟨x, hxe⟩ : ∃ x, ofL ((List.range m).map l2) (a, b) = x := ⟨_, rfl⟩
    have hlt : ∀ i, i < x → keepsB a b (l2 i).1 (l2 i).2 = false := fun i hi => by
      have h := List.not_of_lt_findIdx (p := fun l => keepsP (a, b) l) (xs := (List.range m).map l2) (i := i) (by rw [← hxe] at hi; exact hi)
      simpa [keepsP] using h
    have hat : keepsB a b (l2 x).1 (l2 x).2 = true := by
      have h := List.findIdx_getElem (p := fun l => keepsP (a, b) l) (xs := (List.range m).map l2) (w := by
        have := hx
        unfold ofL at this
        simpa using this)
      have e : List.findIdx (fun l => keepsP (a, b) l) ((List.range m).map l2) = x := hxe
      simp only [e] at h
      simpa [keepsP] using h
    rw [hxe] at hx ⊢
    refine loop_okR (g.ok _ _ _) 3 (fun z : {i : Nat // i ≤ x} => ⟨[(0, ⟨[], .sp 1 0⟩), (3, ⟨[], .sp 3 0⟩), (5, ⟨[], .si .i64 z.1⟩)], [], (3, .cells 92 [.si .i64 a, .si .i64 b]) :: bnH n m p l1 l2, 4, []⟩) (fun z => x - z.1) hG ⟨0, Nat.zero_le _⟩ (fun j => j) ?_ ?_
    · refine ⟨?_, ?_, rfl, rfl, rfl, rfl, trivial⟩ <;> repeat' (first | exact trivial | exact rfl | (intro i hi; exact ⟨rfl, rfl⟩) | refine And.intro ?_ ?_)
    · rintro ⟨i, hi⟩
      refine drawn_ok (g.ok _ _ _) fol [0,0,2,6,14,0,62,126,255,511] [] 10 (by kernel_rfl) ?_
      refine Chk.mk (show (0 : Int) ≤ (i : Int) ∧ (i : Int) < (m : Int) from ⟨by omega, by omega⟩) ?_
      refine Br.mk (fun h => ?_) (fun h => ?_)
      · have h : (!keepsB a b (l2 i).1 (l2 i).2) = true := h
        have hne : i ≠ x := fun e => by rw [e, hat] at h; cases h
        refine Chk.mk (show InK .i64 ((i : Int) + 1) from ⟨by omega, by omega⟩) ⟨⟨i + 1, by omega⟩, (fun j => j), ?_, by show x - (i + 1) < x - i; omega⟩
        refine ⟨?_, ?_, rfl, rfl, rfl, rfl, trivial⟩ <;> repeat' (first | exact trivial | exact rfl | (intro i hi; exact ⟨rfl, rfl⟩) | refine And.intro ?_ ?_)
      · have h : (!keepsB a b (l2 i).1 (l2 i).2) = false := h
        have hix : i = x := by
          rcases Nat.lt_or_ge i x with hl | hl
          · rw [hlt i hl] at h; cases h
          · omega
        subst hix
        exact ⟨.inl rfl, end_noid ⟨rfl, rfl⟩ rfl rfl (by repeat' (first | exact trivial | exact rfl | (intro i hi; exact ⟨rfl, rfl⟩) | refine And.intro ?_ ?_))⟩
  · cases h
theorem g79 {l : List (Nat × Ct)} (g : Good P T l) : Good P T ((79, c79) :: l) := g.add (k79 g) c79_mono (body_of Try.func79 (c := code Try.f79) rfl (by decide))

/-! ### grades -/
def gradesN (L : List (Int × Int)) (fs : List Fc) : Nat := fs.foldl (fun s f => s ||| 2 ^ ofL L f) 0
theorem gradesN_snoc (L : List (Int × Int)) (fs : List Fc) (f : Fc) : gradesN L (fs ++ [f]) = gradesN L fs ||| 2 ^ ofL L f := by simp [gradesN, List.foldl_append]
theorem gradesN_bit (L : List (Int × Int)) (fs : List Fc) (k : Nat) : (gradesN L fs).testBit k = fs.any fun f => decide (ofL L f = k) := by
  have key : ∀ (fs : List Fc) (s : Nat), (fs.foldl (fun s f => s ||| 2 ^ ofL L f) s).testBit k = (s.testBit k || fs.any fun f => decide (ofL L f = k)) := by
    intro fs
    induction fs with
    | nil => intro s; simp
    | cons f r ih =>
      intro s
      rw [List.foldl_cons, ih, Nat.testBit_or, Nat.testBit_two_pow, List.any_cons, Bool.or_assoc]
  have := key fs 0
  simpa [gradesN] using this
theorem gradesN_perm {L : List (Int × Int)} {a b : List Fc} (h : a.Perm b) : gradesN L a = gradesN L b := by
  refine Nat.eq_of_testBit_eq fun k => ?_
  rw [gradesN_bit, gradesN_bit]
  exact h.any_eq
theorem gradesN_lt {L : List (Int × Int)} {fs : List Fc} {m : Nat} (h : ∀ f ∈ fs, ofL L f < m) : gradesN L fs < 2 ^ m := by
  refine Nat.lt_pow_two_of_testBit _ fun k hk => ?_
  rw [gradesN_bit]
  refine Bool.eq_false_iff.2 fun ha => ?_
  obtain ⟨f, hf, e⟩ := List.any_eq_true.1 ha
  have := h f hf
  have e : ofL L f = k := of_decide_eq_true e
  omega
end Go.X.Gr
end

section
set_option linter.unusedVariables false
set_option linter.unusedSimpArgs false
set_option linter.unusedSectionVars false
/- Grade: the grades that there are. -/
set_option linter.unusedVariables false
set_option linter.unusedSimpArgs false
set_option maxRecDepth 10000
set_option maxHeartbeats 4000000
namespace Go.X.Gr
open Go Go.Proofs Go.X

def setV (L : List (Int × Int)) (g : Pts) : Nat := gradesN L ((facesV lkP g).map (·.1))
def c62 : Ct := fun fr args H => match args with
  | [.sp bid 0] => benchK H bid fun g n get m get2 => some ⟨some (Lims n get ∧ Lims m get2 ∧ ptsB g ∧ m ≤ 5 ∧ ∀ p ∈ facesV lkP g, ofL (limsL m get2) p.1 < m), none, .si .u64 (setV (limsL m get2) g : Nat), []⟩
  | _ => none
theorem c62_mono : CtMono c62 := by
  intro fr args H H' out hH h
  unfold c62 at h ⊢
  split at h
  · exact benchK_mono hH h
  · cases h
theorem k62 {l : List (Nat × Ct)} (g0 : Good P T l) : COk P 62 c62 := by
  have g := g72 (g79 good0)
  refine cok (C := tabC _) g.ok Try.func62 (c := code Try.f62) rfl fun fr args H out h hp => ?_
  unfold c62 at h
  split at h
  · rename_i bid
    obtain ⟨i1, i2, p, n, get, m, get2, e1, e2, e3, h⟩ := benchK_some h
    cases h
    obtain ⟨hs, hs2, hb, hm, hall⟩ : Lims n get ∧ Lims m get2 ∧ ptsB p ∧ m ≤ 5 ∧ ∀ q ∈ facesV lkP p, ofL (limsL m get2) q.1 < m := hp
    refine ⟨bnP i1 bid i2 n m p (liAt get) (liAt get2), [.sp 1 0], bnH n m p (liAt get) (liAt get2), 3, [], rfl, rfl, Nat.le_of_ble_eq_true rfl, bnHand e1 e2 e3 hs hs2, rfl, rfl, fun G hG => ?_⟩
    unfold setV limsL at *
    generalize liAt get = l1
    generalize liAt get2 = l2 at hall ⊢
    obtain ⟨L, hL⟩ : ∃ L, (List.range m).map l2 = L := ⟨_, rfl⟩
    refine Chk.mk ⟨lims_i _ _, lims_i _ _, hb⟩ ?_
    rw [hL] at hall ⊢
    generalize hFv : facesV lkP p = Fv at hall ⊢
    refine fb_range encF encB Fv 3 (g.ok _ _ _) cont_std rfl rfl rfl rfl rfl rfl rfl encF_key encB_cl rfl (by rw [← hFv]; rfl) ?_
    intro hnd ts clock hts
    refine loop_okR (g.ok _ _ _) 3 (fun x : {p : List ((Fc × Bool) × Nat) × List ((Fc × Bool) × Nat) // ts.Perm (p.1 ++ p.2)} => ⟨[(0, ⟨[], .sp 1 0⟩), (2, ⟨[], .si .u64 (gradesN L (x.1.1.map (·.1.1)) : Nat)⟩), (8, ⟨[], .sp 7 0⟩)], [],
      [(7, .it 3 clock (x.1.1.map (·.2)) clock), (3, .map (encS encF encB ts) clock)] ++ bnH n m p l1 l2, 8, []⟩) (fun x => x.1.2.length) hG ⟨([], ts), by simp⟩ (fun j => j) ?_ ?_
    · refine ⟨?_, ?_, rfl, rfl, rfl, rfl, trivial⟩
      · repeat' (first | exact trivial | exact rfl | refine And.intro ?_ ?_)
      · repeat' (first | exact trivial | exact rfl | (intro i hi; exact ⟨rfl, rfl⟩) | refine allV_find ?_ | refine And.intro ?_ ?_)
    · rintro ⟨⟨vis, rest⟩, hp⟩
      have hof : ∀ y ∈ vis ++ rest, ofL L y.1.1 < m := fun y hy => by
        have h1 : y.1 ∈ Fv := hts.mem_iff.1 (List.mem_map_of_mem (f := fun x => x.1) (hp.mem_iff.2 hy))
        exact hall _ h1
      have hpow : ∀ k, k ≤ m → (2 : Nat) ^ k ≤ 32 := fun k hk => Nat.pow_le_pow_right (by decide) (show k ≤ 5 by omega)
      have hset : gradesN L (vis.map (·.1.1)) < 2 ^ m := gradesN_lt fun f hf => by
        obtain ⟨y, hy, rfl⟩ := List.mem_map.1 hf
        exact hof y (List.mem_append_left _ hy)
      have := hpow m (Nat.le_refl _)
      refine fb_next encF encB 3 7 clock ts vis rest (g.ok _ _ _) cont_std rfl rfl rfl rfl rfl encF_key encB_cl rfl rfl rfl hp ⟨fun hr => ?_, ?_⟩
      · replace hr : rest = [] := hr
        subst hr
        have hv : ts.Perm vis := by simpa using hp
        refine Br.mk (fun h => by cases h) (fun _ => ?_)
        refine ⟨.inl rfl, end_noid ⟨rfl, ?_⟩ rfl rfl (by repeat' (first | exact trivial | exact rfl | (intro i hi; exact ⟨rfl, rfl⟩) | refine And.intro ?_ ?_))⟩
        show ((gradesN L (vis.map (·.1.1)) : Nat) : Int) = ((gradesN L (Fv.map (·.1)) : Nat) : Int)
        rw [gradesN_perm (show (vis.map (·.1.1)).Perm (Fv.map (·.1)) from by
          have h2 := ((hv.symm.map (fun x => x.1)).trans hts).map (fun x : Fc × Bool => x.1)
          rw [List.map_map] at h2
          exact h2)]
      · rintro ⟨⟨⟨a, b⟩, bb⟩, st⟩ rest' hrest
        refine Br.mk (fun _ => ?_) (fun h => by cases h)
        have hpts : (((a, b), bb), st) ∈ ts := hp.mem_iff.2 (List.mem_append_right _ (hrest.mem_iff.2 List.mem_cons_self))
        refine fb_entry encF encB 3 7 clock ts vis (((a, b), bb), st) (g.ok _ _ _) cont_std rfl rfl rfl rfl rfl encF_key encB_cl rfl rfl rfl hpts ?_
        have hx : ofL L (a, b) < m := hof (((a, b), bb), st) (hp.mem_iff.1 hpts)
        refine Chk.mk ⟨lims_i _ _, lims_i _ _, by omega, (by show ofL ((List.range m).map l2) (a, b) < m; rw [hL]; exact hx)⟩ ?_
        obtain ⟨x, hxe⟩ : ∃ x, ofL L (a, b) = x := ⟨_, rfl⟩
        have hE : ofL ((List.range m).map l2) (a, b) = x := by rw [hL, hxe]
        rw [hxe] at hx
        have h2x := hpow x (by omega)
        have h2p : 0 < (2 : Nat) ^ x := Nat.pow_pos (by decide)
        have hv1 : (1 * 2 ^ ((ofL ((List.range m).map l2) (a, b) : Nat) : Int).toNat : Int) = ((2 ^ x : Nat) : Int) := by
          rw [hE, Int.toNat_natCast]
          push_cast
          omega
        refine Chk.mk (show (0 : Int) ≤ ((ofL ((List.range m).map l2) (a, b) : Nat) : Int) ∧ ((ofL ((List.range m).map l2) (a, b) : Nat) : Int).toNat ≤ 64 ∧ InK .u64 (1 * 2 ^ ((ofL ((List.range m).map l2) (a, b) : Nat) : Int).toNat) from by
          rw [hv1, hE, Int.toNat_natCast]
          exact ⟨by omega, by omega, by show (0 : Int) ≤ _; omega, by show _ ≤ (18446744073709551615 : Int); omega⟩) ?_
        refine Chk.mk (show (0 : Int) ≤ ((gradesN L (vis.map (·.1.1)) : Nat) : Int) ∧ (0 : Int) ≤ 1 * 2 ^ ((ofL ((List.range m).map l2) (a, b) : Nat) : Int).toNat ∧ InK .u64 ((gradesN L (vis.map (·.1.1)) : Nat) : Int) ∧ InK .u64 (1 * 2 ^ ((ofL ((List.range m).map l2) (a, b) : Nat) : Int).toNat) from by
          rw [hv1]
          exact ⟨by omega, by omega, ⟨by show (0 : Int) ≤ _; omega, by show _ ≤ (18446744073709551615 : Int); omega⟩, by show (0 : Int) ≤ _; omega, by show _ ≤ (18446744073709551615 : Int); omega⟩) ?_
        have hpm : ts.Perm ((vis ++ [(((a, b), bb), st)]) ++ rest') := by
          rw [List.append_assoc]
          exact hp.trans (List.Perm.append_left _ hrest)
        refine ⟨⟨(vis ++ [(((a, b), bb), st)], rest'), hpm⟩, (fun j => j), ?_, (by show rest'.length < rest.length; rw [hrest.length_eq]; simp)⟩
        refine ⟨?_, ?_, rfl, rfl, rfl, rfl, trivial⟩
        · repeat' (first | exact trivial | exact rfl | refine And.intro ?_ ?_)
          show ((((gradesN L (vis.map (·.1.1)) : Nat) : Int).toNat ||| (1 * 2 ^ ((ofL ((List.range m).map l2) (a, b) : Nat) : Int).toNat : Int).toNat : Nat) : Int) = ((gradesN L ((vis ++ [(((a, b), bb), st)]).map (·.1.1)) : Nat) : Int)
          rw [hv1, List.map_append, List.map_singleton, gradesN_snoc, hxe, Int.toNat_natCast, Int.toNat_natCast]
        · repeat' (first | exact trivial | exact rfl | (intro i hi; exact ⟨rfl, rfl⟩) | refine allV_find ?_ | refine And.intro ?_ ?_)
  · cases h
theorem g62 {l : List (Nat × Ct)} (g : Good P T l) : Good P T ((62, c62) :: l) := g.add (k62 g) c62_mono (body_of Try.func62 (c := code Try.f62) rfl (by decide))
end Go.X.Gr
end

section
set_option linter.unusedVariables false
set_option linter.unusedSimpArgs false
set_option linter.unusedSectionVars false
/- Grade: open. -/
set_option linter.unusedVariables false
set_option linter.unusedSimpArgs false
set_option maxRecDepth 10000
set_option maxHeartbeats 4000000
namespace Go.X.Gr
open Go Go.Proofs Go.X

def c48 : Ct := plainCt fun
  | [.si .i64 q] => some ⟨none, none, .sb (inB q 0 4), []⟩
  | _ => none
theorem k48 {l : List (Nat × Ct)} (g0 : Good P T l) : COk P 48 c48 := by
  have g := g91 (g90 good0)
  refine cok (C := tabC _) g.ok Try.func48 (c := code Try.f48) rfl fun fr args H out h hp => ?_
  simp only [c48, plainCt] at h
  split at h
  · cases h
    refine walk_plain rfl (Nat.le_of_ble_eq_true rfl) fun G hG => ?_
    exact ⟨.inl rfl, end_plain rfl rfl rfl⟩
  · cases h
theorem g48 {l : List (Nat × Ct)} (g : Good P T l) : Good P T ((48, c48) :: l) := g.add (k48 g) (plainCt_mono _) (body_of Try.func48 (c := code Try.f48) rfl (by decide))
/-- The cells of a grade, by the id of its limits. -/
def grA (i1 : Nat) (g : Pts) : List SV := [.sl i1, .si .i64 g.l0, .si .i64 g.h0, .si .i64 g.l1, .si .i64 g.h1, .si .i64 g.l2, .si .i64 g.h2, .si .i64 g.l3, .si .i64 g.h3, .si .i64 g.l4, .si .i64 g.h4, .si .i64 g.st]
def gradeK (H : LH) (l : List SV) (K : Nat → Pts → (n : Nat) → (Nat → List SV) → Option COut) : Option COut :=
  match l with
  | [.sl i1, .si .i64 l0, .si .i64 h0, .si .i64 l1, .si .i64 h1, .si .i64 l2, .si .i64 h2, .si .i64 l3, .si .i64 h3, .si .i64 l4, .si .i64 h4, .si .i64 st] => (match sliceOf 2 H i1 with
    | some (n, get) => K i1 ⟨l0, h0, l1, h1, l2, h2, l3, h3, l4, h4, st⟩ n get
    | none => none)
  | _ => none
theorem gradeK_some {H : LH} {l : List SV} {K : Nat → Pts → (n : Nat) → (Nat → List SV) → Option COut} {out : COut} (h : gradeK H l K = some out) :
    ∃ i1 g n get, l = grA i1 g ∧ sliceOf 2 H i1 = some (n, get) ∧ K i1 g n get = some out := by
  unfold gradeK at h
  split at h
  · split at h
    · rename_i e1
      exact ⟨_, ⟨_, _, _, _, _, _, _, _, _, _, _⟩, _, _, rfl, e1, h⟩
    · cases h
  · cases h
theorem gradeK_mono {H H' : LH} {l : List SV} {K : Nat → Pts → (n : Nat) → (Nat → List SV) → Option COut} {out : COut} (hH : ∀ id hb, H id = some hb → H' id = some hb) (h : gradeK H l K = some out) : gradeK H' l K = some out := by
  unfold gradeK at h ⊢
  split at h
  · split at h
    · rename_i e1
      simp only [sliceOf_mono hH e1]
      exact h
    · cases h
  · cases h
def c65 : Ct := fun fr args H => match args with
  | [.agg l, .si .i64 q] => gradeK H l fun i1 g n get => some ⟨some (Lims n get ∧ n ≤ 1000000), none, .sb (inB q 0 ((n : Int) - 1)), []⟩
  | _ => none
theorem c65_mono : CtMono c65 := by
  intro fr args H H' out hH h
  unfold c65 at h ⊢
  split at h
  · exact gradeK_mono hH h
  · cases h
theorem k65 {l : List (Nat × Ct)} (g0 : Good P T l) : COk P 65 c65 := by
  have g := g91 good0
  refine cok (C := tabC _) g.ok Try.func65 (c := code Try.f65) rfl fun fr args H out h hp => ?_
  unfold c65 at h
  split at h
  · rename_i l q
    obtain ⟨i1, p, n, get, rfl, e1, h⟩ := gradeK_some h
    cases h
    obtain ⟨hs, hn⟩ : Lims n get ∧ n ≤ 1000000 := hp
    have hh : Hand H [(i1, .ro 2 n fun i => liC (liAt get i))] := hand_one e1 (fun i => rfl) (fun i hi => (hs i hi).symm)
    refine ⟨[(i1, .ro 2 n fun i => liC (liAt get i))], [.agg (grA 0 p), .si .i64 q], [(0, .ro 2 n fun i => liC (liAt get i))], 1, [], rfl, rfl, Nat.le_of_ble_eq_true rfl, hh, rfl, rfl, fun G hG => ?_⟩
    refine Chk.mk (show InK .i64 ((n : Int) - 1) from ⟨by show (-9223372036854775808 : Int) ≤ _; omega, by show _ ≤ (9223372036854775807 : Int); omega⟩) ?_
    exact ⟨.inl rfl, end_noid rfl rfl rfl (by repeat' (first | exact trivial | exact rfl | (intro i hi; exact ⟨rfl, rfl⟩) | refine And.intro ?_ ?_))⟩
  · cases h
theorem g65 {l : List (Nat × Ct)} (g : Good P T l) : Good P T ((65, c65) :: l) := g.add (k65 g) c65_mono (body_of Try.func65 (c := code Try.f65) rfl (by decide))
end Go.X.Gr
end

section
set_option linter.unusedVariables false
set_option linter.unusedSimpArgs false
set_option linter.unusedSectionVars false
/- Grade: open. -/
set_option linter.unusedVariables false
set_option linter.unusedSimpArgs false
set_option maxRecDepth 10000
set_option maxHeartbeats 4000000
namespace Go.X.Gr
open Go Go.Proofs Go.X

def headB (n : Nat) (st : Int) : Bool := inB n 1 4 && inB st 0 10
def limB (p l : Int × Int) : Bool := inB l.1 p.1 20 && inB l.2 p.2 20
def limsB : Int × Int → List (Int × Int) → Bool
  | _, [] => true
  | p, l :: r => limB p l && limsB l r
def ptB (lo hi : Int) : Bool := (decide (-20 ≤ lo) && decide (lo ≤ hi) && decide (hi ≤ 20)) && decide (hi - lo ≤ 6)
/-- Are the first points valid? -/
def ptI (g : Pts) : Nat → Bool
  | 0 => true
  | 1 => ptB g.l0 g.h0
  | 2 => ptB g.l0 g.h0 && ptB g.l1 g.h1
  | 3 => (ptB g.l0 g.h0 && ptB g.l1 g.h1) && ptB g.l2 g.h2
  | 4 => ((ptB g.l0 g.h0 && ptB g.l1 g.h1) && ptB g.l2 g.h2) && ptB g.l3 g.h3
  | _ => (((ptB g.l0 g.h0 && ptB g.l1 g.h1) && ptB g.l2 g.h2) && ptB g.l3 g.h3) && ptB g.l4 g.h4
def gradeOk (g : Pts) (L : List (Int × Int)) : Bool := headB L.length g.st && (limsB (0, 0) L && ptI g 5)
def errG (g : Pts) (L : List (Int × Int)) (is : Bool) : Int := if gradeOk g L = true then (if is = true then 0 else 2) else 1
def lims2 (n : Nat) (l : Nat → Int × Int) (i : Nat) : Int × Int := if i < n then l i else (40, 40)
def c47 : Ct := fun fr args H => match args with
  | [.agg l, .sb is] => gradeK H l fun i1 g n get => some ⟨some (Lims n get ∧ n ≤ 1000000), some (!decide (errG g (limsL n get) is = 0), refP (errG g (limsL n get) is)), .sp fr 0,
      [(fr, .cells 108 (bnX i1 (fr + 1) g)), (fr + 1, .vec 51 2 (n + 1) fun i => liC (lims2 n (liAt get) i))]⟩
  | _ => none
theorem c47_mono : CtMono c47 := by
  intro fr args H H' out hH h
  unfold c47 at h ⊢
  split at h
  · exact gradeK_mono hH h
  · cases h
def lastL (L : Nat → Int × Int) : Nat → Int × Int
  | 0 => (0, 0)
  | i + 1 => L i
theorem k47 {l : List (Nat × Ct)} (g0 : Good P T l) : COk P 47 c47 := by
  have g := g74 (g91 good0)
  refine cok (C := tabC _) g.ok Try.func47 (c := code Try.f47) rfl fun fr args H out h hp => ?_
  unfold c47 at h
  split at h
  case h_2 => cases h
  rename_i l is
  obtain ⟨i1, p, n, get, rfl, e1, h⟩ := gradeK_some h
  cases h
  obtain ⟨hs, hn⟩ : Lims n get ∧ n ≤ 1000000 := hp
  have hh : Hand H [(i1, .ro 2 n fun i => liC (liAt get i))] := hand_one e1 (fun i => rfl) (fun i hi => (hs i hi).symm)
  refine ⟨[(i1, .ro 2 n fun i => liC (liAt get i))], [.agg (grA 0 p), .sb is], [(0, .ro 2 n fun i => liC (liAt get i))], 1, [10, 3], rfl, rfl, Nat.le_of_ble_eq_true rfl, hh, rfl, rfl, fun G hG => ?_⟩
  have hE : errG p (limsL n get) is = if headB n p.st = true then (if limsB (0, 0) ((List.range n).map (liAt get)) = true then (if ptI p 5 = true then (if is = true then 0 else 2) else 1) else 1) else 1 := by
    unfold errG gradeOk limsL
    rw [List.length_map, List.length_range]
    cases headB n p.st <;> cases limsB (0, 0) ((List.range n).map (liAt get)) <;> cases ptI p 5 <;> rfl
  generalize errG p (limsL n get) is = E at hE ⊢
  generalize liAt get = L at hE ⊢
  refine Br.mk (fun h => ?_) (fun h => ?_)
  · have h : (!headB n p.st) = true := h
    have h : headB n p.st = false := by simpa using h
    rw [h] at hE
    simp only [Bool.false_eq_true, if_false] at hE
    subst hE
    exact ⟨rfl, trivial, trivial⟩
  have h : (!headB n p.st) = false := h
  have h : headB n p.st = true := by simpa using h
  rw [if_pos h] at hE
  have hn4 : n ≤ 4 := by
    simp only [headB, inB, Bool.and_eq_true, decide_eq_true_eq] at h
    omega
  obtain ⟨V, hV⟩ : ∃ V, limsB (0, 0) ((List.range n).map L) = V := ⟨_, rfl⟩
  rw [hV] at hE
  have hdrop : ∀ i, i < n → (List.range' i (n - i)).map L = L i :: (List.range' (i + 1) (n - (i + 1))).map L := fun i hi => by
    rw [show n - i = (n - (i + 1)) + 1 by omega, List.range'_succ, List.map_cons]
  refine loop_okR (g.ok _ _ _) 1 (fun x : {i : Nat // i ≤ n ∧ limsB (lastL L i) ((List.range' i (n - i)).map L) = V} => ⟨[(1, ⟨[], .sb is⟩), (2, ⟨[], .sp 1 0⟩), (5, ⟨[], .sp 2 0⟩), (23, ⟨[], .sl 0⟩), (24, ⟨[], .si .i64 n⟩), (25, ⟨[], .si .i64 x.1⟩)], [],
    [(2, .cells 51 (liC (lastL L x.1))), (1, .cells 27 (grA 0 p)), (0, .ro 2 n fun i => liC (L i))], 3, []⟩) (fun x => n - x.1) hG ⟨0, Nat.zero_le _, by rw [← hV, List.range_eq_range']; rfl⟩ (fun j => j) ?_ ?_
  · refine ⟨?_, ?_, rfl, rfl, rfl, rfl, trivial⟩ <;> repeat' (first | exact trivial | exact rfl | (intro i hi; exact ⟨rfl, rfl⟩) | refine And.intro ?_ ?_)
  rintro ⟨i, hi, hv⟩
  refine Br.mk (fun h1 => ?_) (fun h1 => ?_)
  · have h1 : (i : Int) < (n : Int) := of_decide_eq_true h1
    refine Chk.mk (show (0 : Int) ≤ (i : Int) ∧ (i : Int) < (n : Int) from ⟨by omega, h1⟩) ?_
    rw [hdrop i (by omega)] at hv
    refine Br.mk (fun h2 => ?_) (fun h2 => ?_)
    · have h2 : (!limB (lastL L i) (L i)) = true := h2
      have h2 : limB (lastL L i) (L i) = false := by simpa using h2
      rw [limsB, h2] at hv
      have hv : false = V := hv
      subst hv
      simp only [Bool.false_eq_true, if_false] at hE
      subst hE
      exact ⟨rfl, trivial, trivial⟩
    · have h2 : (!limB (lastL L i) (L i)) = false := h2
      have h2 : limB (lastL L i) (L i) = true := by simpa using h2
      rw [limsB, h2, Bool.true_and] at hv
      refine Chk.mk (show InK .i64 ((i : Int) + 1) from ⟨by omega, by omega⟩) ⟨⟨i + 1, by omega, hv⟩, (fun j => j), ?_, by show n - (i + 1) < n - i; omega⟩
      refine ⟨?_, ?_, rfl, rfl, rfl, rfl, trivial⟩ <;> repeat' (first | exact trivial | exact rfl | (intro i hi; exact ⟨rfl, rfl⟩) | refine And.intro ?_ ?_)
  have h1 : ¬ (i : Int) < (n : Int) := of_decide_eq_false h1
  obtain rfl : i = n := by omega
  rw [show i - i = 0 by omega] at hv
  have hv : true = V := hv
  subst hv
  rw [if_pos rfl] at hE
  refine loop_okR (g.ok _ _ _) 1 (fun x : {j : Nat // j ≤ 5 ∧ ptI p j = true} => ⟨[(1, ⟨[], .sb is⟩), (2, ⟨[], .sp 1 0⟩), (45, ⟨[], .agg [.si .i64 p.l0, .si .i64 p.h0, .si .i64 p.l1, .si .i64 p.h1, .si .i64 p.l2, .si .i64 p.h2, .si .i64 p.l3, .si .i64 p.h3, .si .i64 p.l4, .si .i64 p.h4]⟩), (46, ⟨[], .si .i64 x.1⟩)], [],
    [(1, .cells 27 (grA 0 p)), (0, .ro 2 i fun i => liC (L i))], 3, []⟩) (fun x => 5 - x.1) hG ⟨0, Nat.zero_le _, rfl⟩ (fun j => j) ?_ ?_
  · refine ⟨?_, ?_, rfl, rfl, rfl, rfl, trivial⟩ <;> repeat' (first | exact trivial | exact rfl | (intro i hi; exact ⟨rfl, rfl⟩) | refine And.intro ?_ ?_)
  rintro ⟨j, hj, hpj⟩
  rcases (show j = 0 ∨ j = 1 ∨ j = 2 ∨ j = 3 ∨ j = 4 ∨ j = 5 by omega) with rfl | rfl | rfl | rfl | rfl | rfl
  · refine Br.mk (fun _ => ?_) (fun h => by cases h)
    refine Chk.mk (bnd 0 5 rfl) ?_
    refine Chk.mk (fun h2 => ?_) ?_
    · have h2 : (decide (-20 ≤ p.l0) && decide (p.l0 ≤ p.h0) && decide (p.h0 ≤ 20)) = true := h2
      simp only [Bool.and_eq_true, decide_eq_true_eq] at h2
      show _ ≤ p.h0 - p.l0 ∧ p.h0 - p.l0 ≤ _
      omega
    refine Br.mk (fun h2 => ?_) (fun h2 => ?_)
    · have h2 : (!ptB p.l0 p.h0) = true := h2
      have h2 : ptB p.l0 p.h0 = false := by simpa using h2
      have h3 : ptI p 5 = false := by simp [ptI, h2]
      rw [h3] at hE
      simp only [Bool.false_eq_true, if_false] at hE
      subst hE
      exact ⟨rfl, trivial, trivial⟩
    · have h2 : (!ptB p.l0 p.h0) = false := h2
      have h2 : ptB p.l0 p.h0 = true := by simpa using h2
      refine Chk.mk (ink1 0 rfl) ⟨⟨1, by omega, h2⟩, (fun j => j), ?_, by show 5 - 1 < 5 - 0; omega⟩
      refine ⟨?_, ?_, rfl, rfl, rfl, rfl, trivial⟩ <;> repeat' (first | exact trivial | exact rfl | (intro i hi; exact ⟨rfl, rfl⟩) | refine And.intro ?_ ?_)
  · refine Br.mk (fun _ => ?_) (fun h => by cases h)
    refine Chk.mk (bnd 1 5 rfl) ?_
    refine Chk.mk (fun h2 => ?_) ?_
    · have h2 : (decide (-20 ≤ p.l1) && decide (p.l1 ≤ p.h1) && decide (p.h1 ≤ 20)) = true := h2
      simp only [Bool.and_eq_true, decide_eq_true_eq] at h2
      show _ ≤ p.h1 - p.l1 ∧ p.h1 - p.l1 ≤ _
      omega
    refine Br.mk (fun h2 => ?_) (fun h2 => ?_)
    · have h2 : (!ptB p.l1 p.h1) = true := h2
      have h2 : ptB p.l1 p.h1 = false := by simpa using h2
      have h3 : ptI p 5 = false := by simp [ptI, h2]
      rw [h3] at hE
      simp only [Bool.false_eq_true, if_false] at hE
      subst hE
      exact ⟨rfl, trivial, trivial⟩
    · have h2 : (!ptB p.l1 p.h1) = false := h2
      have h2 : ptB p.l1 p.h1 = true := by simpa using h2
      refine Chk.mk (ink1 1 rfl) ⟨⟨2, by omega, (show (ptI p 1 && ptB p.l1 p.h1) = true from by rw [show ptI p 1 = true from hpj, h2]; rfl)⟩, (fun j => j), ?_, by show 5 - 2 < 5 - 1; omega⟩
      refine ⟨?_, ?_, rfl, rfl, rfl, rfl, trivial⟩ <;> repeat' (first | exact trivial | exact rfl | (intro i hi; exact ⟨rfl, rfl⟩) | refine And.intro ?_ ?_)
  · refine Br.mk (fun _ => ?_) (fun h => by cases h)
    refine Chk.mk (bnd 2 5 rfl) ?_
    refine Chk.mk (fun h2 => ?_) ?_
    · have h2 : (decide (-20 ≤ p.l2) && decide (p.l2 ≤ p.h2) && decide (p.h2 ≤ 20)) = true := h2
      simp only [Bool.and_eq_true, decide_eq_true_eq] at h2
      show _ ≤ p.h2 - p.l2 ∧ p.h2 - p.l2 ≤ _
      omega
    refine Br.mk (fun h2 => ?_) (fun h2 => ?_)
    · have h2 : (!ptB p.l2 p.h2) = true := h2
      have h2 : ptB p.l2 p.h2 = false := by simpa using h2
      have h3 : ptI p 5 = false := by simp [ptI, h2]
      rw [h3] at hE
      simp only [Bool.false_eq_true, if_false] at hE
      subst hE
      exact ⟨rfl, trivial, trivial⟩
    · have h2 : (!ptB p.l2 p.h2) = false := h2
      have h2 : ptB p.l2 p.h2 = true := by simpa using h2
      refine Chk.mk (ink1 2 rfl) ⟨⟨3, by omega, (show (ptI p 2 && ptB p.l2 p.h2) = true from by rw [show ptI p 2 = true from hpj, h2]; rfl)⟩, (fun j => j), ?_, by show 5 - 3 < 5 - 2; omega⟩
      refine ⟨?_, ?_, rfl, rfl, rfl, rfl, trivial⟩ <;> repeat' (first | exact trivial | exact rfl | (intro i hi; exact ⟨rfl, rfl⟩) | refine And.intro ?_ ?_)
  · refine Br.mk (fun _ => ?_) (fun h => by cases h)
    refine Chk.mk (bnd 3 5 rfl) ?_
    refine Chk.mk (fun h2 => ?_) ?_
    · have h2 : (decide (-20 ≤ p.l3) && decide (p.l3 ≤ p.h3) && decide (p.h3 ≤ 20)) = true := h2
      simp only [Bool.and_eq_true, decide_eq_true_eq] at h2
      show _ ≤ p.h3 - p.l3 ∧ p.h3 - p.l3 ≤ _
      omega
    refine Br.mk (fun h2 => ?_) (fun h2 => ?_)
    · have h2 : (!ptB p.l3 p.h3) = true := h2
      have h2 : ptB p.l3 p.h3 = false := by simpa using h2
      have h3 : ptI p 5 = false := by simp [ptI, h2]
      rw [h3] at hE
      simp only [Bool.false_eq_true, if_false] at hE
      subst hE
      exact ⟨rfl, trivial, trivial⟩
    · have h2 : (!ptB p.l3 p.h3) = false := h2
      have h2 : ptB p.l3 p.h3 = true := by simpa using h2
      refine Chk.mk (ink1 3 rfl) ⟨⟨4, by omega, (show (ptI p 3 && ptB p.l3 p.h3) = true from by rw [show ptI p 3 = true from hpj, h2]; rfl)⟩, (fun j => j), ?_, by show 5 - 4 < 5 - 3; omega⟩
      refine ⟨?_, ?_, rfl, rfl, rfl, rfl, trivial⟩ <;> repeat' (first | exact trivial | exact rfl | (intro i hi; exact ⟨rfl, rfl⟩) | refine And.intro ?_ ?_)
  · refine Br.mk (fun _ => ?_) (fun h => by cases h)
    refine Chk.mk (bnd 4 5 rfl) ?_
    refine Chk.mk (fun h2 => ?_) ?_
    · have h2 : (decide (-20 ≤ p.l4) && decide (p.l4 ≤ p.h4) && decide (p.h4 ≤ 20)) = true := h2
      simp only [Bool.and_eq_true, decide_eq_true_eq] at h2
      show _ ≤ p.h4 - p.l4 ∧ p.h4 - p.l4 ≤ _
      omega
    refine Br.mk (fun h2 => ?_) (fun h2 => ?_)
    · have h2 : (!ptB p.l4 p.h4) = true := h2
      have h2 : ptB p.l4 p.h4 = false := by simpa using h2
      have h3 : ptI p 5 = false := by simp [ptI, h2]
      rw [h3] at hE
      simp only [Bool.false_eq_true, if_false] at hE
      subst hE
      exact ⟨rfl, trivial, trivial⟩
    · have h2 : (!ptB p.l4 p.h4) = false := h2
      have h2 : ptB p.l4 p.h4 = true := by simpa using h2
      refine Chk.mk (ink1 4 rfl) ⟨⟨5, by omega, (show (ptI p 4 && ptB p.l4 p.h4) = true from by rw [show ptI p 4 = true from hpj, h2]; rfl)⟩, (fun j => j), ?_, by show 5 - 5 < 5 - 4; omega⟩
      refine ⟨?_, ?_, rfl, rfl, rfl, rfl, trivial⟩ <;> repeat' (first | exact trivial | exact rfl | (intro i hi; exact ⟨rfl, rfl⟩) | refine And.intro ?_ ?_)
  refine Br.mk (fun h => by cases h) (fun _ => ?_)
  rw [if_pos hpj] at hE
  refine Br.mk (fun h2 => ?_) (fun h2 => ?_)
  · have h2 : (!is) = true := h2
    have h2 : is = false := by simpa using h2
    subst h2
    simp only [Bool.false_eq_true, if_false] at hE
    subst hE
    exact ⟨rfl, trivial, trivial⟩
  have h2 : (!is) = false := h2
  have h2 : is = true := by simpa using h2
  subst h2
  rw [if_pos rfl] at hE
  subst hE
  refine (show SemC _ _ _ _ from ?_)
  refine any_region fol ?_
  refine any_take 1 (g.ok _ _ _) rfl rfl rfl rfl rfl rfl rfl (by kernel_rfl) (by kernel_rfl) (by kernel_rfl) ?_
  refine any_fork [0, 2] ⟨[(76, ⟨[], .agg (grA 0 p)⟩), (81, ⟨[], .sl 3⟩), (2, ⟨[], .sp 1 0⟩)], [], [(3, .vec 51 2 (i + 1) fun _ => [.si .i64 0, .si .i64 0]), (1, .cells 27 (grA 0 p)), (0, .ro 2 i fun i => liC (L i))], 10, []⟩ 3 #[true, true, true, true, true, true, false, false, false] (g.ok _ _ _) (by kernel_rfl) (by decide) (fun K hK => ⟨?_, ?_, trivial⟩) ?_
  · skip
    refine any_step [2] (g.ok _ _ _) (by kernel_rfl) (by decide) ⟨?_, trivial⟩
    refine any_step [3] (g.ok _ _ _) (by kernel_rfl) (by decide) ⟨?_, trivial⟩
    refine any_step [4] (g.ok _ _ _) (by kernel_rfl) (by decide) ⟨?_, trivial⟩
    refine Chk.mk (show InK .i64 ((i : Int) + 1) from ⟨by omega, by omega⟩) ?_
    refine any_step [5] (g.ok _ _ _) (by kernel_rfl) (by decide) ⟨?_, trivial⟩
    refine fb_makeVec (i + 1) (g.ok _ _ _) cont_any rfl rfl rfl rfl rfl rfl rfl rfl rfl rfl (by decide) (by omega) rfl rfl ?_
    exact any_weaken 1 (fun j => j) hG (by refine ⟨?_, ?_, injI_id _, rfl, rfl, rfl, trivial⟩ <;> repeat' (first | exact trivial | exact rfl | (intro i hi; exact ⟨rfl, rfl⟩) | refine And.intro ?_ ?_)) hK
  · skip
    refine any_step [0, 3] (g.ok _ _ _) (by kernel_rfl) (by decide) ⟨?_, ?_, trivial⟩
    · skip
      refine any_step [3] (g.ok _ _ _) (by kernel_rfl) (by decide) ⟨?_, trivial⟩
      refine any_step [4] (g.ok _ _ _) (by kernel_rfl) (by decide) ⟨?_, trivial⟩
      refine Chk.mk (show InK .i64 ((i : Int) + 1) from ⟨by omega, by omega⟩) ?_
      refine any_step [5] (g.ok _ _ _) (by kernel_rfl) (by decide) ⟨?_, trivial⟩
      refine fb_makeVec (i + 1) (g.ok _ _ _) cont_any rfl rfl rfl rfl rfl rfl rfl rfl rfl rfl (by decide) (by omega) rfl rfl ?_
      exact any_weaken 1 (fun j => j) hG (by refine ⟨?_, ?_, injI_id _, rfl, rfl, rfl, trivial⟩ <;> repeat' (first | exact trivial | exact rfl | (intro i hi; exact ⟨rfl, rfl⟩) | refine And.intro ?_ ?_)) hK
    · skip
      refine any_step [0, 4] (g.ok _ _ _) (by kernel_rfl) (by decide) ⟨?_, ?_, trivial⟩
      · skip
        refine any_step [4] (g.ok _ _ _) (by kernel_rfl) (by decide) ⟨?_, trivial⟩
        refine Chk.mk (show InK .i64 ((i : Int) + 1) from ⟨by omega, by omega⟩) ?_
        refine any_step [5] (g.ok _ _ _) (by kernel_rfl) (by decide) ⟨?_, trivial⟩
        refine fb_makeVec (i + 1) (g.ok _ _ _) cont_any rfl rfl rfl rfl rfl rfl rfl rfl rfl rfl (by decide) (by omega) rfl rfl ?_
        exact any_weaken 1 (fun j => j) hG (by refine ⟨?_, ?_, injI_id _, rfl, rfl, rfl, trivial⟩ <;> repeat' (first | exact trivial | exact rfl | (intro i hi; exact ⟨rfl, rfl⟩) | refine And.intro ?_ ?_)) hK
      · skip
        refine Chk.mk (show InK .i64 ((i : Int) + 1) from ⟨by omega, by omega⟩) ?_
        refine any_step [0, 5] (g.ok _ _ _) (by kernel_rfl) (by decide) ⟨?_, ?_, trivial⟩
        · skip
          refine any_step [5] (g.ok _ _ _) (by kernel_rfl) (by decide) ⟨?_, trivial⟩
          refine fb_makeVec (i + 1) (g.ok _ _ _) cont_any rfl rfl rfl rfl rfl rfl rfl rfl rfl rfl (by decide) (by omega) rfl rfl ?_
          exact any_weaken 1 (fun j => j) hG (by refine ⟨?_, ?_, injI_id _, rfl, rfl, rfl, trivial⟩ <;> repeat' (first | exact trivial | exact rfl | (intro i hi; exact ⟨rfl, rfl⟩) | refine And.intro ?_ ?_)) hK
        · skip
          refine fb_makeVec (i + 1) (g.ok _ _ _) cont_any rfl rfl rfl rfl rfl rfl rfl rfl rfl rfl (by decide) (by omega) rfl rfl ?_
          refine any_step [0] (g.ok _ _ _) (by kernel_rfl) (by decide) ⟨?_, trivial⟩
          exact any_weaken 1 (fun j => j) hG (by refine ⟨?_, ?_, injI_id _, rfl, rfl, rfl, trivial⟩ <;> repeat' (first | exact trivial | exact rfl | (intro i hi; exact ⟨rfl, rfl⟩) | refine And.intro ?_ ?_)) hK
  refine any_step [6] (g.ok _ _ _) (by kernel_rfl) (by decide) ⟨?_, trivial⟩
  refine any_step [7] (g.ok _ _ _) (by kernel_rfl) (by decide) ⟨?_, trivial⟩
  refine any_step [8] (g.ok _ _ _) (by kernel_rfl) (by decide) ⟨?_, trivial⟩
  refine any_done (by kernel_rfl) ?_
  refine drawn_ok (g.ok _ _ _) fol [0,1,3,7,0,16,63] [] 6 (by kernel_rfl) ?_
  refine fb_copy 3 0 (i + 1) i (fun _ => [.si .i64 0, .si .i64 0]) (fun j => liC (L j)) (fun j => if j < i then liC (L j) else [.si .i64 0, .si .i64 0]) (g.ok _ _ _) cont_std rfl rfl rfl rfl rfl rfl rfl rfl rfl rfl rfl rfl rfl rfl rfl (by decide) (fun j hj => rfl) ?_
  refine (show SemC _ _ _ _ from ?_)
  refine drawn_ok (g.ok _ _ _) fol [0,1,3,7,0,16,48,0,255,511] [] 9 (by kernel_rfl) ?_
  refine Chk.mk (show (0 : Int) ≤ (i : Int) ∧ (i : Int) < ((i + 1 : Nat) : Int) from ⟨by omega, by omega⟩) ?_
  refine fb_storeV 3 51 2 (i + 1) i 0 (fun j => if j < i then liC (L j) else [.si .i64 0, .si .i64 0]) (fun j => liC (lims2 i L j)) [.si .i64 40, .si .i64 40] (g.ok _ _ _) cont_std rfl rfl rfl rfl rfl rfl rfl rfl rfl rfl (by omega) (by decide) (fun j hj => ?_) ?_
  · unfold lims2
    by_cases hji : j < i
    · rw [if_pos hji, if_neg (show ¬ j = (i : Int).toNat by omega), if_pos hji]
    · rw [if_neg hji, if_pos (show j = (i : Int).toNat by omega), if_neg hji]
      rfl
  exact ⟨.inr ⟨_, rfl⟩, ⟨⟨rfl, rfl⟩, rfl, (by repeat' (first | exact trivial | exact rfl | (intro i hi; exact ⟨rfl, rfl⟩) | refine And.intro ?_ ?_)), (by repeat' (first | exact trivial | exact rfl | (intro i hi; exact ⟨rfl, rfl⟩) | refine And.intro ?_ ?_)), rfl, rfl⟩⟩
theorem g47 {l : List (Nat × Ct)} (g : Good P T l) : Good P T ((47, c47) :: l) := g.add (k47 g) c47_mono (body_of Try.func47 (c := code Try.f47) rfl (by decide))
end Go.X.Gr
end

section
set_option linter.unusedVariables false
set_option linter.unusedSimpArgs false
set_option linter.unusedSectionVars false
/- Grade: Varies, Off. -/
set_option linter.unusedVariables false
set_option linter.unusedSimpArgs false
set_option maxRecDepth 10000
set_option maxHeartbeats 4000000
namespace Go.X.Gr
open Go Go.Proofs Go.X

theorem gradeOk_b {g : Pts} {L : List (Int × Int)} (h : gradeOk g L = true) : ptsB g ∧ 1 ≤ L.length ∧ L.length ≤ 4 := by
  simp only [gradeOk, headB, inB, ptI, ptB, Bool.and_eq_true, decide_eq_true_eq] at h
  unfold ptsB
  omega
theorem errG_zero {g : Pts} {L : List (Int × Int)} {is : Bool} (h : errG g L is = 0) : gradeOk g L = true ∧ is = true := by
  unfold errG at h
  split at h
  · rename_i h1
    split at h
    · rename_i h2; exact ⟨h1, h2⟩
    · cases h
  · cases h
/-- The error of a span. -/
def errS (F : Int → Int → Int → Int → Int → Int) (g : Pts) (L : List (Int × Int)) (is : Bool) : Int := if errG g L is = 0 then (if bSpan (spanG F g) = true then 0 else 10) else errG g L is
def resS (F : Int → Int → Int → Int → Int → Int) (g : Pts) (L : List (Int × Int)) (is : Bool) : Int × Int := if errG g L is = 0 then vSpan (spanG F g) else (0, 0)
def spanE (F : Int → Int → Int → Int → Int → Int) : Ct := fun fr args H => match args with
  | [.agg l] => gradeK H l fun i1 g n get => some ⟨some (Lims n get ∧ n ≤ 1000000), none, .tup [.agg [.si .i64 (resS F g (limsL n get) true).1, .si .i64 (resS F g (limsL n get) true).2], .si .i64 (errS F g (limsL n get) true)], []⟩
  | _ => none
theorem spanE_mono (F : Int → Int → Int → Int → Int → Int) : CtMono (spanE F) := by
  intro fr args H H' out hH h
  unfold spanE at h ⊢
  split at h
  · exact gradeK_mono hH h
  · cases h
theorem k17 {l : List (Nat × Ct)} (g0 : Good P T l) : COk P 17 (spanE varV) := by
  have g := g47 (g49 good0)
  refine cokCM (C := tabC _) g.ok an54 Try.func17 (c := code Try.f17) rfl fun fr args H out h hp => ?_
  unfold spanE at h
  split at h
  case h_2 => cases h
  rename_i l
  obtain ⟨i1, p, n, get, rfl, e1, h⟩ := gradeK_some h
  cases h
  obtain ⟨hs, hn⟩ : Lims n get ∧ n ≤ 1000000 := hp
  have hh : Hand H [(i1, .ro 2 n fun i => liC (liAt get i))] := hand_one e1 (fun i => rfl) (fun i hi => (hs i hi).symm)
  refine ⟨[(i1, .ro 2 n fun i => liC (liAt get i))], [.agg (grA 0 p)], [(0, .ro 2 n fun i => liC (liAt get i))], 1, [], rfl, rfl, Nat.le_of_ble_eq_true rfl, hh, rfl, rfl, fun G hG => ?_⟩
  unfold limsL
  refine fb_deferC 54 3 (g.ok _ _ _) rfl cont_std rfl rfl rfl rfl rfl rfl rfl ?_
  refine Chk.mk ⟨lims_i _ _, hn⟩ ?_
  obtain ⟨E, hE⟩ : ∃ E, errG p ((List.range n).map (liAt get)) true = E := ⟨_, rfl⟩
  refine Br.mk (fun h => ?_) (fun h => ?_)
  · have h : (!decide (errG p ((List.range n).map (liAt get)) true = 0)) = true := h
    have h : ¬ errG p ((List.range n).map (liAt get)) true = 0 := by simpa using h
    refine ⟨.inl rfl, end_noid ⟨⟨⟨rfl, ?_⟩, ⟨rfl, ?_⟩, trivial⟩, ⟨rfl, ?_⟩, trivial⟩ rfl rfl (by repeat' (first | exact trivial | exact rfl | (intro i hi; exact ⟨rfl, rfl⟩) | refine And.intro ?_ ?_))⟩
    · show (0 : Int) = (resS varV p ((List.range n).map (liAt get)) true).1
      rw [resS, if_neg h]
    · show (0 : Int) = (resS varV p ((List.range n).map (liAt get)) true).2
      rw [resS, if_neg h]
    · show errG p ((List.range n).map (liAt get)) true = errS varV p ((List.range n).map (liAt get)) true
      rw [errS, if_neg h]
  have h : (!decide (errG p ((List.range n).map (liAt get)) true = 0)) = false := h
  have h : errG p ((List.range n).map (liAt get)) true = 0 := by simpa using h
  have hb := (gradeOk_b (errG_zero h).1).1
  have hr : resS varV p ((List.range n).map (liAt get)) true = vSpan (spanG varV p) := by rw [resS, if_pos h]
  have he : errS varV p ((List.range n).map (liAt get)) true = if bSpan (spanG varV p) = true then 0 else 10 := by rw [errS, if_pos h]
  rw [hr, he]
  refine Chk.mk ⟨lims_i _ _, lims_i _ _, hb⟩ ?_
  refine Br.mk (fun h2 => ?_) (fun h2 => ?_)
  · have h2 : (!bSpan (spanG varV p)) = true := h2
    cases hS : spanG varV p with
    | none => exact ⟨.inl rfl, end_noid ⟨⟨⟨rfl, rfl⟩, ⟨rfl, rfl⟩, trivial⟩, ⟨rfl, rfl⟩, trivial⟩ rfl rfl (by repeat' (first | exact trivial | exact rfl | (intro i hi; exact ⟨rfl, rfl⟩) | refine And.intro ?_ ?_))⟩
    | some x => rw [hS] at h2; cases h2
  · have h2 : (!bSpan (spanG varV p)) = false := h2
    cases hS : spanG varV p with
    | none => rw [hS] at h2; cases h2
    | some x => exact ⟨.inl rfl, end_noid ⟨⟨⟨rfl, rfl⟩, ⟨rfl, rfl⟩, trivial⟩, ⟨rfl, rfl⟩, trivial⟩ rfl rfl (by repeat' (first | exact trivial | exact rfl | (intro i hi; exact ⟨rfl, rfl⟩) | refine And.intro ?_ ?_))⟩
theorem g17 {l : List (Nat × Ct)} (g : Good P T l) : Good P T ((17, spanE varV) :: l) := g.add (k17 g) (spanE_mono _) (body_of Try.func17 (c := code Try.f17) rfl (by decide))
theorem k19 {l : List (Nat × Ct)} (g0 : Good P T l) : COk P 19 (spanE offV) := by
  have g := g47 (g49 good0)
  refine cokCM (C := tabC _) g.ok an57 Try.func19 (c := code Try.f19) rfl fun fr args H out h hp => ?_
  unfold spanE at h
  split at h
  case h_2 => cases h
  rename_i l
  obtain ⟨i1, p, n, get, rfl, e1, h⟩ := gradeK_some h
  cases h
  obtain ⟨hs, hn⟩ : Lims n get ∧ n ≤ 1000000 := hp
  have hh : Hand H [(i1, .ro 2 n fun i => liC (liAt get i))] := hand_one e1 (fun i => rfl) (fun i hi => (hs i hi).symm)
  refine ⟨[(i1, .ro 2 n fun i => liC (liAt get i))], [.agg (grA 0 p)], [(0, .ro 2 n fun i => liC (liAt get i))], 1, [], rfl, rfl, Nat.le_of_ble_eq_true rfl, hh, rfl, rfl, fun G hG => ?_⟩
  unfold limsL
  refine fb_deferC 57 3 (g.ok _ _ _) rfl cont_std rfl rfl rfl rfl rfl rfl rfl ?_
  refine Chk.mk ⟨lims_i _ _, hn⟩ ?_
  obtain ⟨E, hE⟩ : ∃ E, errG p ((List.range n).map (liAt get)) true = E := ⟨_, rfl⟩
  refine Br.mk (fun h => ?_) (fun h => ?_)
  · have h : (!decide (errG p ((List.range n).map (liAt get)) true = 0)) = true := h
    have h : ¬ errG p ((List.range n).map (liAt get)) true = 0 := by simpa using h
    refine ⟨.inl rfl, end_noid ⟨⟨⟨rfl, ?_⟩, ⟨rfl, ?_⟩, trivial⟩, ⟨rfl, ?_⟩, trivial⟩ rfl rfl (by repeat' (first | exact trivial | exact rfl | (intro i hi; exact ⟨rfl, rfl⟩) | refine And.intro ?_ ?_))⟩
    · show (0 : Int) = (resS offV p ((List.range n).map (liAt get)) true).1
      rw [resS, if_neg h]
    · show (0 : Int) = (resS offV p ((List.range n).map (liAt get)) true).2
      rw [resS, if_neg h]
    · show errG p ((List.range n).map (liAt get)) true = errS offV p ((List.range n).map (liAt get)) true
      rw [errS, if_neg h]
  have h : (!decide (errG p ((List.range n).map (liAt get)) true = 0)) = false := h
  have h : errG p ((List.range n).map (liAt get)) true = 0 := by simpa using h
  have hb := (gradeOk_b (errG_zero h).1).1
  have hr : resS offV p ((List.range n).map (liAt get)) true = vSpan (spanG offV p) := by rw [resS, if_pos h]
  have he : errS offV p ((List.range n).map (liAt get)) true = if bSpan (spanG offV p) = true then 0 else 10 := by rw [errS, if_pos h]
  rw [hr, he]
  refine Chk.mk ⟨lims_i _ _, lims_i _ _, hb⟩ ?_
  refine Br.mk (fun h2 => ?_) (fun h2 => ?_)
  · have h2 : (!bSpan (spanG offV p)) = true := h2
    cases hS : spanG offV p with
    | none => exact ⟨.inl rfl, end_noid ⟨⟨⟨rfl, rfl⟩, ⟨rfl, rfl⟩, trivial⟩, ⟨rfl, rfl⟩, trivial⟩ rfl rfl (by repeat' (first | exact trivial | exact rfl | (intro i hi; exact ⟨rfl, rfl⟩) | refine And.intro ?_ ?_))⟩
    | some x => rw [hS] at h2; cases h2
  · have h2 : (!bSpan (spanG offV p)) = false := h2
    cases hS : spanG offV p with
    | none => rw [hS] at h2; cases h2
    | some x => exact ⟨.inl rfl, end_noid ⟨⟨⟨rfl, rfl⟩, ⟨rfl, rfl⟩, trivial⟩, ⟨rfl, rfl⟩, trivial⟩ rfl rfl (by repeat' (first | exact trivial | exact rfl | (intro i hi; exact ⟨rfl, rfl⟩) | refine And.intro ?_ ?_))⟩
theorem g19 {l : List (Nat × Ct)} (g : Good P T l) : Good P T ((19, spanE offV) :: l) := g.add (k19 g) (spanE_mono _) (body_of Try.func19 (c := code Try.f19) rfl (by decide))
end Go.X.Gr
end

section
set_option linter.unusedVariables false
set_option linter.unusedSimpArgs false
set_option linter.unusedSectionVars false
/- Grade: Point. -/
set_option linter.unusedVariables false
set_option linter.unusedSimpArgs false
set_option maxRecDepth 10000
set_option maxHeartbeats 4000000
namespace Go.X.Gr
open Go Go.Proofs Go.X

def c15 : Ct := fun fr args H => match args with
  | [.agg l, .si .i64 q] => gradeK H l fun i1 g n get => some ⟨some (Lims n get ∧ n ≤ 1000000), none, .tup [.agg [.si .i64 (resS (ptV q) g (limsL n get) (inB q 0 4)).1, .si .i64 (resS (ptV q) g (limsL n get) (inB q 0 4)).2], .si .i64 (errS (ptV q) g (limsL n get) (inB q 0 4))], []⟩
  | _ => none
theorem c15_mono : CtMono c15 := by
  intro fr args H H' out hH h
  unfold c15 at h ⊢
  split at h
  · exact gradeK_mono hH h
  · cases h
theorem k15 {l : List (Nat × Ct)} (g0 : Good P T l) : COk P 15 c15 := by
  have g := g47 (g49 (g48 good0))
  refine cokCM (C := tabC _) g.ok an45 Try.func15 (c := code Try.f15) rfl fun fr args H out h hp => ?_
  unfold c15 at h
  split at h
  case h_2 => cases h
  rename_i l q
  obtain ⟨i1, p, n, get, rfl, e1, h⟩ := gradeK_some h
  cases h
  obtain ⟨hs, hn⟩ : Lims n get ∧ n ≤ 1000000 := hp
  have hh : Hand H [(i1, .ro 2 n fun i => liC (liAt get i))] := hand_one e1 (fun i => rfl) (fun i hi => (hs i hi).symm)
  refine ⟨[(i1, .ro 2 n fun i => liC (liAt get i))], [.agg (grA 0 p), .si .i64 q], [(0, .ro 2 n fun i => liC (liAt get i))], 1, [], rfl, rfl, Nat.le_of_ble_eq_true rfl, hh, rfl, rfl, fun G hG => ?_⟩
  unfold limsL
  refine fb_deferC 45 4 (g.ok _ _ _) rfl cont_std rfl rfl rfl rfl rfl rfl rfl ?_
  refine drawn_ok (g.ok _ _ _) fol [0,0,2,7,0,31,63,127] [(6, 3), (7, 4)] 8 (by kernel_rfl) ?_
  refine Chk.mk ⟨lims_i _ _, hn⟩ ?_
  refine Br.mk (fun h => ?_) (fun h => ?_)
  · have h : (!decide (errG p ((List.range n).map (liAt get)) (inB q 0 4) = 0)) = true := h
    have h : ¬ errG p ((List.range n).map (liAt get)) (inB q 0 4) = 0 := by simpa using h
    refine ⟨.inl rfl, end_noid ⟨⟨⟨rfl, ?_⟩, ⟨rfl, ?_⟩, trivial⟩, ⟨rfl, ?_⟩, trivial⟩ rfl rfl (by repeat' (first | exact trivial | exact rfl | (intro i hi; exact ⟨rfl, rfl⟩) | refine And.intro ?_ ?_))⟩
    · show (0 : Int) = (resS (ptV q) p ((List.range n).map (liAt get)) (inB q 0 4)).1
      rw [resS, if_neg h]
    · show (0 : Int) = (resS (ptV q) p ((List.range n).map (liAt get)) (inB q 0 4)).2
      rw [resS, if_neg h]
    · show errG p ((List.range n).map (liAt get)) (inB q 0 4) = errS (ptV q) p ((List.range n).map (liAt get)) (inB q 0 4)
      rw [errS, if_neg h]
  have h : (!decide (errG p ((List.range n).map (liAt get)) (inB q 0 4) = 0)) = false := h
  have h : errG p ((List.range n).map (liAt get)) (inB q 0 4) = 0 := by simpa using h
  have hb := (gradeOk_b (errG_zero h).1).1
  have hq : 0 ≤ q ∧ q < 5 := by
    have := (errG_zero h).2
    simp only [inB, Bool.and_eq_true, decide_eq_true_eq] at this
    omega
  have hr : resS (ptV q) p ((List.range n).map (liAt get)) (inB q 0 4) = vSpan (spanG (ptV q) p) := by rw [resS, if_pos h]
  have he : errS (ptV q) p ((List.range n).map (liAt get)) (inB q 0 4) = if bSpan (spanG (ptV q) p) = true then 0 else 10 := by rw [errS, if_pos h]
  rw [hr, he]
  refine Chk.mk ⟨⟨lims_i _ _, lims_i _ _, hb⟩, hq⟩ ?_
  refine Br.mk (fun h2 => ?_) (fun h2 => ?_)
  · have h2 : (!bSpan (spanG (ptV q) p)) = true := h2
    cases hS : spanG (ptV q) p with
    | none => exact ⟨.inl rfl, end_noid ⟨⟨⟨rfl, rfl⟩, ⟨rfl, rfl⟩, trivial⟩, ⟨rfl, rfl⟩, trivial⟩ rfl rfl (by repeat' (first | exact trivial | exact rfl | (intro i hi; exact ⟨rfl, rfl⟩) | refine And.intro ?_ ?_))⟩
    | some x => rw [hS] at h2; cases h2
  · have h2 : (!bSpan (spanG (ptV q) p)) = false := h2
    cases hS : spanG (ptV q) p with
    | none => rw [hS] at h2; cases h2
    | some x => exact ⟨.inl rfl, end_noid ⟨⟨⟨rfl, rfl⟩, ⟨rfl, rfl⟩, trivial⟩, ⟨rfl, rfl⟩, trivial⟩ rfl rfl (by repeat' (first | exact trivial | exact rfl | (intro i hi; exact ⟨rfl, rfl⟩) | refine And.intro ?_ ?_))⟩
theorem g15 {l : List (Nat × Ct)} (g : Good P T l) : Good P T ((15, c15) :: l) := g.add (k15 g) c15_mono (body_of Try.func15 (c := code Try.f15) rfl (by decide))
end Go.X.Gr
end

section
set_option linter.unusedVariables false
set_option linter.unusedSimpArgs false
set_option linter.unusedSectionVars false
/- Grade: Grades, Sure. -/
set_option linter.unusedVariables false
set_option linter.unusedSimpArgs false
set_option maxRecDepth 10000
set_option maxHeartbeats 4000000
namespace Go.X.Gr
open Go Go.Proofs Go.X

theorem off_b {a0 a1 a2 a3 a4 : Int} (h0 : okI a0) (h1 : okI a1) (h2 : okI a2) (h3 : okI a3) (h4 : okI a4) : offV a0 a1 a2 a3 a4 ≤ 40 ∧ varV a0 a1 a2 a3 a4 ≤ 40 := by
  unfold okI at *
  unfold offV varV trnV max5
  omega
/-- What holds at the begin, and is kept by each block, holds in the end. -/
theorem foldS_all {γ α : Type} {f : γ → α → γ × Bool} {I : γ → Prop} {l : List α} (h : ∀ c x, x ∈ l → I c → I (f c x).1) : ∀ {c : γ}, I c → I (foldS f c l).1 := by
  induction l with
  | nil => intro c hc; exact hc
  | cons x r ih =>
    intro c hc
    have h1 := h c x List.mem_cons_self hc
    cases e : (f c x).2 with
    | true => rw [foldS_go e]; exact ih (fun c y hy => h c y (List.mem_cons_of_mem _ hy)) h1
    | false => rw [foldS_stop e]; exact h1
theorem rangeI_mem {lo hi k : Int} : k ∈ rangeI lo hi ↔ lo ≤ k ∧ k ≤ hi := by
  have key : ∀ (n : Nat) (lo k : Int), k ∈ upI n lo ↔ lo ≤ k ∧ k < lo + n := by
    intro n
    induction n with
    | zero => intro lo k; simp [upI]
    | succ n ih => intro lo k; simp only [upI, List.mem_cons, ih]; omega
  unfold rangeI
  rw [key]
  omega
theorem on0_all {γ : Type} {f : γ → Int → Int → Int → Int → Int → γ × Bool} {g : Pts} {I : γ → Prop} (hg : ptsB g) (h : ∀ c a0 a1 a2 a3 a4, okI a0 → okI a1 → okI a2 → okI a3 → okI a4 → I c → I (f c a0 a1 a2 a3 a4).1) {c : γ} (hc : I c) : I (on0 f g c).1 := by
  unfold ptsB at hg
  refine foldS_all (fun c a0 m0 hc => ?_) hc
  have r0 := rangeI_mem.1 (List.mem_filter.1 m0).1
  refine foldS_all (fun c a1 m1 hc => ?_) hc
  have r1 := rangeI_mem.1 (List.mem_filter.1 m1).1
  refine foldS_all (fun c a2 m2 hc => ?_) hc
  have r2 := rangeI_mem.1 (List.mem_filter.1 m2).1
  refine foldS_all (fun c a3 m3 hc => ?_) hc
  have r3 := rangeI_mem.1 (List.mem_filter.1 m3).1
  refine foldS_all (fun c a4 m4 hc => ?_) hc
  have r4 := rangeI_mem.1 (List.mem_filter.1 m4).1
  exact h c a0 a1 a2 a3 a4 ⟨by omega, by omega⟩ ⟨by omega, by omega⟩ ⟨by omega, by omega⟩ ⟨by omega, by omega⟩ ⟨by omega, by omega⟩ hc
theorem updA_mem {κ ν : Type} [DecidableEq κ] {m : List (κ × ν)} {k : κ} {v : ν} {p : κ × ν} (h : p ∈ updA m k v) : p ∈ m ∨ p.1 = k := by
  induction m with
  | nil => simp [updA] at h; right; rw [h]
  | cons q r ih =>
    unfold updA at h
    split at h
    · rename_i e
      rcases List.mem_cons.1 h with rfl | h
      · right; first | exact e | exact e.symm | rfl
      · left; exact List.mem_cons_of_mem _ h
    · rcases List.mem_cons.1 h with rfl | h
      · left; exact List.mem_cons_self
      · rcases ih h with h | h
        · left; exact List.mem_cons_of_mem _ h
        · right; exact h
theorem face_b {g : Pts} (hg : ptsB g) : ∀ p ∈ facesV lkP g, p.1.1 ≤ 40 ∧ p.1.2 ≤ 40 := by
  refine on0_all (I := fun c : List (Fc × Bool) => ∀ p ∈ c, p.1.1 ≤ 40 ∧ p.1.2 ≤ 40) hg (fun c a0 a1 a2 a3 a4 h0 h1 h2 h3 h4 hc p hp => ?_) (fun p hp => by cases hp)
  rcases updA_mem hp with hp | hp
  · exact hc p hp
  · rw [hp]; exact off_b h0 h1 h2 h3 h4
/-- All limits of a grade that is looked at. -/
def lims3 (L : List (Int × Int)) : List (Int × Int) := L ++ [(40, 40)]
theorem lims2_eq (n : Nat) (l : Nat → Int × Int) : (List.range (n + 1)).map (lims2 n l) = lims3 ((List.range n).map l) := by
  rw [List.range_succ, List.map_append, lims3]
  congr 1
  · refine List.map_congr_left fun i hi => ?_
    rw [lims2, if_pos (List.mem_range.1 hi)]
  · simp [lims2]
theorem ofL_lt {L : List (Int × Int)} {f : Fc} (h : f.1 ≤ 40 ∧ f.2 ≤ 40) : ofL (lims3 L) f < L.length + 1 := by
  have : ofL (lims3 L) f < (lims3 L).length := by
    refine List.findIdx_lt_length_of_exists ⟨(40, 40), by simp [lims3], ?_⟩
    simp [keepsP, keepsB, h]
  simpa [lims3] using this
end Go.X.Gr
end

section
set_option linter.unusedVariables false
set_option linter.unusedSimpArgs false
set_option linter.unusedSectionVars false
/- Grade: Grades. -/
set_option linter.unusedVariables false
set_option linter.unusedSimpArgs false
set_option maxRecDepth 10000
set_option maxHeartbeats 4000000
namespace Go.X.Gr
open Go Go.Proofs Go.X

/-- The error of what is told. -/
def errT (g : Pts) (L : List (Int × Int)) (is : Bool) : Int := if errG g L is = 0 then (if hasB g = true then 0 else 10) else errG g L is
def resG (g : Pts) (L : List (Int × Int)) (is : Bool) : Nat := if errT g L is = 0 then setV (lims3 L) g else 0
theorem setV_lt {g : Pts} {L : List (Int × Int)} (hg : ptsB g) (hL : L.length ≤ 4) : setV (lims3 L) g < 32 := by
  have : setV (lims3 L) g < 2 ^ 5 := gradesN_lt fun f hf => by
    obtain ⟨p, hp, rfl⟩ := List.mem_map.1 hf
    have := ofL_lt (L := L) (face_b hg p hp)
    omega
  simpa using this
def c21 : Ct := fun fr args H => match args with
  | [.agg l] => gradeK H l fun i1 g n get => some ⟨some (Lims n get ∧ n ≤ 1000000), none, .tup [.si .i64 (resG g (limsL n get) true : Nat), .si .i64 (errT g (limsL n get) true)], []⟩
  | _ => none
theorem c21_mono : CtMono c21 := by
  intro fr args H H' out hH h
  unfold c21 at h ⊢
  split at h
  · exact gradeK_mono hH h
  · cases h
theorem k21 {l : List (Nat × Ct)} (g0 : Good P T l) : COk P 21 c21 := by
  have g := g47 (g61 (g62 good0))
  refine cokCM (C := tabC _) g.ok an60 Try.func21 (c := code Try.f21) rfl fun fr args H out h hp => ?_
  unfold c21 at h
  split at h
  case h_2 => cases h
  rename_i l
  obtain ⟨i1, p, n, get, rfl, e1, h⟩ := gradeK_some h
  cases h
  obtain ⟨hs, hn⟩ : Lims n get ∧ n ≤ 1000000 := hp
  have hh : Hand H [(i1, .ro 2 n fun i => liC (liAt get i))] := hand_one e1 (fun i => rfl) (fun i hi => (hs i hi).symm)
  refine ⟨[(i1, .ro 2 n fun i => liC (liAt get i))], [.agg (grA 0 p)], [(0, .ro 2 n fun i => liC (liAt get i))], 1, [], rfl, rfl, Nat.le_of_ble_eq_true rfl, hh, rfl, rfl, fun G hG => ?_⟩
  unfold limsL
  refine fb_deferC 60 2 (g.ok _ _ _) rfl cont_std rfl rfl rfl rfl rfl rfl rfl ?_
  refine Chk.mk ⟨lims_i _ _, hn⟩ ?_
  refine Br.mk (fun h => ?_) (fun h => ?_)
  · have h : (!decide (errG p ((List.range n).map (liAt get)) true = 0)) = true := h
    have h : ¬ errG p ((List.range n).map (liAt get)) true = 0 := by simpa using h
    have he : errT p ((List.range n).map (liAt get)) true = errG p ((List.range n).map (liAt get)) true := by rw [errT, if_neg h]
    refine ⟨.inl rfl, end_noid ⟨⟨rfl, ?_⟩, ⟨rfl, he.symm⟩, trivial⟩ rfl rfl (by repeat' (first | exact trivial | exact rfl | (intro i hi; exact ⟨rfl, rfl⟩) | refine And.intro ?_ ?_))⟩
    show (0 : Int) = ((resG p ((List.range n).map (liAt get)) true : Nat) : Int)
    rw [resG, he, if_neg h]
    rfl
  have h : (!decide (errG p ((List.range n).map (liAt get)) true = 0)) = false := h
  have h : errG p ((List.range n).map (liAt get)) true = 0 := by simpa using h
  obtain ⟨hb, hl1, hl2⟩ := gradeOk_b (errG_zero h).1
  have he : errT p ((List.range n).map (liAt get)) true = if hasB p = true then 0 else 10 := by rw [errT, if_pos h]
  refine Chk.mk ⟨lims_i _ _, lims_i _ _, hb⟩ ?_
  refine Br.mk (fun h2 => ?_) (fun h2 => ?_)
  · have h2 : (!hasB p) = true := h2
    have h2 : hasB p = false := by simpa using h2
    have he : errT p ((List.range n).map (liAt get)) true = 10 := by rw [he, h2]; rfl
    refine ⟨.inl rfl, end_noid ⟨⟨rfl, ?_⟩, ⟨rfl, he.symm⟩, trivial⟩ rfl rfl (by repeat' (first | exact trivial | exact rfl | (intro i hi; exact ⟨rfl, rfl⟩) | refine And.intro ?_ ?_))⟩
    show (0 : Int) = ((resG p ((List.range n).map (liAt get)) true : Nat) : Int)
    rw [resG, he]
    rfl
  · have h2 : (!hasB p) = false := h2
    have h2 : hasB p = true := by simpa using h2
    have he : errT p ((List.range n).map (liAt get)) true = 0 := by rw [he, h2]; rfl
    have hlen : ((List.range n).map (liAt get)).length = n := by simp
    have hset := setV_lt hb (L := (List.range n).map (liAt get)) hl2
    have hq : setV ((List.range (n + 1)).map (lims2 n (liAt get))) p = setV (lims3 ((List.range n).map (liAt get))) p := by rw [lims2_eq]
    refine Chk.mk ⟨lims_i _ _, lims_i _ _, hb, by omega, fun q hqm => ?_⟩ ?_
    · show ofL ((List.range (n + 1)).map (lims2 n (liAt get))) q.1 < n + 1
      rw [lims2_eq]
      have := ofL_lt (L := (List.range n).map (liAt get)) (face_b hb q hqm)
      omega
    refine Chk.mk (show InK .i64 ((setV ((List.range (n + 1)).map (lims2 n (liAt get))) p : Nat) : Int) from by rw [hq]; exact ⟨by show (-9223372036854775808 : Int) ≤ _; omega, by show _ ≤ (9223372036854775807 : Int); omega⟩) ?_
    refine ⟨.inl rfl, end_noid ⟨⟨rfl, ?_⟩, ⟨rfl, he.symm⟩, trivial⟩ rfl rfl (by repeat' (first | exact trivial | exact rfl | (intro i hi; exact ⟨rfl, rfl⟩) | refine And.intro ?_ ?_))⟩
    show ((setV ((List.range (n + 1)).map (lims2 n (liAt get))) p : Nat) : Int) = ((resG p ((List.range n).map (liAt get)) true : Nat) : Int)
    rw [resG, he, if_pos rfl, hq]
theorem g21 {l : List (Nat × Ct)} (g : Good P T l) : Good P T ((21, c21) :: l) := g.add (k21 g) c21_mono (body_of Try.func21 (c := code Try.f21) rfl (by decide))
end Go.X.Gr
end

section
set_option linter.unusedVariables false
set_option linter.unusedSimpArgs false
set_option linter.unusedSectionVars false
/- Grade: Sure. -/
set_option linter.unusedVariables false
set_option linter.unusedSimpArgs false
set_option maxRecDepth 10000
set_option maxHeartbeats 4000000
namespace Go.X.Gr
open Go Go.Proofs Go.X

def upTo (q : Int) : Nat := 2 * 2 ^ q.toNat - 1
def sureV (s u : Nat) : Int := if s - (s &&& u) = 0 then 2 else if s &&& u = 0 then 0 else 1
def isG (L : List (Int × Int)) (q : Int) : Bool := inB q 0 ((L.length : Int) - 1)
def resU (g : Pts) (L : List (Int × Int)) (q : Int) : Int := if errT g L (isG L q) = 0 then sureV (setV (lims3 L) g) (upTo q) else 0
def c23 : Ct := fun fr args H => match args with
  | [.agg l, .si .i64 q] => gradeK H l fun i1 g n get => some ⟨some (Lims n get ∧ n ≤ 1000000), none, .tup [.si .i64 (resU g (limsL n get) q), .si .i64 (errT g (limsL n get) (isG (limsL n get) q))], []⟩
  | _ => none
theorem c23_mono : CtMono c23 := by
  intro fr args H H' out hH h
  unfold c23 at h ⊢
  split at h
  · exact gradeK_mono hH h
  · cases h
theorem k23 {l : List (Nat × Ct)} (g0 : Good P T l) : COk P 23 c23 := by
  have g := g47 (g61 (g62 (g65 good0)))
  refine cokCM (C := tabC _) g.ok an64 Try.func23 (c := code Try.f23) rfl fun fr args H out h hp => ?_
  unfold c23 at h
  split at h
  case h_2 => cases h
  rename_i l q
  obtain ⟨i1, p, n, get, rfl, e1, h⟩ := gradeK_some h
  cases h
  obtain ⟨hs, hn⟩ : Lims n get ∧ n ≤ 1000000 := hp
  have hh : Hand H [(i1, .ro 2 n fun i => liC (liAt get i))] := hand_one e1 (fun i => rfl) (fun i hi => (hs i hi).symm)
  refine ⟨[(i1, .ro 2 n fun i => liC (liAt get i))], [.agg (grA 0 p), .si .i64 q], [(0, .ro 2 n fun i => liC (liAt get i))], 1, [], rfl, rfl, Nat.le_of_ble_eq_true rfl, hh, rfl, rfl, fun G hG => ?_⟩
  have hlen : (limsL n get).length = n := by simp [limsL]
  have his : isG (limsL n get) q = inB q 0 ((n : Int) - 1) := by rw [isG, hlen]
  rw [his]
  have hrU : resU p (limsL n get) q = if errT p (limsL n get) (inB q 0 ((n : Int) - 1)) = 0 then sureV (setV (lims3 (limsL n get)) p) (upTo q) else 0 := by rw [resU, his]
  generalize resU p (limsL n get) q = U at hrU ⊢
  generalize hL : limsL n get = L at *
  have hL' : (List.range n).map (liAt get) = L := hL
  refine fb_deferC 64 2 (g.ok _ _ _) rfl cont_std rfl rfl rfl rfl rfl rfl rfl ?_
  refine drawn_ok (g.ok _ _ _) fol [0,0,0,6,15,31,63,127] [] 8 (by kernel_rfl) ?_
  refine Chk.mk ⟨lims_i _ _, hn⟩ (Chk.mk ⟨lims_i _ _, hn⟩ ?_)
  refine Br.mk (fun h => ?_) (fun h => ?_)
  · have h : (!decide (errG p ((List.range n).map (liAt get)) (inB q 0 ((n : Int) - 1)) = 0)) = true := h
    rw [hL'] at h
    have h : ¬ errG p L (inB q 0 ((n : Int) - 1)) = 0 := by simpa using h
    have he : errT p L (inB q 0 ((n : Int) - 1)) = errG p L (inB q 0 ((n : Int) - 1)) := by rw [errT, if_neg h]
    refine ⟨.inl rfl, end_noid ⟨⟨rfl, ?_⟩, ⟨rfl, ?_⟩, trivial⟩ rfl rfl (by repeat' (first | exact trivial | exact rfl | (intro i hi; exact ⟨rfl, rfl⟩) | refine And.intro ?_ ?_))⟩
    · show (0 : Int) = U
      rw [hrU, he, if_neg h]
    · show errG p ((List.range n).map (liAt get)) (inB q 0 ((n : Int) - 1)) = errT p L (inB q 0 ((n : Int) - 1))
      rw [hL', he]
  have h : (!decide (errG p ((List.range n).map (liAt get)) (inB q 0 ((n : Int) - 1)) = 0)) = false := h
  rw [hL'] at h
  have h : errG p L (inB q 0 ((n : Int) - 1)) = 0 := by simpa using h
  obtain ⟨hb, hl1, hl2⟩ := gradeOk_b (errG_zero h).1
  have hq : 0 ≤ q ∧ q < 4 := by
    have := (errG_zero h).2
    simp only [inB, Bool.and_eq_true, decide_eq_true_eq] at this
    omega
  refine Chk.mk ⟨lims_i _ _, lims_i _ _, hb⟩ ?_
  refine Br.mk (fun h2 => ?_) (fun h2 => ?_)
  · have h2 : (!hasB p) = true := h2
    have h2 : hasB p = false := by simpa using h2
    have he : errT p L (inB q 0 ((n : Int) - 1)) = 10 := by rw [errT, if_pos h, h2]; rfl
    refine ⟨.inl rfl, end_noid ⟨⟨rfl, ?_⟩, ⟨rfl, he.symm⟩, trivial⟩ rfl rfl (by repeat' (first | exact trivial | exact rfl | (intro i hi; exact ⟨rfl, rfl⟩) | refine And.intro ?_ ?_))⟩
    show (0 : Int) = U
    rw [hrU, he]
    rfl
  have h2 : (!hasB p) = false := h2
  have h2 : hasB p = true := by simpa using h2
  have he : errT p L (inB q 0 ((n : Int) - 1)) = 0 := by rw [errT, if_pos h, h2]; rfl
  rw [he] at hrU ⊢
  rw [if_pos rfl] at hrU
  have hset := setV_lt hb (L := L) hl2
  refine Chk.mk ⟨lims_i _ _, lims_i _ _, hb, by omega, fun x hxm => ?_⟩ ?_
  · show ofL ((List.range (n + 1)).map (lims2 n (liAt get))) x.1 < n + 1
    rw [lims2_eq, hL']
    have := ofL_lt (L := L) (face_b hb x hxm)
    omega
  have hS : setV (limsL (n + 1) fun i => liC (lims2 n (liAt get) i)) p = setV (lims3 L) p := by
    show setV ((List.range (n + 1)).map (lims2 n (liAt get))) p = _
    rw [lims2_eq, hL']
  obtain ⟨S, hSe⟩ : ∃ S, setV (lims3 L) p = S := ⟨_, rfl⟩
  rw [hSe] at hset hrU hS
  obtain ⟨k, rfl⟩ : ∃ k : Nat, q = (k : Int) := ⟨q.toNat, by omega⟩
  have hk4 : k < 4 := by omega
  have h2k : (2 : Int) * 2 ^ ((k : Int)).toNat = ((2 * 2 ^ k : Nat) : Int) := by
    rw [Int.toNat_natCast]; push_cast; rfl
  have h2p : 2 ^ k ≤ 8 := by
    have : 2 ^ k ≤ 2 ^ 3 := Nat.pow_le_pow_right (by decide) (by omega)
    simpa using this
  have h2q : 0 < 2 ^ k := Nat.pow_pos (by decide)
  refine Chk.mk (show (0 : Int) ≤ (k : Int) ∧ ((k : Int)).toNat ≤ 64 ∧ InK .u64 (2 * 2 ^ ((k : Int)).toNat) from by
    rw [h2k, Int.toNat_natCast]
    exact ⟨by omega, by omega, by show (0 : Int) ≤ _; omega, by show _ ≤ (18446744073709551615 : Int); omega⟩) ?_
  refine Chk.mk (show InK .u64 (2 * 2 ^ ((k : Int)).toNat - 1) from by
    rw [h2k]
    exact ⟨by show (0 : Int) ≤ _; omega, by show _ ≤ (18446744073709551615 : Int); omega⟩) ?_
  have hu : ((2 : Int) * 2 ^ ((k : Int)).toNat - 1) = ((upTo (k : Int) : Nat) : Int) := by
    rw [h2k, upTo, Int.toNat_natCast]; omega
  have hu15 : upTo (k : Int) ≤ 15 := by rw [upTo, Int.toNat_natCast]; omega
  have hchk : (0 : Int) ≤ ((setV (limsL (n + 1) fun i => liC (lims2 n (liAt get) i)) p : Nat) : Int) ∧ (0 : Int) ≤ (2 * 2 ^ ((k : Int)).toNat - 1 : Int) ∧ InK .u64 ((setV (limsL (n + 1) fun i => liC (lims2 n (liAt get) i)) p : Nat) : Int) ∧ InK .u64 (2 * 2 ^ ((k : Int)).toNat - 1 : Int) := by
    rw [hS, hu]
    exact ⟨by omega, by omega, ⟨by show (0 : Int) ≤ _; omega, by show _ ≤ (18446744073709551615 : Int); omega⟩, by show (0 : Int) ≤ _; omega, by show _ ≤ (18446744073709551615 : Int); omega⟩
  refine Chk.mk hchk ?_
  refine Br.mk (fun h3 => ?_) (fun h3 => ?_)
  · have h3 : ((((setV (limsL (n + 1) fun i => liC (lims2 n (liAt get) i)) p : Nat) : Int).toNat - (((setV (limsL (n + 1) fun i => liC (lims2 n (liAt get) i)) p : Nat) : Int).toNat &&& (2 * 2 ^ ((k : Int)).toNat - 1 : Int).toNat) : Nat) : Int) = 0 := of_decide_eq_true h3
    rw [hS, hu, Int.toNat_natCast, Int.toNat_natCast] at h3
    have h3 : S - (S &&& upTo (k : Int)) = 0 := by omega
    refine ⟨.inl rfl, end_noid ⟨⟨rfl, ?_⟩, ⟨rfl, rfl⟩, trivial⟩ rfl rfl (by repeat' (first | exact trivial | exact rfl | (intro i hi; exact ⟨rfl, rfl⟩) | refine And.intro ?_ ?_))⟩
    show (2 : Int) = U
    rw [hrU, sureV, if_pos h3]
  have h3 : ¬ ((((setV (limsL (n + 1) fun i => liC (lims2 n (liAt get) i)) p : Nat) : Int).toNat - (((setV (limsL (n + 1) fun i => liC (lims2 n (liAt get) i)) p : Nat) : Int).toNat &&& (2 * 2 ^ ((k : Int)).toNat - 1 : Int).toNat) : Nat) : Int) = 0 := of_decide_eq_false h3
  rw [hS, hu, Int.toNat_natCast, Int.toNat_natCast] at h3
  have h3 : ¬ S - (S &&& upTo (k : Int)) = 0 := by omega
  refine Chk.mk hchk ?_
  refine Br.mk (fun h4 => ?_) (fun h4 => ?_)
  · have h4 : ((((setV (limsL (n + 1) fun i => liC (lims2 n (liAt get) i)) p : Nat) : Int).toNat &&& (2 * 2 ^ ((k : Int)).toNat - 1 : Int).toNat : Nat) : Int) = 0 := of_decide_eq_true h4
    rw [hS, hu, Int.toNat_natCast, Int.toNat_natCast] at h4
    have h4 : S &&& upTo (k : Int) = 0 := by omega
    refine ⟨.inl rfl, end_noid ⟨⟨rfl, ?_⟩, ⟨rfl, rfl⟩, trivial⟩ rfl rfl (by repeat' (first | exact trivial | exact rfl | (intro i hi; exact ⟨rfl, rfl⟩) | refine And.intro ?_ ?_))⟩
    show (0 : Int) = U
    rw [hrU, sureV, if_neg h3, if_pos h4]
  · have h4 : ¬ ((((setV (limsL (n + 1) fun i => liC (lims2 n (liAt get) i)) p : Nat) : Int).toNat &&& (2 * 2 ^ ((k : Int)).toNat - 1 : Int).toNat : Nat) : Int) = 0 := of_decide_eq_false h4
    rw [hS, hu, Int.toNat_natCast, Int.toNat_natCast] at h4
    have h4 : ¬ S &&& upTo (k : Int) = 0 := by omega
    refine ⟨.inl rfl, end_noid ⟨⟨rfl, ?_⟩, ⟨rfl, rfl⟩, trivial⟩ rfl rfl (by repeat' (first | exact trivial | exact rfl | (intro i hi; exact ⟨rfl, rfl⟩) | refine And.intro ?_ ?_))⟩
    show (1 : Int) = U
    rw [hrU, sureV, if_neg h3, if_neg h4]
theorem g23 {l : List (Nat × Ct)} (g : Good P T l) : Good P T ((23, c23) :: l) := g.add (k23 g) c23_mono (body_of Try.func23 (c := code Try.f23) rfl (by decide))
end Go.X.Gr
end
