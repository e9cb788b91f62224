/- Less is told of a block by less; the walk of WarmMore. -/
import Derived.Test.YtipjgdkaocfapaaNI
import Derived.Test.YtipjgdkaocfapaaNP

section
set_option linter.unusedVariables false
set_option linter.unusedSimpArgs false
set_option linter.unusedSectionVars false
/- Warm: less is told of a block by less, plainly. -/
set_option linter.unusedVariables false
set_option linter.unusedSimpArgs false
set_option linter.unusedSectionVars false
set_option maxRecDepth 10000
set_option maxHeartbeats 1000000
namespace Go.X.W
open Go Go.Proofs Go.X

/-- A block like another one, but for its readings. -/
structure Like (V B : Blk) : Prop where
  mark : V.mark = B.mark
  l1 : V.l1 = B.l1
  l2 : V.l2 = B.l2
  c1 : V.c1 = B.c1
  c2 : V.c2 = B.c2
  less : ∀ p, okP B.mark V.rs p = true → okP B.mark B.rs p = true
theorem like_pairs {V B : Blk} (h : Like V B) : pairsV V = (pairsV B).filter fun p => okP B.mark V.rs p := by
  have e : okP B.mark V.rs = fun p => okP B.mark B.rs p && okP B.mark V.rs p := by
    funext p
    rw [Bool.eq_iff_iff, Bool.and_eq_true]
    exact ⟨fun k => ⟨h.less p k, k⟩, fun k => k.2⟩
  have e2 : pairsV V = rows (okP B.mark V.rs) B.l1 B.c1 B.c2 (B.l2 + 1) := by
    unfold pairsV
    rw [h.mark, h.l1, h.l2, h.c1, h.c2]
  rw [e2]
  have e3 := rows_filter (okP B.mark B.rs) (okP B.mark V.rs) B.l1 B.c1 B.c2 (B.l2 + 1)
  rw [← e] at e3
  exact e3
theorem like_sub {V B : Blk} (h : Like V B) {p : Pr} (hp : p ∈ pairsV V) : p ∈ pairsV B := by
  rw [like_pairs h] at hp
  exact (List.mem_filter.1 hp).1
theorem like_len {V B : Blk} (h : Like V B) : (pairsV V).length ≤ (pairsV B).length := by
  rw [like_pairs h]
  exact List.length_filter_le _ _
theorem like_hull {V B : Blk} (h : Like V B) (h0 : ¬ (pairsV V).length = 0) {L : Pr → List Int} (hL : ∀ p ∈ pairsV V, 0 < (L p).length ∧ ∀ x ∈ L p, -1000000000 ≤ x ∧ x ≤ 1000000000) : (hullV B L).1 ≤ (hullV V L).1 ∧ (hullV V L).2 ≤ (hullV B L).2 := by
  have hpos := flat_pos (L := L) (pv := pairsV V) (by omega) fun p hp => (hL p hp).1
  obtain ⟨h1, h2⟩ := ends_mem (l := (pairsV V).flatMap L) hpos fun x hx => by
    obtain ⟨p, hp, hx⟩ := List.mem_flatMap.1 hx
    exact (hL p hp).2 x hx
  have hsub : ∀ x, x ∈ (pairsV V).flatMap L → x ∈ (pairsV B).flatMap L := fun x hx => by
    obtain ⟨p, hp, hx⟩ := List.mem_flatMap.1 hx
    exact List.mem_flatMap.2 ⟨p, like_sub h hp, hx⟩
  exact ⟨(ends_in (hsub _ h1)).1, (ends_in (hsub _ h2)).2⟩
/-- What is told of a block, at a warmth, and so much off. -/
structure Told where
  a1 : Int
  a2 : Int
  b1 : Int
  b2 : Int
  c1 : Int
  c2 : Int
  d : Int
  k : Int
  e : Int
def toldT (B : Blk) (t off : Int) : Told := if (pairsV B).length = 0 then ⟨0, 0, 0, 0, 0, 0, 0, 0, 10⟩ else
  ⟨(hullV B fun p => [p.1]).1, (hullV B fun p => [p.1]).2, (hullV B fun p => [p.2]).1, (hullV B fun p => [p.2]).2, (hullV B (showL B.mark t t)).1, (hullV B (showL B.mark t t)).2, roomV B off, ((pairsV B).length : Int), 0⟩
section
variable {B : Blk} (hok : blkOk B = true) {t off : Int} (ht : -100 ≤ t ∧ t ≤ 100) (hof : 0 ≤ off ∧ off ≤ 30000)
include hok
theorem told_a : hullE B true (fun p => [p.1]) = (((toldT B t off).a1, (toldT B t off).a2), (toldT B t off).e) := by
  rw [hullE_tell hok, if_pos rfl]
  unfold toldT
  split <;> rfl
theorem told_b : hullE B true (fun p => [p.2]) = (((toldT B t off).b1, (toldT B t off).b2), (toldT B t off).e) := by
  rw [hullE_tell hok, if_pos rfl]
  unfold toldT
  split <;> rfl
theorem told_k : cntV B = ((toldT B t off).k, 0) := by
  rw [cnt_ok hok]
  unfold toldT
  split
  · rename_i h; rw [h]; rfl
  · rfl
include ht
theorem told_c : hullE B (spanB t t (-100) 100 200) (showL B.mark t t) = (((toldT B t off).c1, (toldT B t off).c2), (toldT B t off).e) := by
  rw [hullE_tell hok, if_pos (by simp only [spanB, Bool.and_eq_true, decide_eq_true_eq]; omega)]
  unfold toldT
  split <;> rfl
omit ht
include hof
theorem told_d : roomE B off = ((toldT B t off).d, (toldT B t off).e) := by
  rw [roomE_tell hok, if_pos (by simp only [inB, Bool.and_eq_true, decide_eq_true_eq]; omega)]
  unfold toldT
  split <;> rfl
end
theorem told_e (B : Blk) (t off : Int) : (toldT B t off).e = 0 ∨ (toldT B t off).e = 10 := by
  unfold toldT
  split
  · exact .inr rfl
  · exact .inl rfl
theorem like_told {V B : Blk} (h : Like V B) (hv : blkOk V = true) {t off : Int} (ht : -100 ≤ t ∧ t ≤ 100) : (toldT V t off).k ≤ (toldT B t off).k ∧
    ((toldT V t off).e = 0 → (toldT B t off).e = 0 ∧ ((toldT B t off).a1 ≤ (toldT V t off).a1 ∧ (toldT V t off).a2 ≤ (toldT B t off).a2) ∧ ((toldT B t off).b1 ≤ (toldT V t off).b1 ∧ (toldT V t off).b2 ≤ (toldT B t off).b2) ∧
      ((toldT B t off).c1 ≤ (toldT V t off).c1 ∧ (toldT V t off).c2 ≤ (toldT B t off).c2) ∧ (toldT B t off).d ≤ (toldT V t off).d) := by
  have hl := like_len h
  by_cases h0 : (pairsV V).length = 0
  · constructor
    · unfold toldT
      rw [if_pos h0]
      split
      · exact Int.le_refl _
      · simp only; omega
    · unfold toldT
      rw [if_pos h0]
      intro h1
      cases h1
  · have h1 : ¬ (pairsV B).length = 0 := by omega
    unfold toldT
    rw [if_neg h0, if_neg h1]
    refine ⟨by simp only; omega, fun _ => ⟨rfl, ?_, ?_, ?_, ?_⟩⟩
    · exact like_hull h h0 fun p hp => ⟨by simp, fun x hx => by
        obtain rfl := List.mem_singleton.1 hx
        have := pair_b hv hp
        omega⟩
    · exact like_hull h h0 fun p hp => ⟨by simp, fun x hx => by
        obtain rfl := List.mem_singleton.1 hx
        have := pair_b hv hp
        omega⟩
    · rw [h.mark]
      refine like_hull h h0 fun p hp => ⟨by simp [showL], fun x hx => ?_⟩
      have h2 := pairs_show hv hp ht
      rw [h.mark] at h2
      simp only [showL, List.mem_cons, List.not_mem_nil, or_false] at hx
      rcases hx with rfl | rfl <;> omega
    · exact room_mono h.mark.symm (fun p hp => like_sub h hp) (Int.le_refl _)
theorem same_told {V B : Blk} (hm : V.mark = B.mark) (hp : pairsV V = pairsV B) (t off : Int) : toldT V t off = toldT B t off := by
  unfold toldT hullV roomV
  rw [hm, hp]
/-! ### The three blocks -/
theorem add_like (B : Blk) (x : Rd) : Like (addB B x) B := ⟨rfl, rfl, rfl, rfl, rfl, fun p h => by
  have h : okP B.mark (B.rs ++ [x]) p = true := h
  unfold okP at h ⊢
  rw [List.all_append, Bool.and_eq_true] at h
  exact h.1⟩
theorem rev_same {V B : Blk} (hm : V.mark = B.mark) (h1 : V.l1 = B.l1) (h2 : V.l2 = B.l2) (h3 : V.c1 = B.c1) (h4 : V.c2 = B.c2) (hr : ∀ x, x ∈ V.rs ↔ x ∈ B.rs) : pairsV V = pairsV B := by
  have e : okP B.mark V.rs = okP B.mark B.rs := by
    funext p
    unfold okP
    rw [Bool.eq_iff_iff, List.all_eq_true, List.all_eq_true]
    exact ⟨fun k x hx => k x ((hr x).2 hx), fun k x hx => k x ((hr x).1 hx)⟩
  unfold pairsV
  rw [hm, h1, h2, h3, h4, e]
/-- A reading, narrower, in one of four ways. -/
def narR (w : Int) (r : Rd) : Rd := if w = 0 then (min r.2.1 (r.1 + 1), r.2.1, r.2.2.1, r.2.2.2) else if w = 1 then (r.1, max r.1 (r.2.1 - 1), r.2.2.1, r.2.2.2) else
  if w = 2 then (r.1, r.2.1, min r.2.2.2 (r.2.2.1 + 1), r.2.2.2) else (r.1, r.2.1, r.2.2.1, max r.2.2.1 (r.2.2.2 - 1))
theorem nar_can {w mk : Int} {p : Pr} {r : Rd} (h1 : r.1 ≤ r.2.1) (h2 : r.2.2.1 ≤ r.2.2.2) (h : canV mk p (narR w r) = true) : canV mk p r = true := by
  unfold canV at h ⊢
  rw [List.any_eq_true] at h ⊢
  obtain ⟨t, ht, hh⟩ := h
  have ht := mem_iota.1 ht
  unfold hitB inB at hh ⊢
  rw [Bool.and_eq_true, decide_eq_true_eq, decide_eq_true_eq] at hh
  have key : r.1 ≤ t ∧ t ≤ r.2.1 ∧ r.2.2.1 ≤ showV mk p t ∧ showV mk p t ≤ r.2.2.2 := by
    unfold narR at ht hh
    by_cases w0 : w = 0
    · simp only [if_pos w0] at ht hh
      omega
    · by_cases w1 : w = 1
      · simp only [if_neg w0, if_pos w1] at ht hh
        omega
      · by_cases w2 : w = 2
        · simp only [if_neg w0, if_neg w1, if_pos w2] at ht hh
          omega
        · simp only [if_neg w0, if_neg w1, if_neg w2] at ht hh
          omega
  refine ⟨t, mem_iota.2 ⟨key.1, key.2.1⟩, ?_⟩
  rw [Bool.and_eq_true, decide_eq_true_eq, decide_eq_true_eq]
  exact ⟨key.2.2.1, key.2.2.2⟩
theorem nar_like {B V : Blk} {n : Nat} {rd : Nat → Rd} {yR : Nat → Rd} (hok : blkOk B = true) (hrs : B.rs = (List.range n).map rd) (hV : V = ⟨B.mark, B.l1, B.l2, B.c1, B.c2, (List.range n).map yR⟩) (hy : ∀ j, j < n → yR j = rd j ∨ ∃ w, yR j = narR w (rd j)) : Like V B := by
  subst hV
  refine ⟨rfl, rfl, rfl, rfl, rfl, fun p h => ?_⟩
  have h : okP B.mark ((List.range n).map yR) p = true := h
  unfold okP at h ⊢
  rw [List.all_eq_true] at h ⊢
  intro x hx
  rw [hrs] at hx
  obtain ⟨j, hj, rfl⟩ := List.mem_map.1 hx
  have hjn := List.mem_range.1 hj
  have h1 := h (yR j) (List.mem_map.2 ⟨j, hj, rfl⟩)
  rcases hy j hjn with e | ⟨w, e⟩
  · rw [← e]; exact h1
  · rw [e] at h1
    obtain ⟨_, _, _, _, hr⟩ := blk_b hok
    have h2 := hr (rd j) (by rw [hrs]; exact List.mem_map.2 ⟨j, hj, rfl⟩)
    unfold rdOk spanB at h2
    simp only [Bool.and_eq_true, decide_eq_true_eq] at h2
    exact nar_can (by omega) (by omega) h1
end Go.X.W
end

section
set_option linter.unusedVariables false
set_option linter.unusedSimpArgs false
set_option linter.unusedSectionVars false
/- Warm: WarmMore answers true. -/
set_option linter.unusedVariables false
set_option linter.unusedSimpArgs false
set_option maxRecDepth 10000
set_option maxHeartbeats 16000000
namespace Go.X.W
open Go Go.Proofs Go.X

/-- Two branches, looked at with what follows held. -/
theorem br_hold {p : Bool} {a b : Prop} {X : Cx} {ops : List Oper} {Q : Exit → Act → World → Prop} {Kn : St → Prop} {Kp : List PanicEntry → St → Prop} {i : Nat} {o : Oper} {r : List Oper} (stC : St)
    (hb : p = false → FbO X ops Q Kn Kp i o r stC → b) (ha : p = true → FbO X ops Q Kn Kp i o r stC → a) (h : FbO X ops Q Kn Kp i o r stC) : Br p a b := ⟨fun hp => ha hp h, fun hp => hb hp h⟩
def revR (rd : Nat → Rd) (n i : Nat) : Rd := rd (n - 1 - i)
def inS (a1 a2 b1 b2 : Int) : Bool := decide (b1 ≤ a1) && decide (a2 ≤ b2)
def c50 : Ct := plainCt fun
  | [.agg [.si .i64 a1, .si .i64 a2], .agg [.si .i64 b1, .si .i64 b2]] => some ⟨none, none, .sb (inS a1 a2 b1 b2), []⟩
  | _ => none
theorem k50 {l : List (Nat × Ct)} (g0 : Good P T l) : COk P 50 c50 := by
  refine cok (C := tabC _) g0.ok Try.func50 (c := code Try.f50) rfl fun fr args H out h hp => ?_
  simp only [c50, plainCt] at h
  split at h
  · cases h
    refine walk_plain rfl (Nat.le_of_ble_eq_true rfl) fun G hG => ?_
    exact ⟨.inl rfl, end_plain rfl rfl rfl⟩
  · cases h
theorem g50 {l : List (Nat × Ct)} (g : Good P T l) : Good P T ((50, c50) :: l) := g.add (k50 g) (plainCt_mono _) (body_of Try.func50 (c := code Try.f50) rfl (by decide))

def c13 : Ct := wmCt fun B r => match r with
  | [.agg [.si .i64 e1, .si .i64 e2, .si .i64 e3, .si .i64 e4], .si .u8 wh, .si .u8 wt, .si .u8 x, .si .u16 y] => some (some ((0 ≤ wh ∧ wh < 256) ∧ (0 ≤ wt ∧ wt < 256) ∧ (0 ≤ x ∧ x < 256) ∧ 0 ≤ y ∧ y < 65536), .sb true)
  | _ => none
theorem k13 {l : List (Nat × Ct)} (g0 : Good P T l) : COk P 13 c13 := by
  have g := g39 (g24 (g16 (g19 (g26 (g30 (g22 (g33 (g42 (g50 good0)))))))))
  refine cok (C := tabC _) g.ok Try.func13 (c := code Try.f13) rfl fun fr args H out h hp => wmWalk h hp fun mk l1 l2 c1 c2 n rd r p v Rv Rp hk hp hR => ?_
  split at hk
  · rename_i e1 e2 e3 e4 wh wt x y
    cases hk
    obtain ⟨hwh, hwt, hx, hy⟩ : (0 ≤ wh ∧ wh < 256) ∧ (0 ≤ wt ∧ wt < 256) ∧ (0 ≤ x ∧ x < 256) ∧ 0 ≤ y ∧ y < 65536 := hp
    refine ⟨Nat.le_of_ble_eq_true rfl, fun G hG => ?_⟩
    refine Chk.mk ⟨rds_rd _ _, rfl, trivial⟩ ?_
    refine Br.mk (fun h => ?_) (fun h => ?_)
    · exact hR _ _ rfl rfl
    obtain ⟨B, hB⟩ : ∃ B : Blk, Blk.mk mk l1 l2 c1 c2 (rdL n fun i => rdC (rd i)) = B := ⟨_, rfl⟩
    have hok : blkOk B = true := by
      have h : (!fineB ⟨mk, l1, l2, c1, c2, rdL n fun i => rdC (rd i)⟩) = false := h
      rw [hB] at h
      exact fine_blk (by simpa using h)
    clear h
    have hB1 : B.mark = mk := by rw [← hB]
    have hB2 : B.l1 = l1 ∧ B.l2 = l2 ∧ B.c1 = c1 ∧ B.c2 = c2 := by rw [← hB]; exact ⟨rfl, rfl, rfl, rfl⟩
    have hrs : B.rs = (List.range n).map rd := by rw [← hB]; rfl
    have hBn : B.rs.length = n := by rw [hrs]; simp
    obtain ⟨hmk, hl, hc, hn, hr⟩ := blk_b hok
    refine drawn_ok (g.ok _ _ _) fol [0,0,0,0,0,0,57,123,255] [(6, 15), (7, 19), (8, 23)] 9 (by kernel_rfl) ?_
    refine any_region (by kernel_rfl) ?_
    refine any_take 1 (g.ok _ _ _) rfl rfl rfl rfl rfl rfl rfl (by kernel_rfl) (by kernel_rfl) (by kernel_rfl) ?_
    refine any_fork [0, 2, 4] ⟨[(59, ⟨[], .sl 6⟩), (61, ⟨[], .sl 7⟩), (2, ⟨[], .si .u8 wh⟩), (3, ⟨[], .si .u8 wt⟩), (4, ⟨[], .si .u8 x⟩), (5, ⟨[], .si .u16 y⟩), (6, ⟨[], .sp 1 0⟩), (13, ⟨[], .si .i64 n⟩), (14, ⟨[], .sp 3 0⟩), (15, ⟨[], .sp 4 0⟩), (16, ⟨[], .sp 5 0⟩)], [],
      [(7, .row 41 4 1 (rdC (e1, e2, e3, e4))), (6, .vec 41 4 n fun i => rdC (rd i)), (5, .cells 36 (bC mk l1 l2 c1 c2 0)), (4, .cells 36 (bC mk l1 l2 c1 c2 0)), (3, .cells 36 (bC mk l1 l2 c1 c2 0)), (1, .cells 36 (bC mk l1 l2 c1 c2 0)), (0, .ro 4 n fun i => rdC (rd i))], 8, []⟩ 3 #[true, true, true, true, true, true, false, false, false] (g.ok _ _ _) (by kernel_rfl) (by decide) (fun K hK => ⟨?_, ?_, ?_, trivial⟩) ?_
    · refine any_step [2, 4] (g.ok _ _ _) (by kernel_rfl) (by decide) ⟨?_, ?_, trivial⟩
      · refine any_step [3, 4] (g.ok _ _ _) (by kernel_rfl) (by decide) ⟨?_, ?_, trivial⟩
        · refine fb_append0 39 0 n (fun i => rdC (rd i)) (g.ok _ _ _) cont_any rfl rfl rfl rfl rfl rfl rfl rfl rfl rfl rfl rfl (by decide) (by decide) rfl rfl rfl rfl (by decide) (by omega) ?_
          refine any_step [4] (g.ok _ _ _) (by kernel_rfl) (by decide) ⟨?_, trivial⟩
          refine any_step [5] (g.ok _ _ _) (by kernel_rfl) (by decide) ⟨?_, trivial⟩
          refine any_weaken 1 (fun j => match j with | 3 => 15 | 4 => 19 | 5 => 23 | 6 => 40 | 7 => 41 | j => j) (fun j hj => hG j (by omega)) ?_ hK
          refine ⟨?_, ?_, rfl, rfl, rfl, rfl, trivial⟩
          · repeat' (first | exact trivial | exact rfl | refine And.intro ?_ ?_)
          · repeat' (first | exact trivial | exact rfl | (intro i hi; exact ⟨rfl, rfl⟩) | refine And.intro ?_ ?_)
        · refine any_step [3, 5] (g.ok _ _ _) (by kernel_rfl) (by decide) ⟨?_, ?_, trivial⟩
          · refine fb_append0 39 0 n (fun i => rdC (rd i)) (g.ok _ _ _) cont_any rfl rfl rfl rfl rfl rfl rfl rfl rfl rfl rfl rfl (by decide) (by decide) rfl rfl rfl rfl (by decide) (by omega) ?_
            refine any_step [5] (g.ok _ _ _) (by kernel_rfl) (by decide) ⟨?_, trivial⟩
            refine any_weaken 1 (fun j => match j with | 3 => 15 | 4 => 19 | 5 => 23 | 6 => 40 | 7 => 41 | j => j) (fun j hj => hG j (by omega)) ?_ hK
            refine ⟨?_, ?_, rfl, rfl, rfl, rfl, trivial⟩
            · repeat' (first | exact trivial | exact rfl | refine And.intro ?_ ?_)
            · repeat' (first | exact trivial | exact rfl | (intro i hi; exact ⟨rfl, rfl⟩) | refine And.intro ?_ ?_)
          · refine any_step [3] (g.ok _ _ _) (by kernel_rfl) (by decide) ⟨?_, trivial⟩
            refine fb_append0 39 0 n (fun i => rdC (rd i)) (g.ok _ _ _) cont_any rfl rfl rfl rfl rfl rfl rfl rfl rfl rfl rfl rfl (by decide) (by decide) rfl rfl rfl rfl (by decide) (by omega) ?_
            refine any_weaken 1 (fun j => match j with | 3 => 15 | 4 => 19 | 5 => 23 | 6 => 41 | 7 => 40 | j => j) (fun j hj => hG j (by omega)) ?_ hK
            refine ⟨?_, ?_, rfl, rfl, rfl, rfl, trivial⟩
            · repeat' (first | exact trivial | exact rfl | refine And.intro ?_ ?_)
            · repeat' (first | exact trivial | exact rfl | (intro i hi; exact ⟨rfl, rfl⟩) | refine And.intro ?_ ?_)
      · refine any_step [2, 5] (g.ok _ _ _) (by kernel_rfl) (by decide) ⟨?_, ?_, trivial⟩
        · refine any_step [3, 5] (g.ok _ _ _) (by kernel_rfl) (by decide) ⟨?_, ?_, trivial⟩
          · refine fb_append0 39 0 n (fun i => rdC (rd i)) (g.ok _ _ _) cont_any rfl rfl rfl rfl rfl rfl rfl rfl rfl rfl rfl rfl (by decide) (by decide) rfl rfl rfl rfl (by decide) (by omega) ?_
            refine any_step [5] (g.ok _ _ _) (by kernel_rfl) (by decide) ⟨?_, trivial⟩
            refine any_weaken 1 (fun j => match j with | 3 => 15 | 4 => 19 | 5 => 23 | 6 => 40 | 7 => 41 | j => j) (fun j hj => hG j (by omega)) ?_ hK
            refine ⟨?_, ?_, rfl, rfl, rfl, rfl, trivial⟩
            · repeat' (first | exact trivial | exact rfl | refine And.intro ?_ ?_)
            · repeat' (first | exact trivial | exact rfl | (intro i hi; exact ⟨rfl, rfl⟩) | refine And.intro ?_ ?_)
          · refine any_step [3] (g.ok _ _ _) (by kernel_rfl) (by decide) ⟨?_, trivial⟩
            refine fb_append0 39 0 n (fun i => rdC (rd i)) (g.ok _ _ _) cont_any rfl rfl rfl rfl rfl rfl rfl rfl rfl rfl rfl rfl (by decide) (by decide) rfl rfl rfl rfl (by decide) (by omega) ?_
            refine any_weaken 1 (fun j => match j with | 3 => 15 | 4 => 19 | 5 => 23 | 6 => 41 | 7 => 40 | j => j) (fun j hj => hG j (by omega)) ?_ hK
            refine ⟨?_, ?_, rfl, rfl, rfl, rfl, trivial⟩
            · repeat' (first | exact trivial | exact rfl | refine And.intro ?_ ?_)
            · repeat' (first | exact trivial | exact rfl | (intro i hi; exact ⟨rfl, rfl⟩) | refine And.intro ?_ ?_)
        · refine any_step [2] (g.ok _ _ _) (by kernel_rfl) (by decide) ⟨?_, trivial⟩
          refine any_step [3] (g.ok _ _ _) (by kernel_rfl) (by decide) ⟨?_, trivial⟩
          refine fb_append0 39 0 n (fun i => rdC (rd i)) (g.ok _ _ _) cont_any rfl rfl rfl rfl rfl rfl rfl rfl rfl rfl rfl rfl (by decide) (by decide) rfl rfl rfl rfl (by decide) (by omega) ?_
          refine any_weaken 1 (fun j => match j with | 3 => 15 | 4 => 19 | 5 => 23 | 6 => 41 | 7 => 40 | j => j) (fun j hj => hG j (by omega)) ?_ hK
          refine ⟨?_, ?_, rfl, rfl, rfl, rfl, trivial⟩
          · repeat' (first | exact trivial | exact rfl | refine And.intro ?_ ?_)
          · repeat' (first | exact trivial | exact rfl | (intro i hi; exact ⟨rfl, rfl⟩) | refine And.intro ?_ ?_)
    · refine any_step [0, 4] (g.ok _ _ _) (by kernel_rfl) (by decide) ⟨?_, ?_, trivial⟩
      · refine any_step [3, 4] (g.ok _ _ _) (by kernel_rfl) (by decide) ⟨?_, ?_, trivial⟩
        · refine fb_append0 39 0 n (fun i => rdC (rd i)) (g.ok _ _ _) cont_any rfl rfl rfl rfl rfl rfl rfl rfl rfl rfl rfl rfl (by decide) (by decide) rfl rfl rfl rfl (by decide) (by omega) ?_
          refine any_step [4] (g.ok _ _ _) (by kernel_rfl) (by decide) ⟨?_, trivial⟩
          refine any_step [5] (g.ok _ _ _) (by kernel_rfl) (by decide) ⟨?_, trivial⟩
          refine any_weaken 1 (fun j => match j with | 3 => 15 | 4 => 19 | 5 => 23 | 6 => 40 | 7 => 41 | j => j) (fun j hj => hG j (by omega)) ?_ hK
          refine ⟨?_, ?_, rfl, rfl, rfl, rfl, trivial⟩
          · repeat' (first | exact trivial | exact rfl | refine And.intro ?_ ?_)
          · repeat' (first | exact trivial | exact rfl | (intro i hi; exact ⟨rfl, rfl⟩) | refine And.intro ?_ ?_)
        · refine any_step [3, 5] (g.ok _ _ _) (by kernel_rfl) (by decide) ⟨?_, ?_, trivial⟩
          · refine fb_append0 39 0 n (fun i => rdC (rd i)) (g.ok _ _ _) cont_any rfl rfl rfl rfl rfl rfl rfl rfl rfl rfl rfl rfl (by decide) (by decide) rfl rfl rfl rfl (by decide) (by omega) ?_
            refine any_step [5] (g.ok _ _ _) (by kernel_rfl) (by decide) ⟨?_, trivial⟩
            refine any_weaken 1 (fun j => match j with | 3 => 15 | 4 => 19 | 5 => 23 | 6 => 40 | 7 => 41 | j => j) (fun j hj => hG j (by omega)) ?_ hK
            refine ⟨?_, ?_, rfl, rfl, rfl, rfl, trivial⟩
            · repeat' (first | exact trivial | exact rfl | refine And.intro ?_ ?_)
            · repeat' (first | exact trivial | exact rfl | (intro i hi; exact ⟨rfl, rfl⟩) | refine And.intro ?_ ?_)
          · refine any_step [3] (g.ok _ _ _) (by kernel_rfl) (by decide) ⟨?_, trivial⟩
            refine fb_append0 39 0 n (fun i => rdC (rd i)) (g.ok _ _ _) cont_any rfl rfl rfl rfl rfl rfl rfl rfl rfl rfl rfl rfl (by decide) (by decide) rfl rfl rfl rfl (by decide) (by omega) ?_
            refine any_weaken 1 (fun j => match j with | 3 => 15 | 4 => 19 | 5 => 23 | 6 => 41 | 7 => 40 | j => j) (fun j hj => hG j (by omega)) ?_ hK
            refine ⟨?_, ?_, rfl, rfl, rfl, rfl, trivial⟩
            · repeat' (first | exact trivial | exact rfl | refine And.intro ?_ ?_)
            · repeat' (first | exact trivial | exact rfl | (intro i hi; exact ⟨rfl, rfl⟩) | refine And.intro ?_ ?_)
      · refine any_step [0, 5] (g.ok _ _ _) (by kernel_rfl) (by decide) ⟨?_, ?_, trivial⟩
        · refine any_step [3, 5] (g.ok _ _ _) (by kernel_rfl) (by decide) ⟨?_, ?_, trivial⟩
          · refine fb_append0 39 0 n (fun i => rdC (rd i)) (g.ok _ _ _) cont_any rfl rfl rfl rfl rfl rfl rfl rfl rfl rfl rfl rfl (by decide) (by decide) rfl rfl rfl rfl (by decide) (by omega) ?_
            refine any_step [5] (g.ok _ _ _) (by kernel_rfl) (by decide) ⟨?_, trivial⟩
            refine any_weaken 1 (fun j => match j with | 3 => 15 | 4 => 19 | 5 => 23 | 6 => 40 | 7 => 41 | j => j) (fun j hj => hG j (by omega)) ?_ hK
            refine ⟨?_, ?_, rfl, rfl, rfl, rfl, trivial⟩
            · repeat' (first | exact trivial | exact rfl | refine And.intro ?_ ?_)
            · repeat' (first | exact trivial | exact rfl | (intro i hi; exact ⟨rfl, rfl⟩) | refine And.intro ?_ ?_)
          · refine any_step [3] (g.ok _ _ _) (by kernel_rfl) (by decide) ⟨?_, trivial⟩
            refine fb_append0 39 0 n (fun i => rdC (rd i)) (g.ok _ _ _) cont_any rfl rfl rfl rfl rfl rfl rfl rfl rfl rfl rfl rfl (by decide) (by decide) rfl rfl rfl rfl (by decide) (by omega) ?_
            refine any_weaken 1 (fun j => match j with | 3 => 15 | 4 => 19 | 5 => 23 | 6 => 41 | 7 => 40 | j => j) (fun j hj => hG j (by omega)) ?_ hK
            refine ⟨?_, ?_, rfl, rfl, rfl, rfl, trivial⟩
            · repeat' (first | exact trivial | exact rfl | refine And.intro ?_ ?_)
            · repeat' (first | exact trivial | exact rfl | (intro i hi; exact ⟨rfl, rfl⟩) | refine And.intro ?_ ?_)
        · refine any_step [0] (g.ok _ _ _) (by kernel_rfl) (by decide) ⟨?_, trivial⟩
          refine any_step [3] (g.ok _ _ _) (by kernel_rfl) (by decide) ⟨?_, trivial⟩
          refine fb_append0 40 0 n (fun i => rdC (rd i)) (g.ok _ _ _) cont_any rfl rfl rfl rfl rfl rfl rfl rfl rfl rfl rfl rfl (by decide) (by decide) rfl rfl rfl rfl (by decide) (by omega) ?_
          refine any_weaken 1 (fun j => match j with | 3 => 15 | 4 => 19 | 5 => 23 | 6 => 41 | 7 => 39 | j => j) (fun j hj => hG j (by omega)) ?_ hK
          refine ⟨?_, ?_, rfl, rfl, rfl, rfl, trivial⟩
          · repeat' (first | exact trivial | exact rfl | refine And.intro ?_ ?_)
          · repeat' (first | exact trivial | exact rfl | (intro i hi; exact ⟨rfl, rfl⟩) | refine And.intro ?_ ?_)
    · refine any_step [0, 2, 5] (g.ok _ _ _) (by kernel_rfl) (by decide) ⟨?_, ?_, ?_, trivial⟩
      · refine any_step [2, 5] (g.ok _ _ _) (by kernel_rfl) (by decide) ⟨?_, ?_, trivial⟩
        · refine any_step [3, 5] (g.ok _ _ _) (by kernel_rfl) (by decide) ⟨?_, ?_, trivial⟩
          · refine fb_append0 39 0 n (fun i => rdC (rd i)) (g.ok _ _ _) cont_any rfl rfl rfl rfl rfl rfl rfl rfl rfl rfl rfl rfl (by decide) (by decide) rfl rfl rfl rfl (by decide) (by omega) ?_
            refine any_step [5] (g.ok _ _ _) (by kernel_rfl) (by decide) ⟨?_, trivial⟩
            refine any_weaken 1 (fun j => match j with | 3 => 15 | 4 => 19 | 5 => 23 | 6 => 40 | 7 => 41 | j => j) (fun j hj => hG j (by omega)) ?_ hK
            refine ⟨?_, ?_, rfl, rfl, rfl, rfl, trivial⟩
            · repeat' (first | exact trivial | exact rfl | refine And.intro ?_ ?_)
            · repeat' (first | exact trivial | exact rfl | (intro i hi; exact ⟨rfl, rfl⟩) | refine And.intro ?_ ?_)
          · refine any_step [3] (g.ok _ _ _) (by kernel_rfl) (by decide) ⟨?_, trivial⟩
            refine fb_append0 39 0 n (fun i => rdC (rd i)) (g.ok _ _ _) cont_any rfl rfl rfl rfl rfl rfl rfl rfl rfl rfl rfl rfl (by decide) (by decide) rfl rfl rfl rfl (by decide) (by omega) ?_
            refine any_weaken 1 (fun j => match j with | 3 => 15 | 4 => 19 | 5 => 23 | 6 => 41 | 7 => 40 | j => j) (fun j hj => hG j (by omega)) ?_ hK
            refine ⟨?_, ?_, rfl, rfl, rfl, rfl, trivial⟩
            · repeat' (first | exact trivial | exact rfl | refine And.intro ?_ ?_)
            · repeat' (first | exact trivial | exact rfl | (intro i hi; exact ⟨rfl, rfl⟩) | refine And.intro ?_ ?_)
        · refine any_step [2] (g.ok _ _ _) (by kernel_rfl) (by decide) ⟨?_, trivial⟩
          refine any_step [3] (g.ok _ _ _) (by kernel_rfl) (by decide) ⟨?_, trivial⟩
          refine fb_append0 39 0 n (fun i => rdC (rd i)) (g.ok _ _ _) cont_any rfl rfl rfl rfl rfl rfl rfl rfl rfl rfl rfl rfl (by decide) (by decide) rfl rfl rfl rfl (by decide) (by omega) ?_
          refine any_weaken 1 (fun j => match j with | 3 => 15 | 4 => 19 | 5 => 23 | 6 => 41 | 7 => 40 | j => j) (fun j hj => hG j (by omega)) ?_ hK
          refine ⟨?_, ?_, rfl, rfl, rfl, rfl, trivial⟩
          · repeat' (first | exact trivial | exact rfl | refine And.intro ?_ ?_)
          · repeat' (first | exact trivial | exact rfl | (intro i hi; exact ⟨rfl, rfl⟩) | refine And.intro ?_ ?_)
      · refine any_step [0, 5] (g.ok _ _ _) (by kernel_rfl) (by decide) ⟨?_, ?_, trivial⟩
        · refine any_step [3, 5] (g.ok _ _ _) (by kernel_rfl) (by decide) ⟨?_, ?_, trivial⟩
          · refine fb_append0 39 0 n (fun i => rdC (rd i)) (g.ok _ _ _) cont_any rfl rfl rfl rfl rfl rfl rfl rfl rfl rfl rfl rfl (by decide) (by decide) rfl rfl rfl rfl (by decide) (by omega) ?_
            refine any_step [5] (g.ok _ _ _) (by kernel_rfl) (by decide) ⟨?_, trivial⟩
            refine any_weaken 1 (fun j => match j with | 3 => 15 | 4 => 19 | 5 => 23 | 6 => 40 | 7 => 41 | j => j) (fun j hj => hG j (by omega)) ?_ hK
            refine ⟨?_, ?_, rfl, rfl, rfl, rfl, trivial⟩
            · repeat' (first | exact trivial | exact rfl | refine And.intro ?_ ?_)
            · repeat' (first | exact trivial | exact rfl | (intro i hi; exact ⟨rfl, rfl⟩) | refine And.intro ?_ ?_)
          · refine any_step [3] (g.ok _ _ _) (by kernel_rfl) (by decide) ⟨?_, trivial⟩
            refine fb_append0 39 0 n (fun i => rdC (rd i)) (g.ok _ _ _) cont_any rfl rfl rfl rfl rfl rfl rfl rfl rfl rfl rfl rfl (by decide) (by decide) rfl rfl rfl rfl (by decide) (by omega) ?_
            refine any_weaken 1 (fun j => match j with | 3 => 15 | 4 => 19 | 5 => 23 | 6 => 41 | 7 => 40 | j => j) (fun j hj => hG j (by omega)) ?_ hK
            refine ⟨?_, ?_, rfl, rfl, rfl, rfl, trivial⟩
            · repeat' (first | exact trivial | exact rfl | refine And.intro ?_ ?_)
            · repeat' (first | exact trivial | exact rfl | (intro i hi; exact ⟨rfl, rfl⟩) | refine And.intro ?_ ?_)
        · refine any_step [0] (g.ok _ _ _) (by kernel_rfl) (by decide) ⟨?_, trivial⟩
          refine any_step [3] (g.ok _ _ _) (by kernel_rfl) (by decide) ⟨?_, trivial⟩
          refine fb_append0 40 0 n (fun i => rdC (rd i)) (g.ok _ _ _) cont_any rfl rfl rfl rfl rfl rfl rfl rfl rfl rfl rfl rfl (by decide) (by decide) rfl rfl rfl rfl (by decide) (by omega) ?_
          refine any_weaken 1 (fun j => match j with | 3 => 15 | 4 => 19 | 5 => 23 | 6 => 41 | 7 => 39 | j => j) (fun j hj => hG j (by omega)) ?_ hK
          refine ⟨?_, ?_, rfl, rfl, rfl, rfl, trivial⟩
          · repeat' (first | exact trivial | exact rfl | refine And.intro ?_ ?_)
          · repeat' (first | exact trivial | exact rfl | (intro i hi; exact ⟨rfl, rfl⟩) | refine And.intro ?_ ?_)
      · refine any_step [0, 2] (g.ok _ _ _) (by kernel_rfl) (by decide) ⟨?_, ?_, trivial⟩
        · refine any_step [2] (g.ok _ _ _) (by kernel_rfl) (by decide) ⟨?_, trivial⟩
          refine any_step [3] (g.ok _ _ _) (by kernel_rfl) (by decide) ⟨?_, trivial⟩
          refine fb_append0 40 0 n (fun i => rdC (rd i)) (g.ok _ _ _) cont_any rfl rfl rfl rfl rfl rfl rfl rfl rfl rfl rfl rfl (by decide) (by decide) rfl rfl rfl rfl (by decide) (by omega) ?_
          refine any_weaken 1 (fun j => match j with | 3 => 15 | 4 => 19 | 5 => 23 | 6 => 41 | 7 => 39 | j => j) (fun j hj => hG j (by omega)) ?_ hK
          refine ⟨?_, ?_, rfl, rfl, rfl, rfl, trivial⟩
          · repeat' (first | exact trivial | exact rfl | refine And.intro ?_ ?_)
          · repeat' (first | exact trivial | exact rfl | (intro i hi; exact ⟨rfl, rfl⟩) | refine And.intro ?_ ?_)
        · refine any_step [0] (g.ok _ _ _) (by kernel_rfl) (by decide) ⟨?_, trivial⟩
          refine any_step [3] (g.ok _ _ _) (by kernel_rfl) (by decide) ⟨?_, trivial⟩
          refine fb_append0 40 0 n (fun i => rdC (rd i)) (g.ok _ _ _) cont_any rfl rfl rfl rfl rfl rfl rfl rfl rfl rfl rfl rfl (by decide) (by decide) rfl rfl rfl rfl (by decide) (by omega) ?_
          refine any_weaken 1 (fun j => match j with | 3 => 15 | 4 => 19 | 5 => 23 | 6 => 41 | 7 => 39 | j => j) (fun j hj => hG j (by omega)) ?_ hK
          refine ⟨?_, ?_, rfl, rfl, rfl, rfl, trivial⟩
          · repeat' (first | exact trivial | exact rfl | refine And.intro ?_ ?_)
          · repeat' (first | exact trivial | exact rfl | (intro i hi; exact ⟨rfl, rfl⟩) | refine And.intro ?_ ?_)
    refine any_step [6] (g.ok _ _ _) (by kernel_rfl) (by decide) ⟨?_, trivial⟩
    refine fb_append (Te := 0) 6 7 n 1 _ _ (fun i => rdC (rdX rd n (e1, e2, e3, e4) i)) (g.ok _ _ _) cont_any rfl rfl rfl rfl rfl rfl rfl rfl rfl rfl rfl rfl (by decide) (by decide) rfl rfl rfl rfl (by omega) (fun j hj => ?_) ?_
    · unfold rdX
      by_cases hlt : j < n
      · rw [if_pos hlt, if_pos hlt]
      · rw [if_neg hlt, if_neg hlt, show j - n = 0 by omega]
        rfl
    refine any_step [7] (g.ok _ _ _) (by kernel_rfl) (by decide) ⟨?_, trivial⟩
    refine any_step [8] (g.ok _ _ _) (by kernel_rfl) (by decide) ⟨?_, trivial⟩
    refine any_done (by kernel_rfl) ?_
    refine fb_append0 9 0 n (fun i => rdC (rd i)) (g.ok _ _ _) cont_std rfl rfl rfl rfl rfl rfl rfl rfl rfl rfl rfl rfl (by decide) (by decide) rfl rfl rfl rfl (by decide) (by omega) ?_
    refine nil_at 5 36 41 4 (fun i => rdC (revR rd n i)) [.si .i64 mk, .si .i64 l1, .si .i64 l2, .si .i64 c1, .si .i64 c2] [] rfl ?_

    refine loop_okR (g.ok _ _ _) 1 (fun z : {i : Nat // i ≤ n} => ⟨[(2, ⟨[], .si .u8 wh⟩), (3, ⟨[], .si .u8 wt⟩), (4, ⟨[], .si .u8 x⟩), (5, ⟨[], .si .u16 y⟩), (6, ⟨[], .sp 1 0⟩), (13, ⟨[], .si .i64 n⟩), (14, ⟨[], .sp 3 0⟩), (15, ⟨[], .sp 4 0⟩), (16, ⟨[], .sp 5 0⟩), (72, ⟨[], .si .i64 n⟩), (73, ⟨[], .si .i64 (z.1 : Nat)⟩)], [],
      [(8, .vec 41 4 z.1 fun j => rdC (revR rd n j)), (7, .vec 41 4 n fun j => rdC (rd j)), (6, .vec 41 4 (n + 1) fun i => rdC (rdX rd n (e1, e2, e3, e4) i)), (5, .cells 36 (bC mk l1 l2 c1 c2 8)), (4, .cells 36 (bC mk l1 l2 c1 c2 7)), (3, .cells 36 (bC mk l1 l2 c1 c2 6)), (1, .cells 36 (bC mk l1 l2 c1 c2 0)), (0, .ro 4 n fun i => rdC (rd i))], 9, []⟩)
      (fun z => n - z.1) (fun j hj => hG j (by omega)) ⟨0, Nat.zero_le _⟩ (fun j => match j with | 6 => 8 | 7 => 10 | 8 => 11 | j => j) ?_ ?_
    · refine ⟨?_, ?_, rfl, rfl, rfl, rfl, trivial⟩
      · repeat' (first | exact trivial | exact rfl | refine And.intro ?_ ?_)
      · repeat' (first | exact trivial | exact rfl | (intro i hi; exact ⟨rfl, rfl⟩) | refine And.intro ?_ ?_)
    rintro ⟨i, hi⟩
    refine Br.mk (fun h => ?_) (fun h => ?_)
    · have h : (i : Int) < (n : Int) := of_decide_eq_true h
      refine drawn_ok (g.ok _ _ _) fol [0,1,0,4,0,16,0,112,252,508,1020,2047,4095,8191] [] 11 (by kernel_rfl) ?_
      refine Chk.mk (show InK .i64 ((n : Int) - 1) from ⟨by omega, by omega⟩) (Chk.mk (show InK .i64 ((n : Int) - 1 - (i : Int)) from ⟨by omega, by omega⟩) ?_)
      refine Chk.mk (show (0 : Int) ≤ (n : Int) - 1 - (i : Int) ∧ (n : Int) - 1 - (i : Int) < (n : Int) from ⟨by omega, by omega⟩) ?_
      refine fb_append (Te := 0) 8 49 i 1 _ _ (fun j => rdC (revR rd n j)) (g.ok _ _ _) cont_std rfl rfl rfl rfl rfl rfl rfl rfl rfl rfl rfl rfl (by decide) (by decide) rfl rfl rfl rfl (by omega) (fun j hj => ?_) ?_
      · by_cases hlt : j < i
        · rw [if_pos hlt]
        · have ei : ((n : Int) - 1 - (i : Int)).toNat = n - 1 - i := by omega
          rw [if_neg hlt, show j = i by omega, Nat.sub_self]
          show rdC (rd (n - 1 - i)) = rdC (rd (((n : Int) - 1 - (i : Int)).toNat))
          rw [ei]
      refine Chk.mk (show InK .i64 ((i : Int) + 1) from ⟨by omega, by omega⟩) ⟨⟨i + 1, by omega⟩, (fun j => match j with | 8 => 53 | j => j), ?_, by show n - (i + 1) < n - i; omega⟩
      refine ⟨?_, ?_, rfl, rfl, rfl, rfl, trivial⟩
      · repeat' (first | exact trivial | exact rfl | refine And.intro ?_ ?_)
      · repeat' (first | exact trivial | exact rfl | (intro i hi; exact ⟨rfl, rfl⟩) | refine And.intro ?_ ?_)
    have h : ¬ (i : Int) < (n : Int) := of_decide_eq_false h
    obtain rfl : n = i := by omega
    have n0 : n = 0 ∨ (0 ≤ wh.tmod (n : Int) ∧ wh.tmod (n : Int) < (n : Int)) := by
      rcases Nat.eq_zero_or_pos n with h | h
      · exact .inl h
      · exact .inr ⟨Int.tmod_nonneg _ hwh.1, Int.tmod_lt_of_pos _ (by omega)⟩
    obtain ⟨ix, hix⟩ : ∃ ix, wh.tmod (n : Int) = ix := ⟨_, rfl⟩
    rw [hix] at n0
    obtain ⟨w4, hw4⟩ : ∃ w4, wt.tmod 4 = w4 := ⟨_, rfl⟩
    obtain ⟨yR, hyR⟩ : ∃ yR : Nat → Rd, yR = fun j => if j = ix.toNat then narR w4 (rd j) else rd j := ⟨_, rfl⟩
    have hyR2 : ∀ j, yR j = if j = ix.toNat then narR w4 (rd j) else rd j := fun j => by rw [hyR]
    clear hyR
    refine br_hold ⟨[(171, ⟨[], .sl 9⟩), (173, ⟨[], .sl 0⟩), (4, ⟨[], .si .u8 x⟩), (5, ⟨[], .si .u16 y⟩), (6, ⟨[], .sp 1 0⟩), (14, ⟨[], .sp 3 0⟩), (15, ⟨[], .sp 4 0⟩), (16, ⟨[], .sp 5 0⟩)], [],
      [(9, .row 41 4 0 []), (8, .vec 41 4 n fun j => rdC (revR rd n j)), (7, .vec 41 4 n fun j => rdC (yR j)), (6, .vec 41 4 (n + 1) fun i => rdC (rdX rd n (e1, e2, e3, e4) i)), (5, .cells 36 (bC mk l1 l2 c1 c2 8)), (4, .cells 36 (bC mk l1 l2 c1 c2 7)), (3, .cells 36 (bC mk l1 l2 c1 c2 6)), (1, .cells 36 (bC mk l1 l2 c1 c2 0)), (0, .ro 4 n fun i => rdC (rd i))], 10, []⟩ (fun hp hF => fb_weaken 1 (fun j => j) (fun j hj => hG j (by omega)) ?_ hF) (fun hp hF => ?_) ?_
    · have hp : ¬ (0 : Int) < (n : Int) := of_decide_eq_false hp
      obtain rfl : n = 0 := by omega
      refine ⟨?_, ?_, rfl, rfl, rfl, rfl, trivial⟩
      · repeat' (first | exact trivial | exact rfl | refine And.intro ?_ ?_)
      · repeat' (first | exact trivial | exact rfl | (intro i hi; exfalso; omega) | (intro i hi; exact ⟨rfl, rfl⟩) | refine And.intro ?_ ?_)
    · have hp : (0 : Int) < (n : Int) := of_decide_eq_true hp
      have n0 := n0.resolve_left (by omega)
      refine drawn_ok (g.ok _ _ _) fol [0,1,0,4,0,28,63,127] [] 8 (by kernel_rfl) ?_
      refine Chk.mk (show InK .i64 wh from ⟨by omega, by omega⟩) (Chk.mk (show (n : Int) ≠ 0 by omega) ?_)
      rw [hix]
      refine Chk.mk (show 0 ≤ ix ∧ ix < (n : Int) from n0) ?_
      refine Chk.mk (show (4 : Int) ≠ 0 by decide) ?_
      rw [hw4]
      have hrb := hr (rd ix.toNat) (by rw [hrs]; exact List.mem_map.2 ⟨ix.toNat, List.mem_range.2 (by omega), rfl⟩)
      unfold rdOk spanB at hrb
      simp only [Bool.and_eq_true, decide_eq_true_eq] at hrb
      have hfin : ∀ (cs : SV) (off : Nat), setL (rdC (rd ix.toNat)) off [cs] = rdC (narR w4 (rd ix.toNat)) → ∀ j, j < n → rdC (yR j) = if j = ix.toNat then setL (rdC (rd j)) off [cs] else rdC (rd j) := fun cs off h j hj => by
        rw [hyR2]
        by_cases e : j = ix.toNat
        · rw [if_pos e, if_pos e, e, h]
        · rw [if_neg e, if_neg e]
      refine Br.mk (fun hq => ?_) (fun hq => ?_)
      · have hq : w4 = 0 := of_decide_eq_true hq
        refine drawn_ok (g.ok _ _ _) fol [0,0,2,6,14,30,0,64,192,448,960,1984,4094,8191,16383,32767,65535] [] 16 (by kernel_rfl) ?_
        refine Chk.mk (show InK .i64 ((rd ix.toNat).1 + 1) from ⟨by omega, by omega⟩) ?_
        refine fb_storeV 7 41 4 n ix 0 (fun j => rdC (rd j)) (fun j => rdC (yR j)) [.si .i64 (min (rd ix.toNat).2.1 ((rd ix.toNat).1 + 1))] (g.ok _ _ _) cont_std rfl rfl rfl rfl rfl rfl rfl rfl rfl rfl n0 (by simp) (hfin _ _ ?_) ?_
        · rw [narR, if_pos hq]; rfl
        refine fb_weaken 1 (fun j => match j with | 9 => 105 | j => j) (fun j hj => hG j (by omega)) ?_ hF
        refine ⟨?_, ?_, rfl, rfl, rfl, rfl, trivial⟩
        · repeat' (first | exact trivial | exact rfl | refine And.intro ?_ ?_)
        · repeat' (first | exact trivial | exact rfl | (intro i hi; exact ⟨rfl, rfl⟩) | refine And.intro ?_ ?_)
      have hq0 : ¬ w4 = 0 := of_decide_eq_false hq
      clear hq
      refine Br.mk (fun hq => ?_) (fun hq => ?_)
      · have hq : w4 = 1 := of_decide_eq_true hq
        refine drawn_ok (g.ok _ _ _) fol [0,0,2,6,14,30,0,64,192,448,960,1984,4094,8191,16383,32767,65535] [] 16 (by kernel_rfl) ?_
        refine Chk.mk (show InK .i64 ((rd ix.toNat).2.1 - 1) from ⟨by omega, by omega⟩) ?_
        refine fb_storeV 7 41 4 n ix 1 (fun j => rdC (rd j)) (fun j => rdC (yR j)) [.si .i64 (max (rd ix.toNat).1 ((rd ix.toNat).2.1 - 1))] (g.ok _ _ _) cont_std rfl rfl rfl rfl rfl rfl rfl rfl rfl rfl n0 (by simp) (hfin _ _ ?_) ?_
        · rw [narR, if_neg hq0, if_pos hq]; rfl
        refine fb_weaken 1 (fun j => match j with | 9 => 105 | j => j) (fun j hj => hG j (by omega)) ?_ hF
        refine ⟨?_, ?_, rfl, rfl, rfl, rfl, trivial⟩
        · repeat' (first | exact trivial | exact rfl | refine And.intro ?_ ?_)
        · repeat' (first | exact trivial | exact rfl | (intro i hi; exact ⟨rfl, rfl⟩) | refine And.intro ?_ ?_)
      have hq1 : ¬ w4 = 1 := of_decide_eq_false hq
      clear hq
      refine Br.mk (fun hq => ?_) (fun hq => ?_)
      · have hq : w4 = 2 := of_decide_eq_true hq
        refine drawn_ok (g.ok _ _ _) fol [0,0,2,6,14,30,0,64,192,448,960,1984,4094,8191,16383,32767,65535] [] 16 (by kernel_rfl) ?_
        refine Chk.mk (show InK .i64 ((rd ix.toNat).2.2.1 + 1) from ⟨by omega, by omega⟩) ?_
        refine fb_storeV 7 41 4 n ix 2 (fun j => rdC (rd j)) (fun j => rdC (yR j)) [.si .i64 (min (rd ix.toNat).2.2.2 ((rd ix.toNat).2.2.1 + 1))] (g.ok _ _ _) cont_std rfl rfl rfl rfl rfl rfl rfl rfl rfl rfl n0 (by simp) (hfin _ _ ?_) ?_
        · rw [narR, if_neg hq0, if_neg hq1, if_pos hq]; rfl
        refine fb_weaken 1 (fun j => match j with | 9 => 105 | j => j) (fun j hj => hG j (by omega)) ?_ hF
        refine ⟨?_, ?_, rfl, rfl, rfl, rfl, trivial⟩
        · repeat' (first | exact trivial | exact rfl | refine And.intro ?_ ?_)
        · repeat' (first | exact trivial | exact rfl | (intro i hi; exact ⟨rfl, rfl⟩) | refine And.intro ?_ ?_)
      have hq2 : ¬ w4 = 2 := of_decide_eq_false hq
      clear hq
      refine drawn_ok (g.ok _ _ _) fol [0,0,2,6,14,30,0,64,192,448,960,1984,4094,8191,16383,32767,65535] [] 16 (by kernel_rfl) ?_
      refine Chk.mk (show InK .i64 ((rd ix.toNat).2.2.2 - 1) from ⟨by omega, by omega⟩) ?_
      refine fb_storeV 7 41 4 n ix 3 (fun j => rdC (rd j)) (fun j => rdC (yR j)) [.si .i64 (max (rd ix.toNat).2.2.1 ((rd ix.toNat).2.2.2 - 1))] (g.ok _ _ _) cont_std rfl rfl rfl rfl rfl rfl rfl rfl rfl rfl n0 (by simp) (hfin _ _ ?_) ?_
      · rw [narR, if_neg hq0, if_neg hq1, if_neg hq2]; rfl
      refine fb_weaken 1 (fun j => match j with | 9 => 105 | j => j) (fun j hj => hG j (by omega)) ?_ hF
      refine ⟨?_, ?_, rfl, rfl, rfl, rfl, trivial⟩
      · repeat' (first | exact trivial | exact rfl | refine And.intro ?_ ?_)
      · repeat' (first | exact trivial | exact rfl | (intro i hi; exact ⟨rfl, rfl⟩) | refine And.intro ?_ ?_)

    refine fb_append0 9 0 n (fun i => rdC (rd i)) (g.ok _ _ _) cont_std rfl rfl rfl rfl rfl rfl rfl rfl rfl rfl rfl rfl (by decide) (by decide) rfl rfl rfl rfl (by decide) (by omega) ?_
    have q1 : x.tmod 201 = x % 201 := Int.tmod_eq_emod_of_nonneg (by omega)
    have q2 : y.tmod 30001 = y % 30001 := Int.tmod_eq_emod_of_nonneg (by omega)
    refine Chk.mk (show InK .i64 x from ⟨by omega, by omega⟩) (Chk.mk (show (201 : Int) ≠ 0 by decide) (Chk.mk (show InK .i64 (x.tmod 201 - 100) from ⟨by omega, by omega⟩) ?_))
    refine Chk.mk (show InK .i64 y from ⟨by omega, by omega⟩) (Chk.mk (show (30001 : Int) ≠ 0 by decide) ?_)
    obtain ⟨t, ht⟩ : ∃ t, x.tmod 201 - 100 = t := ⟨_, rfl⟩
    obtain ⟨off, hoff⟩ : ∃ off, y.tmod 30001 = off := ⟨_, rfl⟩
    have ht1 : -100 ≤ t ∧ t ≤ 100 := by omega
    have hof1 : 0 ≤ off ∧ off ≤ 30000 := by omega
    have hTa := told_a hok (t := t) (off := off)
    have hTb := told_b hok (t := t) (off := off)
    have hTk := told_k hok (t := t) (off := off)
    have hTc := told_c hok (off := off) ht1
    have hTd := told_d hok (t := t) hof1
    refine Chk.mk ⟨rds_rd _ _, rfl, trivial⟩ ?_
    rw [hB, hTa]
    refine Chk.mk ⟨rds_rd _ _, rfl, trivial⟩ ?_
    rw [hB, hTb]
    refine (show SemC _ _ _ _ from ?_)
    rw [ht]
    refine drawn_ok (g.ok _ _ _) fol [0,0,0,6,15,31,63,63,0,383,1023] [(9, 45)] 11 (by kernel_rfl) ?_
    refine Chk.mk ⟨rds_rd _ _, rfl, trivial⟩ ?_
    rw [hB, hTc]
    refine Chk.mk ⟨rds_rd _ _, rfl, trivial⟩ ?_
    rw [hB, hoff, hTd]
    refine Chk.mk ⟨rds_rd _ _, rfl, trivial⟩ ?_
    rw [hB, hTk]
    obtain ⟨T, hT⟩ : ∃ T, toldT B t off = T := ⟨_, rfl⟩
    rw [hT]
    refine Br.mk (fun h => absurd h (by simp)) (fun _ => ?_)
    have hV0 : Blk.mk mk l1 l2 c1 c2 (rdL (n + 1) fun i => rdC (rdX rd n (e1, e2, e3, e4) i)) = addB B (e1, e2, e3, e4) := by rw [rdL_rdX, ← hB]; rfl
    have hL0 := add_like B (e1, e2, e3, e4)
    obtain ⟨V1, hV1⟩ : ∃ V1, Blk.mk mk l1 l2 c1 c2 (rdL n fun j => rdC (yR j)) = V1 := ⟨_, rfl⟩
    have hL1 : Like V1 B := nar_like (V := V1) (rd := rd) (yR := yR) hok hrs (by rw [← hV1, hB1, hB2.1, hB2.2.1, hB2.2.2.1, hB2.2.2.2]; rfl) fun j hj => by
      rw [hyR2]
      split
      · exact .inr ⟨_, rfl⟩
      · exact .inl rfl
    obtain ⟨V2, hV2⟩ : ∃ V2, Blk.mk mk l1 l2 c1 c2 (rdL n fun j => rdC (revR rd n j)) = V2 := ⟨_, rfl⟩
    have hV2m : V2.mark = B.mark ∧ V2.l1 = B.l1 ∧ V2.l2 = B.l2 ∧ V2.c1 = B.c1 ∧ V2.c2 = B.c2 := by rw [← hV2, ← hB]; exact ⟨rfl, rfl, rfl, rfl, rfl⟩
    have hV2r : ∀ z, z ∈ V2.rs ↔ z ∈ B.rs := fun z => by
      have e : V2.rs = (List.range n).map (revR rd n) := by rw [← hV2]; rfl
      rw [e, hrs, List.mem_map, List.mem_map]
      constructor
      · rintro ⟨j, hj, rfl⟩
        have hj := List.mem_range.1 hj
        exact ⟨n - 1 - j, List.mem_range.2 (by omega), rfl⟩
      · rintro ⟨j, hj, rfl⟩
        have hj := List.mem_range.1 hj
        refine ⟨n - 1 - j, List.mem_range.2 (by omega), ?_⟩
        unfold revR
        rw [show n - 1 - (n - 1 - j) = j by omega]
    have hP2 := rev_same hV2m.1 hV2m.2.1 hV2m.2.2.1 hV2m.2.2.2.1 hV2m.2.2.2.2 hV2r
    have hS2 : ∀ t off, toldT V2 t off = toldT B t off := same_told hV2m.1 hP2
    refine loop_okR (g.ok _ _ _) 1 (fun z : {i : Nat // i ≤ 3} => ⟨[(6, ⟨[], .sp 1 0⟩), (19, ⟨[], .sl 9⟩), (20, ⟨[], .si .i64 t⟩), (21, ⟨[], .si .i64 off⟩), (22, ⟨[], .fn (.func 50) [] []⟩), (23, ⟨[], .sp 10 0⟩), (24, ⟨[], .si .i64 T.e⟩), (25, ⟨[], .sp 11 0⟩), (26, ⟨[], .si .i64 T.e⟩), (27, ⟨[], .sp 12 0⟩), (28, ⟨[], .si .i64 T.e⟩), (29, ⟨[], .si .i64 T.d⟩), (30, ⟨[], .si .i64 T.e⟩), (31, ⟨[], .si .i64 T.k⟩), (32, ⟨[], .si .i64 0⟩), (231, ⟨[], .sl 13⟩), (232, ⟨[], .si .i64 3⟩), (233, ⟨[], .si .i64 (z.1 : Nat)⟩)], [],
      [(13, .row 36 6 3 [.si .i64 mk, .si .i64 l1, .si .i64 l2, .si .i64 c1, .si .i64 c2, .sl 6, .si .i64 mk, .si .i64 l1, .si .i64 l2, .si .i64 c1, .si .i64 c2, .sl 7, .si .i64 mk, .si .i64 l1, .si .i64 l2, .si .i64 c1, .si .i64 c2, .sl 8]), (12, .cells 24 [.si .i64 T.c1, .si .i64 T.c2]), (11, .cells 24 [.si .i64 T.b1, .si .i64 T.b2]), (10, .cells 24 [.si .i64 T.a1, .si .i64 T.a2]), (9, .vec 41 4 n fun i => rdC (rd i)), (8, .vec 41 4 n fun j => rdC (revR rd n j)), (7, .vec 41 4 n fun j => rdC (yR j)), (6, .vec 41 4 (n + 1) fun i => rdC (rdX rd n (e1, e2, e3, e4) i)), (1, .cells 36 (bC mk l1 l2 c1 c2 0)), (0, .ro 4 n fun i => rdC (rd i))], 14, []⟩)
      (fun z => 3 - z.1) (fun j hj => hG j (by omega)) ⟨0, by omega⟩ (fun j => match j with | 9 => 10 | 10 => 11 | 11 => 12 | 12 => 45 | 13 => 57 | j => j) ?_ ?_
    · refine ⟨?_, ?_, rfl, rfl, rfl, rfl, trivial⟩
      · repeat' (first | exact trivial | exact rfl | refine And.intro ?_ ?_)
      · repeat' (first | exact trivial | exact rfl | (intro i hi; exact ⟨rfl, rfl⟩) | refine And.intro ?_ ?_)
    rintro ⟨i, hi⟩
    rcases (show i = 0 ∨ i = 1 ∨ i = 2 ∨ i = 3 by omega) with rfl | rfl | rfl | rfl
    · refine Br.mk (fun _ => ?_) (fun h => absurd h (by simp))
      refine Chk.mk ⟨by simp, by simp⟩ ?_
      refine Chk.mk ⟨fun i hi => rfl, rfl, trivial⟩ ?_
      rw [hV0]
      refine Br.mk (fun hv => ?_) (fun hv => ?_)
      · refine Chk.mk ⟨by simp, by simp⟩ ⟨⟨1, by omega⟩, (fun j => j), ?_, by simp⟩
        refine ⟨?_, ?_, rfl, rfl, rfl, rfl, trivial⟩
        · repeat' (first | exact trivial | exact rfl | refine And.intro ?_ ?_)
        · repeat' (first | exact trivial | exact rfl | (intro i hi; exact ⟨rfl, rfl⟩) | refine And.intro ?_ ?_)
      have hv : (!blkOk (addB B (e1, e2, e3, e4))) = false := hv
      have hv : blkOk (addB B (e1, e2, e3, e4)) = true := by simpa using hv
      have hUa := told_a hv (t := t) (off := off)
      have hUb := told_b hv (t := t) (off := off)
      have hUk := told_k hv (t := t) (off := off)
      have hUc := told_c hv (off := off) ht1
      have hUd := told_d hv (t := t) hof1
      have hU1 := like_told hL0 hv (t := t) (off := off) ht1
      have hU2 := told_e (addB B (e1, e2, e3, e4)) t off
      rw [hT] at hU1
      obtain ⟨U, hU⟩ : ∃ U, toldT (addB B (e1, e2, e3, e4)) t off = U := ⟨_, rfl⟩
      rw [hU] at hUa hUb hUk hUc hUd hU1 hU2
      refine Chk.mk ⟨fun i hi => rfl, rfl, trivial⟩ ?_
      rw [hV0, hUa]
      refine Chk.mk ⟨fun i hi => rfl, rfl, trivial⟩ ?_
      rw [hV0, hUb]
      refine drawn_ok (g.ok _ _ _) fol [0,0,0,6,15,31,63,63,0,383,1023] [(9, 49)] 11 (by kernel_rfl) ?_
      refine Chk.mk ⟨fun i hi => rfl, rfl, trivial⟩ ?_
      rw [hV0, hUc]
      refine Chk.mk ⟨fun i hi => rfl, rfl, trivial⟩ ?_
      rw [hV0, hUd]
      refine Chk.mk ⟨fun i hi => rfl, rfl, trivial⟩ ?_
      rw [hV0, hUk]
      refine Br.mk (fun h => absurd h ?_) (fun _ => ?_)
      · obtain ⟨hk1, hk2⟩ := hU1
        rcases hU2 with hz | hz
        · obtain ⟨k1, k2, k3, k4, k5⟩ := hk2 hz
          simp [inS, hz, k1]
          omega
        · simp [inS, hz]
          omega
      refine Br.mk (fun h => absurd h (by simp)) (fun _ => ?_)
      refine Chk.mk ⟨by simp, by simp⟩ ⟨⟨1, by omega⟩, (fun j => j), ?_, by simp⟩
      refine ⟨?_, ?_, rfl, rfl, rfl, rfl, trivial⟩
      · repeat' (first | exact trivial | exact rfl | refine And.intro ?_ ?_)
      · repeat' (first | exact trivial | exact rfl | (intro i hi; exact ⟨rfl, rfl⟩) | refine And.intro ?_ ?_)
    · refine Br.mk (fun _ => ?_) (fun h => absurd h (by simp))
      refine Chk.mk ⟨by simp, by simp⟩ ?_
      refine Chk.mk ⟨fun i hi => rfl, rfl, trivial⟩ ?_
      rw [hV1]
      refine Br.mk (fun hv => ?_) (fun hv => ?_)
      · refine Chk.mk ⟨by simp, by simp⟩ ⟨⟨2, by omega⟩, (fun j => j), ?_, by simp⟩
        refine ⟨?_, ?_, rfl, rfl, rfl, rfl, trivial⟩
        · repeat' (first | exact trivial | exact rfl | refine And.intro ?_ ?_)
        · repeat' (first | exact trivial | exact rfl | (intro i hi; exact ⟨rfl, rfl⟩) | refine And.intro ?_ ?_)
      have hv : (!blkOk V1) = false := hv
      have hv : blkOk V1 = true := by simpa using hv
      have hUa := told_a hv (t := t) (off := off)
      have hUb := told_b hv (t := t) (off := off)
      have hUk := told_k hv (t := t) (off := off)
      have hUc := told_c hv (off := off) ht1
      have hUd := told_d hv (t := t) hof1
      have hU1 := like_told hL1 hv (t := t) (off := off) ht1
      have hU2 := told_e V1 t off
      rw [hT] at hU1
      obtain ⟨U, hU⟩ : ∃ U, toldT V1 t off = U := ⟨_, rfl⟩
      rw [hU] at hUa hUb hUk hUc hUd hU1 hU2
      refine Chk.mk ⟨fun i hi => rfl, rfl, trivial⟩ ?_
      rw [hV1, hUa]
      refine Chk.mk ⟨fun i hi => rfl, rfl, trivial⟩ ?_
      rw [hV1, hUb]
      refine drawn_ok (g.ok _ _ _) fol [0,0,0,6,15,31,63,63,0,383,1023] [(9, 49)] 11 (by kernel_rfl) ?_
      refine Chk.mk ⟨fun i hi => rfl, rfl, trivial⟩ ?_
      rw [hV1, hUc]
      refine Chk.mk ⟨fun i hi => rfl, rfl, trivial⟩ ?_
      rw [hV1, hUd]
      refine Chk.mk ⟨fun i hi => rfl, rfl, trivial⟩ ?_
      rw [hV1, hUk]
      refine Br.mk (fun h => absurd h ?_) (fun _ => ?_)
      · obtain ⟨hk1, hk2⟩ := hU1
        rcases hU2 with hz | hz
        · obtain ⟨k1, k2, k3, k4, k5⟩ := hk2 hz
          simp [inS, hz, k1]
          omega
        · simp [inS, hz]
          omega
      refine Br.mk (fun h => absurd h (by simp)) (fun _ => ?_)
      refine Chk.mk ⟨by simp, by simp⟩ ⟨⟨2, by omega⟩, (fun j => j), ?_, by simp⟩
      refine ⟨?_, ?_, rfl, rfl, rfl, rfl, trivial⟩
      · repeat' (first | exact trivial | exact rfl | refine And.intro ?_ ?_)
      · repeat' (first | exact trivial | exact rfl | (intro i hi; exact ⟨rfl, rfl⟩) | refine And.intro ?_ ?_)
    · refine Br.mk (fun _ => ?_) (fun h => absurd h (by simp))
      refine Chk.mk ⟨by simp, by simp⟩ ?_
      refine Chk.mk ⟨fun i hi => rfl, rfl, trivial⟩ ?_
      rw [hV2]
      refine Br.mk (fun hv => ?_) (fun hv => ?_)
      · refine Chk.mk ⟨by simp, by simp⟩ ⟨⟨3, by omega⟩, (fun j => j), ?_, by simp⟩
        refine ⟨?_, ?_, rfl, rfl, rfl, rfl, trivial⟩
        · repeat' (first | exact trivial | exact rfl | refine And.intro ?_ ?_)
        · repeat' (first | exact trivial | exact rfl | (intro i hi; exact ⟨rfl, rfl⟩) | refine And.intro ?_ ?_)
      have hv : (!blkOk V2) = false := hv
      have hv : blkOk V2 = true := by simpa using hv
      have hUa := told_a hv (t := t) (off := off)
      have hUb := told_b hv (t := t) (off := off)
      have hUk := told_k hv (t := t) (off := off)
      have hUc := told_c hv (off := off) ht1
      have hUd := told_d hv (t := t) hof1
      have hU2 := told_e B t off
      rw [hS2, hT] at hUa hUb hUk hUc hUd
      rw [hT] at hU2
      refine Chk.mk ⟨fun i hi => rfl, rfl, trivial⟩ ?_
      rw [hV2, hUa]
      refine Chk.mk ⟨fun i hi => rfl, rfl, trivial⟩ ?_
      rw [hV2, hUb]
      refine drawn_ok (g.ok _ _ _) fol [0,0,0,6,15,31,63,63,0,383,1023] [(9, 49)] 11 (by kernel_rfl) ?_
      refine Chk.mk ⟨fun i hi => rfl, rfl, trivial⟩ ?_
      rw [hV2, hUc]
      refine Chk.mk ⟨fun i hi => rfl, rfl, trivial⟩ ?_
      rw [hV2, hUd]
      refine Chk.mk ⟨fun i hi => rfl, rfl, trivial⟩ ?_
      rw [hV2, hUk]
      refine Br.mk (fun h => absurd h ?_) (fun _ => ?_)
      · rcases hU2 with hz | hz
        · simp [inS, hz]
        · simp [inS, hz]
      refine Br.mk (fun h => absurd h (by simp)) (fun _ => ?_)
      refine Chk.mk ⟨by simp, by simp⟩ ⟨⟨3, by omega⟩, (fun j => j), ?_, by simp⟩
      refine ⟨?_, ?_, rfl, rfl, rfl, rfl, trivial⟩
      · repeat' (first | exact trivial | exact rfl | refine And.intro ?_ ?_)
      · repeat' (first | exact trivial | exact rfl | (intro i hi; exact ⟨rfl, rfl⟩) | refine And.intro ?_ ?_)
    refine Br.mk (fun h => absurd h (by simp)) (fun _ => ?_)
    refine loop_okR (g.ok _ _ _) 1 (fun z : {i : Nat // i ≤ n} => ⟨[(6, ⟨[], .sp 1 0⟩), (19, ⟨[], .sl 2⟩), (367, ⟨[], .sl 2⟩), (368, ⟨[], .si .i64 n⟩), (369, ⟨[], .si .i64 (z.1 : Nat)⟩)], [],
      [(2, .vec 41 4 n fun i => rdC (rd i)), (1, .cells 36 (bC mk l1 l2 c1 c2 0)), (0, .ro 4 n fun i => rdC (rd i))], 3, []⟩)
      (fun z => n - z.1) (fun j hj => hG j (by omega)) ⟨0, Nat.zero_le _⟩ (fun j => match j with | 2 => 9 | j => j) ?_ ?_
    · refine ⟨?_, ?_, rfl, rfl, rfl, rfl, trivial⟩
      · repeat' (first | exact trivial | exact rfl | refine And.intro ?_ ?_)
      · repeat' (first | exact trivial | exact rfl | (intro i hi; exact ⟨rfl, rfl⟩) | refine And.intro ?_ ?_)
    rintro ⟨i, hi⟩
    refine Br.mk (fun h => ?_) (fun h => ?_)
    · have h : (i : Int) < (n : Int) := of_decide_eq_true h
      refine drawn_ok (g.ok _ _ _) fol [0,0,3,7,0,16,0,112,240,511] [] 10 (by kernel_rfl) ?_
      refine Chk.mk (show (0 : Int) ≤ (i : Int) ∧ (i : Int) < (n : Int) from ⟨by omega, h⟩) ?_
      refine Chk.mk (show (0 : Int) ≤ (i : Int) ∧ (i : Int) < (n : Int) from ⟨by omega, h⟩) ?_
      refine Br.mk (fun h => absurd h (by simp)) (fun _ => ?_)
      refine Chk.mk (show InK .i64 ((i : Int) + 1) from ⟨by omega, by omega⟩) ⟨⟨i + 1, by omega⟩, (fun j => j), ?_, by show n - (i + 1) < n - i; omega⟩
      refine ⟨?_, ?_, rfl, rfl, rfl, rfl, trivial⟩
      · repeat' (first | exact trivial | exact rfl | refine And.intro ?_ ?_)
      · repeat' (first | exact trivial | exact rfl | (intro i hi; exact ⟨rfl, rfl⟩) | refine And.intro ?_ ?_)
    exact hR _ _ rfl rfl
  · cases hk
end Go.X.W
end
