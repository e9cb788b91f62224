/- A reading more, and how many pairs an exact reading leaves. -/
import Derived.Test.YtipjgdkaocfapaaNI

section
set_option linter.unusedVariables false
set_option linter.unusedSimpArgs false
set_option linter.unusedSectionVars false
/- Warm: a reading more, plainly. -/
set_option linter.unusedVariables false
set_option linter.unusedSimpArgs false
set_option maxRecDepth 10000
set_option maxHeartbeats 1000000
namespace Go.X.W
open Go Go.Proofs Go.X

theorem row_filter (q q' : Pr → Bool) (n c1 a : Int) : row (fun p => q p && q' p) n c1 a = (row q n c1 a).filter q' := by
  unfold row
  rw [List.filter_filter]
  congr 1
  funext p
  exact Bool.and_comm _ _
theorem rows_filter (q q' : Pr → Bool) (l1 c1 c2 n : Int) : rows (fun p => q p && q' p) l1 c1 c2 n = (rows q l1 c1 c2 n).filter q' := by
  unfold rows
  rw [List.filter_flatMap]
  congr 1
  funext m
  exact row_filter q q' m c1 (c2 + 1)
def addB (B : Blk) (x : Rd) : Blk := ⟨B.mark, B.l1, B.l2, B.c1, B.c2, B.rs ++ [x]⟩
theorem add_pairs (B : Blk) (x : Rd) : pairsV (addB B x) = (pairsV B).filter fun p => canV B.mark p x := by
  have e : okP B.mark (B.rs ++ [x]) = fun p => okP B.mark B.rs p && canV B.mark p x := by
    funext p
    unfold okP
    rw [List.all_append]
    simp
  show rows (okP B.mark (B.rs ++ [x])) B.l1 B.c1 B.c2 (B.l2 + 1) = _
  rw [e, rows_filter]
  rfl
theorem can_exact (mk : Int) (p : Pr) (t n : Int) : canV mk p (t, t, n, n) = decide (showV mk p t = n) := by
  unfold canV
  rw [iota_one]
  simp only [List.any_cons, List.any_nil, Bool.or_false]
  show inB (showV mk p t) n n = _
  unfold inB
  rw [Bool.eq_iff_iff, Bool.and_eq_true, decide_eq_true_eq, decide_eq_true_eq, decide_eq_true_eq]
  omega
/-- How many pairs show so much. -/
def cntS (mk t : Int) (l : List Pr) (n : Int) : Nat := l.countP fun p => decide (showV mk p t = n)
theorem add_len (B : Blk) (t n : Int) : (pairsV (addB B (t, t, n, n))).length = cntS B.mark t (pairsV B) n := by
  rw [add_pairs]
  unfold cntS
  rw [List.countP_eq_length_filter]
  congr 1
  refine List.filter_congr fun p _ => ?_
  exact can_exact _ _ _ _
theorem add_ok {B : Blk} (h : blkOk B = true) (hn : B.rs.length < 5) {x : Rd} (hx : rdOk x = true) : blkOk (addB B x) = true := by
  unfold blkOk at h ⊢
  rw [Bool.and_eq_true] at h ⊢
  refine ⟨?_, ?_⟩
  · have h1 := h.1
    unfold headOk at h1 ⊢
    rw [Bool.and_eq_true] at h1 ⊢
    refine ⟨h1.1, decide_eq_true ?_⟩
    show (((B.rs ++ [x]).length : Nat) : Int) ≤ 5
    rw [List.length_append]
    simp; omega
  · show (B.rs ++ [x]).all rdOk = true
    rw [List.all_append, h.2]
    simpa using hx
section
variable {B : Blk} (hok : blkOk B = true) (h0 : ¬ (pairsV B).length = 0) {t : Int} (ht : -100 ≤ t ∧ t ≤ 100)
include hok h0 ht
theorem one_tight : -21000 ≤ (oneV B.mark (pairsV B) t).1 ∧ (oneV B.mark (pairsV B) t).1 ≤ (oneV B.mark (pairsV B) t).2 ∧ (oneV B.mark (pairsV B) t).2 ≤ 21000 := by
  obtain ⟨hmk, _⟩ := blk_b hok
  obtain ⟨⟨p, hp, e1⟩, ⟨q, hq, e2⟩, h3⟩ := one_mem hok h0 ht
  have k1 := show_tight (mk := B.mark) (by omega) (pair_b hok hp) ht
  have k2 := show_tight (mk := B.mark) (by omega) (pair_b hok hq) ht
  have k3 := h3 p hp
  omega
theorem add_cnt (hn : B.rs.length < 5) {n : Int} (hb : (oneV B.mark (pairsV B) t).1 ≤ n ∧ n ≤ (oneV B.mark (pairsV B) t).2) : cntV (addB B (t, t, n, n)) = ((cntS B.mark t (pairsV B) n : Int), 0) := by
  have h1 := one_tight hok h0 ht
  rw [cnt_ok (add_ok hok hn (by
    unfold rdOk spanB
    simp only [Bool.and_eq_true, decide_eq_true_eq]; omega)), add_len]
end
/-- What is known of the most and of the sum, before a number. -/
def mostP (mk t : Int) (l : List Pr) (n : Int) (w a : Nat) : Prop := a = l.countP (fun p => decide (showV mk p t < n)) ∧ (∀ p ∈ l, showV mk p t < n → cntS mk t l (showV mk p t) ≤ w) ∧ (w = 0 ∨ ∃ m, w = cntS mk t l m)
theorem cntS_pos {mk t : Int} {l : List Pr} {n : Int} (h : cntS mk t l n ≠ 0) : ∃ p ∈ l, showV mk p t = n := by
  unfold cntS at h
  have : 0 < l.countP fun p => decide (showV mk p t = n) := by omega
  obtain ⟨p, hp, h1⟩ := List.countP_pos_iff.1 this
  exact ⟨p, hp, of_decide_eq_true h1⟩
theorem count_lt (mk t n : Int) (l : List Pr) : l.countP (fun p => decide (showV mk p t < n + 1)) = l.countP (fun p => decide (showV mk p t < n)) + cntS mk t l n := by
  unfold cntS
  induction l with
  | nil => rfl
  | cons p l ih =>
    simp only [List.countP_cons]
    rw [ih]
    have key : ∀ x y z : Bool, ((if x = true then 1 else 0) : Nat) = (if y = true then 1 else 0) + (if z = true then 1 else 0) → l.countP (fun p => decide (showV mk p t < n)) + l.countP (fun p => decide (showV mk p t = n)) + (if x = true then 1 else 0) = l.countP (fun p => decide (showV mk p t < n)) + (if y = true then 1 else 0) + (l.countP (fun p => decide (showV mk p t = n)) + if z = true then 1 else 0) := fun x y z h => by omega
    refine key _ _ _ ?_
    by_cases h1 : showV mk p t < n
    · rw [decide_eq_true h1, decide_eq_true (show showV mk p t < n + 1 by omega), decide_eq_false (show ¬ showV mk p t = n by omega)]
      rfl
    · by_cases h3 : showV mk p t = n
      · rw [decide_eq_false h1, decide_eq_true (show showV mk p t < n + 1 by omega), decide_eq_true h3]
        rfl
      · rw [decide_eq_false h1, decide_eq_false (show ¬ showV mk p t < n + 1 by omega), decide_eq_false h3]
        rfl
theorem mostP_next {mk t : Int} {l : List Pr} {n : Int} {w a : Nat} (h : mostP mk t l n w a) : mostP mk t l (n + 1) (max w (cntS mk t l n)) (a + cntS mk t l n) := by
  obtain ⟨h1, h2, h3⟩ := h
  refine ⟨by rw [count_lt, h1], fun p hp hlt => ?_, ?_⟩
  · by_cases e : showV mk p t = n
    · rw [e]; omega
    · have := h2 p hp (by omega)
      omega
  · rcases Nat.le_total w (cntS mk t l n) with h | h
    · exact .inr ⟨n, by omega⟩
    · rw [show max w (cntS mk t l n) = w by omega]; exact h3
theorem mostP_last {mk t : Int} {l : List Pr} {n : Int} {w a : Nat} (h : mostP mk t l n w a) (hall : ∀ p ∈ l, showV mk p t < n) : w = leftV mk l t ∧ a = l.length := by
  obtain ⟨h1, h2, h3⟩ := h
  have hb : leftV mk l t ≤ w := leftV_le.2 fun p hp => h2 p hp (hall p hp)
  have hb2 : w ≤ leftV mk l t := by
    rcases h3 with h3 | ⟨m, h3⟩
    · omega
    · by_cases hm : cntS mk t l m = 0
      · omega
      · obtain ⟨p, hp, e⟩ := cntS_pos hm
        have := (leftV_le (b := leftV mk l t)).1 (Nat.le_refl _) p hp
        rw [e] at this
        rw [h3]
        exact this
  refine ⟨by omega, ?_⟩
  rw [h1]
  exact List.countP_eq_length.2 fun p hp => decide_eq_true (hall p hp)
theorem mostP_first {mk t : Int} {l : List Pr} {n : Int} (h : ∀ p ∈ l, n ≤ showV mk p t) : mostP mk t l n 0 0 := by
  refine ⟨?_, fun p hp hlt => ?_, .inl rfl⟩
  · symm
    rw [List.countP_eq_zero]
    intro p hp
    have := h p hp
    simp; omega
  · have := h p hp; omega
end Go.X.W
end

section
set_option linter.unusedVariables false
set_option linter.unusedSimpArgs false
set_option linter.unusedSectionVars false
/- Warm: how many pairs an exact reading leaves at most, and together. -/
set_option linter.unusedVariables false
set_option linter.unusedSimpArgs false
set_option maxRecDepth 10000
set_option maxHeartbeats 4000000
namespace Go.X.W
open Go Go.Proofs Go.X

def rdX (rd : Nat → Rd) (n : Nat) (x : Rd) (i : Nat) : Rd := if i < n then rd i else x
theorem rdL_rdX (rd : Nat → Rd) (n : Nat) (x : Rd) : rdL (n + 1) (fun i => rdC (rdX rd n x i)) = (rdL n fun i => rdC (rd i)) ++ [x] := by
  have e : ∀ (f : Nat → Rd) m, (rdL m fun i => rdC (f i)) = (List.range m).map f := fun f m => rfl
  rw [e, e, List.range_succ, List.map_append]
  congr 1
  · refine List.map_congr_left fun i hi => ?_
    have := List.mem_range.1 hi
    unfold rdX
    rw [if_pos this]
  · simp [rdX]
def c46 : Ct := wmCt fun B r => match r with
  | [.si .i64 t] => some (some (blkOk B = true ∧ ¬ (pairsV B).length = 0 ∧ B.rs.length < 5 ∧ -100 ≤ t ∧ t ≤ 100), .tup [.si .i64 (leftV B.mark (pairsV B) t : Nat), .si .i64 ((pairsV B).length : Nat), .sb true])
  | _ => none
theorem k46 {l : List (Nat × Ct)} (g0 : Good P T l) : COk P 46 c46 := by
  have g := g30 (g33 (g42 (g70 good0)))
  refine cok (C := tabC _) g.ok Try.func46 (c := code Try.f46) rfl fun fr args H out h hp => wmWalk h hp fun mk l1 l2 c1 c2 n rd r p v Rv Rp hk hp hR => ?_
  split at hk
  · rename_i t
    cases hk
    have hLL : (List.range n).map rd = rdL n fun i => rdC (rd i) := rfl
    rw [hLL] at hp hR
    obtain ⟨B, hB⟩ : ∃ B : Blk, Blk.mk mk l1 l2 c1 c2 (rdL n fun i => rdC (rd i)) = B := ⟨_, rfl⟩
    rw [hB] at hp hR
    obtain ⟨hok, h0, h5, ht⟩ : blkOk B = true ∧ ¬ (pairsV B).length = 0 ∧ B.rs.length < 5 ∧ -100 ≤ t ∧ t ≤ 100 := hp
    have hB1 : B.mark = mk := by rw [← hB]
    have hBn : B.rs.length = n := by rw [← hB]; simp [rdL]
    have hadd : ∀ m, Blk.mk mk l1 l2 c1 c2 (rdL (n + 1) fun i => rdC (rdX rd n (t, t, m, m) i)) = addB B (t, t, m, m) := fun m => by
      rw [rdL_rdX, ← hB]; rfl
    have hT := one_tight hok h0 ht
    have hmem := (one_mem hok h0 ht).2.2
    have hsp : spanB t t (-100) 100 200 = true := by simp only [spanB, Bool.and_eq_true, decide_eq_true_eq]; omega
    have hO : hullE B (spanB t t (-100) 100 200) (showL B.mark t t) = (oneV B.mark (pairsV B) t, 0) := by
      rw [hullE_tell hok, if_pos hsp, if_neg h0, hull_show hok h0 ht.1 ht.2 (Int.le_refl _)]
    have hpl := (pairs_len hok)
    refine ⟨Nat.le_of_ble_eq_true rfl, fun G hG => ?_⟩
    refine drawn_ok (g.ok _ _ _) fol [0,0,0,6,15,31,63,63,0,383,1023] [(9, 34)] 11 (by kernel_rfl) ?_
    refine Chk.mk ⟨rds_rd _ _, rfl, trivial⟩ ?_
    rw [hB, hO]
    have hac := fun m hm => add_cnt hok h0 ht h5 (n := m) hm
    obtain ⟨⟨lo, hi⟩, hlh⟩ : ∃ x, oneV B.mark (pairsV B) t = x := ⟨_, rfl⟩
    rw [hlh] at hT hmem hac ⊢
    simp only at hT hmem hac
    refine Br.mk (fun h => absurd h (by simp; omega)) (fun _ => ?_)
    refine loop_okR (g.ok _ _ _) 1 (fun z : {x : Int × Nat × Nat // (lo ≤ x.1 ∧ x.1 ≤ hi + 1) ∧ mostP B.mark t (pairsV B) x.1 x.2.1 x.2.2} => ⟨[(1, ⟨[], .si .i64 t⟩), (2, ⟨[], .sp 1 0⟩), (4, ⟨[], .si .i64 (z.1.2.1 : Nat)⟩), (5, ⟨[], .si .i64 (z.1.2.2 : Nat)⟩), (7, ⟨[], .sp 2 0⟩), (9, ⟨[], .si .i64 z.1.1⟩)], [],
      [(2, .cells 24 [.si .i64 lo, .si .i64 hi]), (1, .cells 36 (bC mk l1 l2 c1 c2 0)), (0, .ro 4 n fun i => rdC (rd i))], 3, []⟩)
      (fun z => (hi + 1 - z.1.1).toNat) (fun j hj => hG j (by omega)) ⟨(lo, 0, 0), ⟨Int.le_refl _, by simp only; omega⟩, mostP_first fun p hp => (hmem p hp).1⟩ (fun j => match j with | 2 => 34 | j => j) ?_ ?_
    · refine ⟨?_, ?_, rfl, rfl, rfl, rfl, trivial⟩
      · repeat' (first | exact trivial | exact rfl | refine And.intro ?_ ?_)
      · repeat' (first | exact trivial | exact rfl | (intro i hi; exact ⟨rfl, rfl⟩) | refine And.intro ?_ ?_)
    rintro ⟨⟨m, w, a⟩, ⟨hm1, hm2⟩, hmo⟩
    simp only at hm1 hm2 hmo
    have ha : a ≤ (pairsV B).length := by rw [hmo.1]; exact List.countP_le_length
    refine Br.mk (fun h => ?_) (fun h => ?_)
    · have h : m ≤ hi := of_decide_eq_true h
      refine fb_append0 4 0 n (fun i => rdC (rd i)) (g.ok _ _ _) cont_std rfl rfl rfl rfl rfl rfl rfl rfl rfl rfl rfl rfl (by decide) (by decide) rfl rfl rfl rfl (by decide) (by omega) ?_
      refine fb_append (Te := 0) 5 6 n 1 _ _ (fun i => rdC (rdX rd n (t, t, m, m) i)) (g.ok _ _ _) cont_std rfl rfl rfl rfl rfl rfl rfl rfl rfl rfl rfl rfl (by decide) (by decide) rfl rfl rfl rfl (by omega) (fun j hj => ?_) ?_
      · unfold rdX
        by_cases hlt : j < n
        · rw [if_pos hlt, if_pos hlt]
        · rw [if_neg hlt, if_neg hlt, show j - n = 0 by omega]
          rfl
      refine Chk.mk ⟨fun i hi => rfl, rfl, trivial⟩ ?_
      rw [hadd m, hac m ⟨hm1, h⟩]
      have hnx := mostP_next hmo
      have hc : cntS B.mark t (pairsV B) m ≤ (pairsV B).length := List.countP_le_length
      refine Br.mk (fun h => absurd h (by simp)) (fun _ => ?_)
      refine Chk.mk (show InK .i64 ((a : Int) + (cntS B.mark t (pairsV B) m : Int)) from ⟨by omega, by omega⟩) ?_
      refine Chk.mk (show InK .i64 (m + 1) from ⟨by omega, by omega⟩) ⟨⟨(m + 1, max w (cntS B.mark t (pairsV B) m), a + cntS B.mark t (pairsV B) m), ⟨by simp only; omega, by simp only; omega⟩, hnx⟩, (fun j => j), ?_, (by show (hi + 1 - (m + 1)).toNat < (hi + 1 - m).toNat; omega)⟩
      have e1 : max (w : Int) (cntS B.mark t (pairsV B) m : Int) = ((max w (cntS B.mark t (pairsV B) m) : Nat) : Int) := by omega
      have e2 : (a : Int) + (cntS B.mark t (pairsV B) m : Int) = ((a + cntS B.mark t (pairsV B) m : Nat) : Int) := by omega
      refine ⟨?_, ?_, rfl, rfl, rfl, rfl, trivial⟩
      · repeat' (first | exact trivial | exact e1 | exact e2 | exact rfl | refine And.intro ?_ ?_)
      · repeat' (first | exact trivial | exact rfl | (intro i hi; exact ⟨rfl, rfl⟩) | refine And.intro ?_ ?_)
    · have h : ¬ m ≤ hi := of_decide_eq_false h
      obtain rfl : m = hi + 1 := by omega
      obtain ⟨e1, e2⟩ := mostP_last hmo (fun p hp => by have := (hmem p hp).2; omega)
      refine hR _ _ ?_ rfl
      have f1 : (w : Int) = (leftV B.mark (pairsV B) t : Nat) := by rw [e1]
      have f2 : (a : Int) = ((pairsV B).length : Nat) := by rw [e2]
      repeat' (first | exact trivial | exact f1 | exact f2 | exact rfl | refine And.intro ?_ ?_)
  · cases hk
theorem g46 {l : List (Nat × Ct)} (g : Good P T l) : Good P T ((46, c46) :: l) := g.add (k46 g) (wmCt_mono _) (body_of Try.func46 (c := code Try.f46) rfl (by decide))
end Go.X.W
end
