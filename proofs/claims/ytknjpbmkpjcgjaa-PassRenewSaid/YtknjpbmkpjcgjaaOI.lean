/- The walk of PassUntil. -/
import Derived.Test.YtknjpbmkpjcgjaaOG

section
set_option linter.unusedVariables false
set_option linter.unusedSimpArgs false
set_option linter.unusedSectionVars false
/- Pass: PassUntil answers true. -/
set_option linter.unusedVariables false
set_option linter.unusedSimpArgs false
set_option maxRecDepth 10000
set_option maxHeartbeats 4000000
namespace Go.X.Ps
open Go Go.Proofs Go.X

/-! ### In range -/
theorem isItem_in {it q : Int} (h : 1 ≤ it ∧ it ≤ 6) (hq : 0 ≤ q ∧ q < it) : isItemV it q = true := by
  unfold isItemV inB
  have e : IntKind.i64.wrap (it - 1) = it - 1 := wrap_in (show InK .i64 (it - 1) from ⟨by omega, by omega⟩)
  rw [e]
  simp only [Bool.and_eq_true, decide_eq_true_eq]
  omega
theorem inB_in {z lo hi : Int} (h : lo ≤ z ∧ z ≤ hi) : inB z lo hi = true := by
  unfold inB
  simp only [Bool.and_eq_true, decide_eq_true_eq]
  exact h
theorem bound_in {it ag : Int} {ps : List Pp} {q z : Int} (hv : validV it ag ps = true) (hit : 1 ≤ it ∧ it ≤ 6) (hq : 0 ≤ q ∧ q < it) (hz : 0 ≤ z ∧ z ≤ 20) :
    boundE it ag ps q z = (if (bnL ag ps q z).isSome = true then 0 else 4) ∧ boundR it ag ps q z = wO (bnL ag ps q z) := by
  unfold boundE boundR
  rw [hv, isItem_in hit hq, inB_in hz]
  exact ⟨rfl, rfl⟩
theorem until_in {it ag : Int} {ps : List Pp} {q z lim : Int} (hv : validV it ag ps = true) (hit : 1 ≤ it ∧ it ≤ 6) (hq : 0 ≤ q ∧ q < it) (hz : 0 ≤ z ∧ z ≤ 20) (hl : 0 ≤ lim ∧ lim ≤ 2000) :
    untilE it ag ps q z lim = if holdO lim (bnL ag ps q z) = true then 0 else 4 := by
  unfold untilE
  rw [hv, isItem_in hit hq, inB_in hz, inB_in hl]
  rfl
theorem holds_eq {it ag : Int} {ps : List Pp} {q z lim : Int} (hv : validV it ag ps = true) (hit : 1 ≤ it ∧ it ≤ 6) (hq : 0 ≤ q ∧ q < it) (hz : 0 ≤ z ∧ z ≤ 20) :
    (decide (boundE it ag ps q z = 0) && decide (boundR it ag ps q z ≤ lim)) = holdO lim (bnL ag ps q z) := by
  obtain ⟨e1, e2⟩ := bound_in hv hit hq hz
  rw [e1, e2]
  unfold holdO
  cases (bnL ag ps q z).isSome <;> rfl
/-! ### Until -/
theorem untilN_all {h : Int → Bool} : ∀ (k : Nat) (y z : Int), y ≤ z → z < untilN h k y → h z = true
  | 0, y, z, h1, h2 => by unfold untilN at h2; omega
  | k + 1, y, z, h1, h2 => by
    unfold untilN at h2
    split at h2
    · rename_i hb
      by_cases e : z = y
      · rw [e]; exact hb
      · exact untilN_all k (y + 1) z (by omega) h2
    · omega
theorem untilN_end {h : Int → Bool} : ∀ (k : Nat) (y : Int), untilN h k y < y + k → h (untilN h k y) = false
  | 0, y, h1 => by unfold untilN at h1; omega
  | k + 1, y, h1 => by
    unfold untilN at h1 ⊢
    split
    · rename_i hb
      rw [if_pos hb] at h1
      exact untilN_end k (y + 1) (by omega)
    · rename_i hb
      simpa using hb
theorem untilN_mono {h h' : Int → Bool} (hm : ∀ z, h z = true → h' z = true) : ∀ (k : Nat) (y : Int), untilN h k y ≤ untilN h' k y
  | 0, y => Int.le_refl _
  | k + 1, y => by
    unfold untilN
    split
    · rename_i hb
      rw [if_pos (hm y hb)]
      exact untilN_mono hm k (y + 1)
    · split
      · have := untilN_lt (h := h') k (y + 1); omega
      · exact Int.le_refl _
theorem holdO_mono {a b : Int} (h : a ≤ b) {o : Option Ch} (ho : holdO a o = true) : holdO b o = true := by
  unfold holdO at *
  rw [Bool.and_eq_true, decide_eq_true_eq] at *
  exact ⟨ho.1, by omega⟩
/-! ### The closure -/
theorem hand_nd {H : LH} {ps : List (Nat × HB)} (h1 : allP (fun c h => PieceOk H (sigP ps) c h) ps) (h2 : allP (fun _ h => InHB (fun i => i < ps.length) h) ps) (h3 : (ps.map (·.1)).Nodup) : Hand H ps where
  ok := allP_get h1
  ids := allP_get h2
  inj i j c hb hb' e1 e2 o1 o2 := by
    have f1 : (ps.map (·.1))[i]? = some c := by rw [List.getElem?_map, e1]; rfl
    have f2 : (ps.map (·.1))[j]? = some c := by rw [List.getElem?_map, e2]; rfl
    have hi : i < (ps.map (·.1)).length := lt_of_get f1
    exact (List.getElem?_inj hi h3).1 (f1.trans f2.symm)
def c34 : Ct := fun fr args H => match args with
  | [.si .i64 z, .sp px 0, .sp pq 0, .sp pl 0] => (match Nat.beq pq pl, H px, H pq, H pl with
    | false, some (.cells 24 l), some (.cells 3 [.si .i64 q]), some (.cells 3 [.si .i64 lim]) => passK H l fun i1 it ag n get => some ⟨some (Pps n get ∧ n ≤ 1000000), none, .sb (decide (boundE it ag (papL n get) q z = 0) && decide (boundR it ag (papL n get) q z ≤ lim)), []⟩
    | _, _, _, _ => none)
  | _ => none
theorem c34_mono : CtMono c34 := by
  intro fr args H H' out hH h
  unfold c34 at h ⊢
  split at h
  · split at h
    · rename_i e0 e1 e2 e3
      simp only [e0, hH _ _ e1, hH _ _ e2, hH _ _ e3]
      exact passK_mono hH h
    · cases h
  · cases h
theorem k34 {l : List (Nat × Ct)} (g0 : Good P T l) : COk P 34 c34 := by
  have g := g15 good0
  refine cok (C := tabC _) g.ok Try.func34 (c := code Try.f34) rfl fun fr args H out h hp => ?_
  unfold c34 at h
  split at h
  case h_2 => cases h
  rename_i z px pq pl
  split at h
  case h_2 => cases h
  rename_i l q lim e0 e1 e2 e3
  obtain ⟨i1, it, ag, n, get, rfl, e4, h⟩ := passK_some h
  cases h
  obtain ⟨hs, hn⟩ : Pps n get ∧ n ≤ 1000000 := hp
  have hh : Hand H [(i1, .ro 5 n fun i => ppC (ppAt get i)), (px, .cells 24 (paA 0 it ag)), (pq, .cells 3 [.si .i64 q]), (pl, .cells 3 [.si .i64 lim])] := hand_nd ⟨sliceOf_piece e4 fun i hi => (hs i hi).symm, e1, e2, e3, trivial⟩ (by repeat' (first | exact trivial | (intro i hi; exact ⟨trivial, trivial, trivial, trivial, trivial, trivial⟩) | refine And.intro ?_ ?_ | exact (by decide : (0 : Nat) < 4))) (by
    have n1 : i1 ≠ px := fun e => by subst e; unfold sliceOf at e4; rw [e1] at e4; cases e4
    have n2 : i1 ≠ pq := fun e => by subst e; unfold sliceOf at e4; rw [e2] at e4; cases e4
    have n3 : i1 ≠ pl := fun e => by subst e; unfold sliceOf at e4; rw [e3] at e4; cases e4
    have n4 : px ≠ pq := fun e => by subst e; rw [e1] at e2; cases e2
    have n5 : px ≠ pl := fun e => by subst e; rw [e1] at e3; cases e3
    have n6 : pq ≠ pl := fun e => by subst e; rw [Nat.beq_refl] at e0; cases e0
    simp [n1, n2, n3, n4, n5, n6])
  refine ⟨[(i1, .ro 5 n fun i => ppC (ppAt get i)), (px, .cells 24 (paA 0 it ag)), (pq, .cells 3 [.si .i64 q]), (pl, .cells 3 [.si .i64 lim])], [.si .i64 z, .sp 1 0, .sp 2 0, .sp 3 0], [(0, .ro 5 n fun i => ppC (ppAt get i)), (1, .cells 24 (paA 0 it ag)), (2, .cells 3 [.si .i64 q]), (3, .cells 3 [.si .i64 lim])], 4, [], rfl, rfl, Nat.le_of_ble_eq_true rfl, hh, rfl, rfl, fun G hG => ?_⟩
  refine Chk.mk ⟨pps_i _ _, hn⟩ ?_
  exact ⟨.inl rfl, end_noid rfl rfl rfl (by repeat' (first | exact trivial | exact rfl | (intro i hi; exact ⟨rfl, rfl⟩) | refine And.intro ?_ ?_))⟩
theorem g34 {l : List (Nat × Ct)} (g : Good P T l) : Good P T ((34, c34) :: l) := g.add (k34 g) c34_mono (body_of Try.func34 (c := code Try.f34) rfl (by decide))
/-! ### The law -/
theorem until_facts {it ag : Int} {ps : List Pp} {q y lim : Int} (hv : validV it ag ps = true) (hit : 1 ≤ it ∧ it ≤ 6) (hq : 0 ≤ q ∧ q < it) (hz : 0 ≤ y ∧ y ≤ 20) (hl : 0 ≤ lim ∧ lim ≤ 2000) (h0 : holdO lim (bnL ag ps q y) = true) :
    untilE it ag ps q y lim = 0 ∧ (y ≤ untilR it ag ps q y lim ∧ untilR it ag ps q y lim ≤ 20) ∧ (∀ z, y ≤ z → z ≤ untilR it ag ps q y lim → holdO lim (bnL ag ps q z) = true) ∧ (untilR it ag ps q y lim < 20 → holdO lim (bnL ag ps q (untilR it ag ps q y lim + 1)) = false) := by
  have e : untilE it ag ps q y lim = 0 := by rw [until_in hv hit hq hz hl, if_pos h0]
  have hR : untilR it ag ps q y lim = untilN (fun z => holdO lim (bnL ag ps q z)) (21 - y).toNat y - 1 := by unfold untilR; rw [if_pos e]
  have h1 := untilN_le (h := fun z => holdO lim (bnL ag ps q z)) (21 - y).toNat y
  have h2 : y < untilN (fun z => holdO lim (bnL ag ps q z)) (21 - y).toNat y := by
    rw [show (21 - y).toNat = (20 - y).toNat + 1 by omega, untilN, if_pos h0]
    have := untilN_lt (h := fun z => holdO lim (bnL ag ps q z)) (20 - y).toNat (y + 1)
    omega
  rw [hR]
  refine ⟨e, ⟨by omega, by omega⟩, fun z z1 z2 => untilN_all (h := fun z => holdO lim (bnL ag ps q z)) (21 - y).toNat y z z1 (by omega), fun h => ?_⟩
  have := untilN_end (h := fun z => holdO lim (bnL ag ps q z)) (21 - y).toNat y (by omega)
  rw [show untilN (fun z => holdO lim (bnL ag ps q z)) (21 - y).toNat y - 1 + 1 = untilN (fun z => holdO lim (bnL ag ps q z)) (21 - y).toNat y by omega]
  exact this
theorem until_mono {it ag : Int} {ps : List Pp} {q y lim lim' : Int} (hv : validV it ag ps = true) (hit : 1 ≤ it ∧ it ≤ 6) (hq : 0 ≤ q ∧ q < it) (hz : 0 ≤ y ∧ y ≤ 20) (hl : 0 ≤ lim ∧ lim ≤ lim') (hl' : lim' ≤ 2000) (h0 : holdO lim (bnL ag ps q y) = true) :
    untilR it ag ps q y lim ≤ untilR it ag ps q y lim' := by
  have e1 := (until_facts hv hit hq hz ⟨hl.1, by omega⟩ h0).1
  have e2 := (until_facts hv hit hq hz ⟨by omega, hl'⟩ (holdO_mono hl.2 h0)).1
  unfold untilR
  rw [if_pos e1, if_pos e2]
  have := untilN_mono (h := fun z => holdO lim (bnL ag ps q z)) (h' := fun z => holdO lim' (bnL ag ps q z)) (fun z hz => holdO_mono hl.2 hz) (21 - y).toNat y
  omega
theorem until_far {it ag : Int} {ps : List Pp} {q y : Int} (hv : validV it ag ps = true) : untilE it ag ps q y 2001 = 2 := by
  have e : errO (validV it ag ps) (isItemV it q && inB y 0 20 && inB 2001 0 2000) = 2 := by
    rw [hv, show inB 2001 0 2000 = false from rfl, Bool.and_false]
    rfl
  unfold untilE
  rw [e]
  rfl
theorem untilCond {it ag : Int} {ps : List Pp} {q y c d : Int} (hv : validV it ag ps = true) (hit : 1 ≤ it ∧ it ≤ 6) (hq : 0 ≤ q ∧ q < it) (hz : 0 ≤ y ∧ y ≤ 20) (hc : 0 ≤ c ∧ c < 256) (hd : 0 ≤ d ∧ d < 256) :
    (!decide (untilE it ag ps q y 2001 = 2) ||
          !decide (untilE it ag ps q y c = 0) ==
              (decide (boundE it ag ps q y = 0) &&
                decide (boundR it ag ps q y ≤ c)) ||
        !decide (untilE it ag ps q y c = 0) &&
          (!decide (untilE it ag ps q y c = 4) ||
            !decide (untilR it ag ps q y c = 0)) ||
      decide (untilE it ag ps q y c = 0) &&
        (!decide (untilE it ag ps q y (c + d) = 0) ||
              decide
                (untilR it ag ps q y (c + d) <
                  untilR it ag ps q y c) ||
            decide (untilR it ag ps q y c < y) ||
          decide (20 < untilR it ag ps q y c))) = false := by
  rw [until_far hv, holds_eq hv hit hq hz]
  cases h0 : holdO c (bnL ag ps q y) with
  | false =>
    have e : untilE it ag ps q y c = 4 := by rw [until_in hv hit hq hz ⟨hc.1, by omega⟩, if_neg (by rw [h0]; decide)]
    have eR : untilR it ag ps q y c = 0 := by unfold untilR; rw [e]; rfl
    rw [e, eR]
    rfl
  | true =>
    obtain ⟨e, h1, _, _⟩ := until_facts hv hit hq hz ⟨hc.1, by omega⟩ h0
    obtain ⟨e2, _, _, _⟩ := until_facts hv hit hq hz (lim := c + d) ⟨by omega, by omega⟩ (holdO_mono (by omega) h0)
    have hm := until_mono hv hit hq hz (lim := c) (lim' := c + d) ⟨hc.1, by omega⟩ (by omega) h0
    rw [e, e2]
    simp
    omega
theorem tmod_b {a b : Int} (h : 0 ≤ a) (hb : 0 < b) : 0 ≤ a.tmod b ∧ a.tmod b < b := ⟨Int.tmod_nonneg b h, Int.tmod_lt_of_pos a hb⟩
def c7 : Ct := fun fr args H => match args with
  | [.agg l, .si .u8 a, .si .u8 b, .si .u8 c, .si .u8 d] => passK H l fun i1 it ag n get => some ⟨some (Pps n get ∧ ((0 ≤ a ∧ a < 256) ∧ (0 ≤ b ∧ b < 256) ∧ (0 ≤ c ∧ c < 256) ∧ 0 ≤ d ∧ d < 256)), none, .sb true, []⟩
  | _ => none
theorem k7 {l : List (Nat × Ct)} (g0 : Good P T l) : COk P 7 c7 := by
  have g := g33 (g14 (g22 (g34 good0)))
  refine cok (C := tabC _) g.ok Try.func7 (c := code Try.f7) rfl fun fr args H out h hp => ?_
  unfold c7 at h
  split at h
  case h_2 => cases h
  rename_i l a b c d
  obtain ⟨i1, it, ag, n, get, rfl, e1, h⟩ := passK_some h
  cases h
  obtain ⟨hs, ha, hb, hc, hd⟩ : Pps n get ∧ ((0 ≤ a ∧ a < 256) ∧ (0 ≤ b ∧ b < 256) ∧ (0 ≤ c ∧ c < 256) ∧ 0 ≤ d ∧ d < 256) := hp
  refine ⟨[(i1, .ro 5 n fun i => ppC (ppAt get i))], [.agg (paA 0 it ag), .si .u8 a, .si .u8 b, .si .u8 c, .si .u8 d], [(0, .ro 5 n fun i => ppC (ppAt get i))], 1, [], rfl, rfl, Nat.le_of_ble_eq_true rfl, pp_hand e1 hs, rfl, rfl, fun G hG => ?_⟩
  generalize ppAt get = L
  obtain ⟨ps, hps⟩ : ∃ ps, papL n (fun i => ppC (L i)) = ps := ⟨_, rfl⟩
  refine Chk.mk (pps_i _ _) ?_
  refine Br.mk (fun h => ?_) (fun h => ?_)
  · exact ⟨.inl rfl, end_noid rfl rfl rfl (by repeat' (first | exact trivial | exact rfl | (intro i hi; exact ⟨rfl, rfl⟩) | refine And.intro ?_ ?_))⟩
  have h : (!validV it ag (papL n fun i => ppC (L i))) = false := h
  rw [hps] at h
  have hv : validV it ag ps = true := by simpa using h
  obtain ⟨_, hit, hn8⟩ := valid_ok (r := L) (n := n) (by rw [← hps] at hv; exact hv)
  have hn : n ≤ 1000000 := by omega
  have hq := tmod_b ha.1 (show 0 < it by omega)
  have hy := tmod_b hb.1 (show (0 : Int) < 21 by decide)
  refine Chk.mk (show InK .i64 a from ⟨by omega, by omega⟩) (Chk.mk (show it ≠ 0 by omega) (Chk.mk (show InK .i64 b from ⟨by omega, by omega⟩) (Chk.mk (show (21 : Int) ≠ 0 by decide) (Chk.mk (show InK .i64 c from ⟨by omega, by omega⟩) ?_))))
  generalize a.tmod it = q at hq
  generalize b.tmod 21 = y at hy
  refine Chk.mk ⟨pps_i _ _, hn⟩ (Chk.mk (show InK .i64 d from ⟨by omega, by omega⟩) (Chk.mk (show InK .i64 (c + d) from ⟨by omega, by omega⟩) (Chk.mk ⟨pps_i _ _, hn⟩ (Chk.mk ⟨pps_i _ _, hn⟩ ?_))))
  refine Chk.mk (under_of ⟨pps_i _ _, hn⟩) ?_
  have hy20 : 0 ≤ y ∧ y ≤ 20 := by omega
  refine Br.mk (fun h => ?_) (fun _ => ?_)
  · exfalso
    exact absurd h (Bool.eq_false_iff.1 (by rw [hps]; exact untilCond hv hit hq hy20 hc hd))
  refine Br.mk (fun h => ?_) (fun h => ?_)
  · exact ⟨.inl rfl, end_noid rfl rfl rfl (by repeat' (first | exact trivial | exact rfl | (intro i hi; exact ⟨rfl, rfl⟩) | refine And.intro ?_ ?_))⟩
  have h : (!decide (untilE it ag (papL n fun i => ppC (L i)) q y c = 0)) = false := h
  rw [hps] at h
  have h0 : holdO c (bnL ag ps q y) = true := by
    rw [until_in hv hit hq hy20 ⟨hc.1, by omega⟩] at h
    cases hh : holdO c (bnL ag ps q y) with
    | true => rfl
    | false => rw [hh] at h; cases h
  obtain ⟨_, h1, h2, h3⟩ := until_facts hv hit hq hy20 ⟨hc.1, by omega⟩ h0
  have hHz : ∀ z, 0 ≤ z ∧ z ≤ 20 → (decide (boundE it ag (papL n fun i => ppC (L i)) q z = 0) && decide (boundR it ag (papL n fun i => ppC (L i)) q z ≤ c)) = holdO c (bnL ag ps q z) := fun z hz => by rw [hps]; exact holds_eq hv hit hq hz
  have hRe : untilR it ag (papL n fun i => ppC (L i)) q y c = untilR it ag ps q y c := by rw [hps]
  generalize untilR it ag ps q y c = R at *
  refine loop_okR (g.ok _ _ _) 1 (fun z : {x : Int // y ≤ x ∧ x ≤ R + 1} => ⟨[(5, ⟨[], .sp 1 0⟩), (14, ⟨[], .si .i64 R⟩), (20, ⟨[], .fn (.func 34) [] [.sp 1 0, .sp 2 0, .sp 3 0]⟩), (21, ⟨[], .si .i64 z.1⟩)], [], [(1, .cells 24 (paA 0 it ag)), (2, .cells 3 [.si .i64 q]), (3, .cells 3 [.si .i64 c]), (0, .ro 5 n fun i => ppC (L i))], 4, []⟩)
    (fun z => (R + 1 - z.1).toNat) hG ⟨y, Int.le_refl _, by omega⟩ (fun j => j) ?_ ?_
  · refine ⟨?_, ?_, rfl, rfl, rfl, rfl, trivial⟩ <;> repeat' (first | exact trivial | exact rfl | exact hRe | (intro i hi; exact ⟨rfl, rfl⟩) | refine And.intro ?_ ?_)
  rintro ⟨x, hx1, hx2⟩
  refine Br.mk (fun h => ?_) (fun h => ?_)
  · have h : x ≤ R := of_decide_eq_true h
    refine Chk.mk ⟨pps_i _ _, hn⟩ ?_
    refine Br.mk (fun h4 => ?_) (fun h4 => ?_)
    · exfalso
      have h4 : (!(decide (boundE it ag (papL n fun i => ppC (L i)) q x = 0) && decide (boundR it ag (papL n fun i => ppC (L i)) q x ≤ c))) = true := h4
      rw [hHz x ⟨by omega, by omega⟩, h2 x hx1 h] at h4
      cases h4
    · refine Chk.mk (show InK .i64 (x + 1) from ⟨by omega, by omega⟩) ⟨⟨x + 1, by omega, by omega⟩, (fun j => j), ?_, by show (R + 1 - (x + 1)).toNat < (R + 1 - x).toNat; omega⟩
      refine ⟨?_, ?_, rfl, rfl, rfl, rfl, trivial⟩ <;> repeat' (first | exact trivial | exact rfl | (intro i hi; exact ⟨rfl, rfl⟩) | refine And.intro ?_ ?_)
  · refine Chk.mk (under_of (show InK .i64 (R + 1) from ⟨by omega, by omega⟩)) (Chk.mk (under_of ⟨pps_i _ _, hn⟩) ?_)
    refine ⟨.inl rfl, end_noid ?_ rfl rfl (by repeat' (first | exact trivial | exact rfl | (intro i hi; exact ⟨rfl, rfl⟩) | refine And.intro ?_ ?_))⟩
    show ((decide (R = 20) || !(decide (boundE it ag (papL n fun i => ppC (L i)) q (R + 1) = 0) && decide (boundR it ag (papL n fun i => ppC (L i)) q (R + 1) ≤ c))) && true) = true
    by_cases h20 : R = 20
    · simp [h20]
    · rw [hHz (R + 1) ⟨by omega, by omega⟩, h3 (by omega)]
      simp
end Go.X.Ps
end
