/- The walk of WarmPairs. -/
import Derived.Test.YtipjgdkaocfapaaNL
import Derived.Test.YtipjgdkaocfapaaNI

section
set_option linter.unusedVariables false
set_option linter.unusedSimpArgs false
set_option linter.unusedSectionVars false
/- Warm: WarmPairs answers true. -/
set_option linter.unusedVariables false
set_option linter.unusedSimpArgs false
set_option maxRecDepth 10000
set_option maxHeartbeats 8000000
namespace Go.X.W
open Go Go.Proofs Go.X

theorem b35 : Body P 35 := body_of Try.func35 (c := code Try.f35) rfl (by decide)
/-- How warm a block can have been at a reading, of the pairs that come before. -/
def heL (n : Nat) (mk : Int) (r : Rd) (l : List Pr) : List Int := if n = 0 then [] else l.flatMap fun p => warmV mk p r
theorem nextV_long {B : Blk} (h : blkOk B = true) {l : List Int} (hl : 6 < l.length) : nextV B l = ((0, 0), 3) := by
  have e : errV B l.length (offsB l) = 3 := by
    unfold errV
    rw [if_pos h, if_neg (by omega)]
  rw [nextV_err (by rw [e]; decide), e]
theorem nextV_nil {B : Blk} (h : blkOk B = true) : nextV B [] = ((0, 0), 2) := by
  have e : errV B ([] : List Int).length (offsB []) = 2 := by
    unfold errV
    rw [if_pos h]
    rfl
  rw [nextV_err (by rw [e]; decide), e]

theorem lC_push {A A' : List Int} {x : Int} (h : A' = A ++ [x]) {j : Nat} (hj : j < A.length + 1) {R : List SV} (hR : j - A.length = 0 → R = [.si .i64 x]) : lC A' j = if j < A.length then lC A j else R := by
  rw [h, lC_snoc _ _ _ hj]
  split
  · rfl
  · rw [hR (by omega), show j - A.length = 0 by omega]
    rfl
def fsL (l : List Pr) : List Int := l.map Prod.fst
def sdL (l : List Pr) : List Int := l.map Prod.snd
theorem fsL_len (l : List Pr) : (fsL l).length = l.length := List.length_map ..
theorem sdL_len (l : List Pr) : (sdL l).length = l.length := List.length_map ..
theorem fsL_snoc (l : List Pr) (p : Pr) : fsL (l ++ [p]) = fsL l ++ [p.1] := by simp [fsL]
theorem sdL_snoc (l : List Pr) (p : Pr) : sdL (l ++ [p]) = sdL l ++ [p.2] := by simp [sdL]
theorem heL_snoc {n : Nat} (mk : Int) (r : Rd) (l : List Pr) (p : Pr) (h : 0 < n) : heL n mk r (l ++ [p]) = heL n mk r l ++ warmV mk p r := by
  unfold heL
  rw [if_neg (by omega), if_neg (by omega)]
  simp
theorem heL_len {n : Nat} {mk : Int} {r : Rd} (hr : r.2.1 - r.1 ≤ 4) : ∀ l : List Pr, (heL n mk r l).length ≤ 5 * l.length := by
  intro l
  unfold heL
  split
  · simp
  · induction l with
    | nil => simp
    | cons p l ih =>
      rw [List.flatMap_cons, List.length_append, List.length_cons]
      have := warmV_len mk p r hr
      omega

theorem flat_one (f : Pr → Int) (l : List Pr) : (l.flatMap fun p => [f p]) = l.map f := by
  induction l with
  | nil => rfl
  | cons p l ih => rw [List.flatMap_cons, ih]; rfl
theorem hul_pos {l : List Int} (h : l.length ≠ 0) : hulV l = endsV l := if_neg h

def c8 : Ct := wmCt fun B r => match r with
  | [.si .u8 x] => some (some (0 ≤ x ∧ x < 256), .sb true)
  | _ => none
theorem k8 {l : List (Nat × Ct)} (g0 : Good P T l) : COk P 8 c8 := by
  have g := g23 (g24 (g16 (g19 (g26 (g28 (g30 (g22 (g33 (g35 (g41 (g42 (g43 (g44 (g45 good0))))))))))))))
  refine cok (C := tabC _) g.ok Try.func8 (c := code Try.f8) rfl fun fr args H out h hp => wmWalk h hp fun mk l1 l2 c1 c2 n rd r p v Rv Rp hk hp hR => ?_
  split at hk
  · rename_i x
    cases hk
    have hx : 0 ≤ x ∧ x < 256 := hp
    refine ⟨Nat.le_of_ble_eq_true rfl, fun G hG => ?_⟩
    refine Chk.mk ⟨rds_rd _ _, rfl, trivial⟩ ?_
    refine Br.mk (fun h => ?_) (fun h => ?_)
    · exact hR _ _ rfl rfl
    have h : decide ((40 : Int) < max (((rdL n fun i => rdC (rd i)).length : Nat) : Int) 0) = false := h
    have h : ¬ (40 : Int) < max (((rdL n fun i => rdC (rd i)).length : Nat) : Int) 0 := of_decide_eq_false h
    have hlen : (rdL n fun i => rdC (rd i)).length = n := by simp [rdL]
    have hl40 : (rdL n fun i => rdC (rd i)).length ≤ 40 := by omega
    have hn40 : n ≤ 40 := by omega
    clear h
    obtain ⟨B, hB⟩ : ∃ B : Blk, Blk.mk mk l1 l2 c1 c2 (rdL n fun i => rdC (rd i)) = B := ⟨_, rfl⟩
    have hBn : B.rs.length = n := by rw [← hB]; exact hlen
    refine Chk.mk ⟨rds_rd _ _, rfl, trivial⟩ ?_
    refine Chk.mk ⟨rds_rd _ _, rfl, trivial⟩ ?_
    rw [hB]
    refine Br.mk (fun h => ?_) (fun h => ?_)
    · have h : (!blkOk B) = true := h
      have h : blkOk B = false := by simpa using h
      refine Chk.mk ⟨rds_rd _ _, rfl, trivial⟩ ?_
      rw [hB, cnt_err h]
      refine hR _ _ ?_ rfl
      show (_ : Bool) = true
      have e : hullE B true (fun p => [p.1]) = ((0, 0), 1) := by
        unfold hullE
        rw [tell_err h]
        rfl
      rw [e]
      rfl
    have h : (!blkOk B) = false := h
    have hok : blkOk B = true := by simpa using h
    clear h
    have hhe : hullE B (inB (n : Int) 0 ((B.rs.length : Int) - 1)) (fun p => warmV B.mark p (rdGet B.rs (n : Int))) = ((0, 0), 2) := by
      rw [hullE_tell hok, if_neg]
      simp only [inB, Bool.and_eq_true, decide_eq_true_eq]; omega
    have hsh : hullE B (spanB (-101) 0 (-100) 100 200) (showL B.mark (-101) 0) = ((0, 0), 2) := by
      rw [hullE_tell hok, if_neg (by decide)]
    have hro : roomE B (-1) = (0, 2) := by
      rw [roomE_tell hok, if_neg (by decide)]
    refine Chk.mk ⟨rds_rd _ _, rfl, hl40⟩ ?_
    rw [hB, hhe]
    refine drawn_ok (g.ok _ _ _) fol [0,0,3,7,15,15,0,95,255] [(7, 27)] 9 (by kernel_rfl) ?_
    refine Chk.mk ⟨rds_rd _ _, rfl, trivial⟩ ?_
    rw [hB, hsh]
    refine Chk.mk ⟨rds_rd _ _, rfl, trivial⟩ ?_
    rw [hB, hro]
    obtain ⟨cn, hcn⟩ : ∃ cn, cntV B = (cn, 0) := ⟨_, cnt_ok hok⟩
    have hcn' : ((pairsV B).length : Int) = cn := by rw [cnt_ok hok] at hcn; exact congrArg Prod.fst hcn
    refine any_region (by kernel_rfl) ?_
    rw [hcn]
    refine any_fork [0, 1] ⟨[(97, ⟨[], .sl 2⟩), (96, ⟨[], wA mk l1 l2 c1 c2 0⟩), (1, ⟨[], .si .u8 x⟩), (2, ⟨[], .sp 1 0⟩), (5, ⟨[], .si .i64 cn⟩), (6, ⟨[], .si .i64 0⟩), (10, ⟨[], .si .i64 2⟩), (12, ⟨[], .si .i64 2⟩), (14, ⟨[], .si .i64 2⟩)], [],
      [(2, .vec 3 1 7 (fun _ => [.si .i64 0])), (1, .cells 36 (bC mk l1 l2 c1 c2 0)), (0, .ro 4 n fun i => rdC (rd i))], 3, []⟩ 8 #[true, true, false, false, false, false, false, false, false, false] (g.ok _ _ _) (by kernel_rfl) (by decide) (fun K hK => ⟨?_, ?_, trivial⟩) ?_
    · refine any_step [1] (g.ok _ _ _) (by kernel_rfl) (by decide) ⟨?_, trivial⟩
      refine fb_makeVec 7 (g.ok _ _ _) cont_any rfl rfl rfl rfl rfl rfl rfl rfl rfl rfl (by decide) (by decide) rfl rfl ?_
      refine any_weaken 2 (fun j => match j with | 2 => 39 | j => j) (fun j hj => hG j (by omega)) ?_ hK
      refine ⟨?_, ?_, rfl, rfl, rfl, rfl, trivial⟩
      · repeat' (first | exact trivial | exact rfl | refine And.intro ?_ ?_)
      · repeat' (first | exact trivial | exact rfl | (intro i hi; exact ⟨rfl, rfl⟩) | refine And.intro ?_ ?_)
    · refine fb_makeVec 7 (g.ok _ _ _) cont_any rfl rfl rfl rfl rfl rfl rfl rfl rfl rfl (by decide) (by decide) rfl rfl ?_
      refine any_step [0] (g.ok _ _ _) (by kernel_rfl) (by decide) ⟨?_, trivial⟩
      refine any_weaken 2 (fun j => match j with | 2 => 39 | j => j) (fun j hj => hG j (by omega)) ?_ hK
      refine ⟨?_, ?_, rfl, rfl, rfl, rfl, trivial⟩
      · repeat' (first | exact trivial | exact rfl | refine And.intro ?_ ?_)
      · repeat' (first | exact trivial | exact rfl | (intro i hi; exact ⟨rfl, rfl⟩) | refine And.intro ?_ ?_)
    refine any_step [2] (g.ok _ _ _) (by kernel_rfl) (by decide) ⟨?_, trivial⟩
    refine Chk.mk ⟨rds_rd _ _, fun i hi => rfl, (by decide : (7 : Nat) ≤ 40)⟩ ?_
    rw [hB, nextV_long hok (by simp [intL])]
    refine any_step [3] (g.ok _ _ _) (by kernel_rfl) (by decide) ⟨?_, trivial⟩
    refine any_take 4 (g.ok _ _ _) rfl rfl rfl rfl rfl rfl rfl (by kernel_rfl) (by kernel_rfl) (by kernel_rfl) ?_
    refine any_take 5 (g.ok _ _ _) rfl rfl rfl rfl rfl rfl rfl (by kernel_rfl) (by kernel_rfl) (by kernel_rfl) ?_
    refine any_take 6 (g.ok _ _ _) rfl rfl rfl rfl rfl rfl rfl (by kernel_rfl) (by kernel_rfl) (by kernel_rfl) ?_
    refine any_take 7 (g.ok _ _ _) rfl rfl rfl rfl rfl rfl rfl (by kernel_rfl) (by kernel_rfl) (by kernel_rfl) ?_
    refine any_take 8 (g.ok _ _ _) rfl rfl rfl rfl rfl rfl rfl (by kernel_rfl) (by kernel_rfl) (by kernel_rfl) ?_
    refine any_take 9 (g.ok _ _ _) rfl rfl rfl rfl rfl rfl rfl (by kernel_rfl) (by kernel_rfl) (by kernel_rfl) ?_
    refine any_done (by kernel_rfl) ?_
    refine fb_call (g.ok _ _ _) cont_std rfl rfl rfl rfl ?_
    refine ⟨b35, ?_⟩
    refine callS_nil (l' := [wA mk l1 l2 c1 c2 0, .sl 3]) 3 1 (fun _ => [.si .i64 0]) ?_ ?_
    · intro ρ hρ vals hv
      have hz : den ρ (.sl 3) = den ρ (.sv (.slice none 0 0)) := by
        simp only [den, show ρ 3 = _ from hρ]
        rfl
      simp only [denL] at hv ⊢
      rw [hz]
      exact hv
    refine callS_ct (k35 good0) rfl ⟨rds_rd _ _, fun i hi => by omega, by decide⟩ (fun _ => ?_) (fun ch h => by cases h)
    rw [hB]
    have hnil : nextV B (intL 0 fun _ => [SV.si .i64 0]) = ((0, 0), 2) := nextV_nil hok
    rw [hnil]
    refine Br.mk (fun h => absurd h (by decide)) (fun _ => ?_)
    obtain ⟨num, hnum⟩ : ∃ num : Int, num = if 0 < n then x.tmod n else 0 := ⟨_, rfl⟩
    refine br_join (g.ok _ _ _) 2 (fun j hj => hG j (by omega)) ⟨[(2, ⟨[], .sp 1 0⟩), (5, ⟨[], .si .i64 cn⟩), (21, ⟨[], .si .i64 0⟩), (22, ⟨[], .sv (.slice none 0 0)⟩), (23, ⟨[], .sv (.slice none 0 0)⟩), (24, ⟨[], .sv (.slice none 0 0)⟩), (25, ⟨[], .si .i64 num⟩), (26, ⟨[], .si .i64 l1⟩)], [],
      [(1, .cells 36 (bC mk l1 l2 c1 c2 0)), (0, .ro 4 n fun i => rdC (rd i))], 2, []⟩ (fun j => j) (fun j => j) (fun hp hS => Chk.mk ?_ (Chk.mk ?_ hS)) (fun hp hS => hS) (fun hp => ?_) (fun hp => ?_) ?_
    · exact (show InK .i64 x from ⟨by omega, by omega⟩)
    · have hp : (0 : Int) < (n : Int) := of_decide_eq_true hp
      show (n : Int) ≠ 0
      omega
    · have hp : (0 : Int) < (n : Int) := of_decide_eq_true hp
      rw [if_pos (by omega)] at hnum
      refine ⟨?_, ?_, rfl, rfl, rfl, rfl, trivial⟩
      · repeat' (first | exact trivial | exact hnum.symm | exact rfl | refine And.intro ?_ ?_)
      · repeat' (first | exact trivial | exact rfl | (intro i hi; exact ⟨rfl, rfl⟩) | refine And.intro ?_ ?_)
    · have hp : ¬ (0 : Int) < (n : Int) := of_decide_eq_false hp
      rw [if_neg (by omega)] at hnum
      refine ⟨?_, ?_, rfl, rfl, rfl, rfl, trivial⟩
      · repeat' (first | exact trivial | exact hnum.symm | exact rfl | refine And.intro ?_ ?_)
      · repeat' (first | exact trivial | exact rfl | (intro i hi; exact ⟨rfl, rfl⟩) | refine And.intro ?_ ?_)
    refine nil_slot 22 3 1 (lC []) rfl ?_
    refine nil_slot 23 3 1 (lC []) rfl ?_
    refine nil_slot 24 3 1 (lC []) rfl ?_
    obtain ⟨hmk, hl, hc, hn, hr⟩ := blk_b hok
    have hB1 : B.mark = mk := by rw [← hB]
    have hB2 : B.l1 = l1 ∧ B.l2 = l2 ∧ B.c1 = c1 ∧ B.c2 = c2 := by rw [← hB]; exact ⟨rfl, rfl, rfl, rfl⟩
    have hB3 : B.rs = rdL n fun i => rdC (rd i) := by rw [← hB]
    have hex : ∀ a b, Blk.mk mk a a b b (rdL n fun i => rdC (rd i)) = exB B a b := fun a b => by rw [← hB]; rfl
    obtain ⟨q, hq⟩ : ∃ q, okP B.mark B.rs = q := ⟨_, rfl⟩
    have hpv : pairsV B = rows q l1 c1 c2 (l2 + 1) := by
      rw [← hq, ← hB2.1, ← hB2.2.1, ← hB2.2.2.1, ← hB2.2.2.2]; rfl
    obtain ⟨r, hrr⟩ : ∃ r, rd num.toNat = r := ⟨_, rfl⟩
    have hnum1 : 0 < n → 0 ≤ num ∧ num < (n : Int) := fun h => by
      rw [hnum, if_pos h]
      rw [Int.tmod_eq_emod_of_nonneg (by omega)]
      exact ⟨Int.emod_nonneg _ (by omega), Int.emod_lt_of_pos _ (by omega)⟩
    have hrg : 0 < n → rdGet B.rs num = r := fun h => by
      rw [hB3, ← hrr]
      exact rdGet_map (hnum1 h).1 (hnum1 h).2
    have hro : n = 0 ∨ (-100 ≤ r.1 ∧ r.1 ≤ r.2.1 ∧ r.2.1 ≤ 100 ∧ r.2.1 - r.1 ≤ 4) := by
      rcases Nat.eq_zero_or_pos n with h | h
      · exact .inl h
      · right
        have h2 := rdOk_b (hr r (by
          have h3 := hnum1 h
          rw [hB3, ← hrr]
          exact List.mem_map.2 ⟨num.toNat, List.mem_range.2 (by omega), rfl⟩))
        omega
    have hhl : ∀ l, (heL n mk r l).length ≤ 5 * l.length := fun l => by
      rcases hro with h | h
      · rw [heL, if_pos h]; simp
      · exact heL_len h.2.2.2 l
    refine loop_okR (g.ok _ _ _) 2 (fun z : {a : Int // l1 ≤ a ∧ a ≤ l2 + 1} => ⟨[(2, ⟨[], .sp 1 0⟩), (5, ⟨[], .si .i64 cn⟩), (21, ⟨[], .si .i64 ((rows q l1 c1 c2 z.1).length : Nat)⟩), (22, ⟨[], .sl 2⟩), (23, ⟨[], .sl 3⟩), (24, ⟨[], .sl 4⟩), (25, ⟨[], .si .i64 num⟩), (26, ⟨[], .si .i64 z.1⟩)], [],
      [(4, .vec 3 1 (heL n mk r (rows q l1 c1 c2 z.1)).length (lC (heL n mk r (rows q l1 c1 c2 z.1)))), (3, .vec 3 1 (sdL (rows q l1 c1 c2 z.1)).length (lC (sdL (rows q l1 c1 c2 z.1)))), (2, .vec 3 1 (fsL (rows q l1 c1 c2 z.1)).length (lC (fsL (rows q l1 c1 c2 z.1)))), (1, .cells 36 (bC mk l1 l2 c1 c2 0)), (0, .ro 4 n fun i => rdC (rd i))], 5, []⟩)
      (fun z => (l2 + 1 - z.1).toNat) (fun j hj => hG j (by omega)) ⟨l1, by omega, by omega⟩ (fun j => j) ?_ ?_
    · have e1 := rows_first q l1 c1 c2
      have e2 : heL n mk r (rows q l1 c1 c2 l1) = [] := by rw [e1]; unfold heL; split <;> rfl
      refine ⟨?_, ?_, rfl, rfl, rfl, rfl, trivial⟩
      · rw [e1]
        repeat' (first | exact trivial | exact rfl | refine And.intro ?_ ?_)
      · show weakRH _ _ _ [(4, .vec 3 1 (heL n mk r (rows q l1 c1 c2 l1)).length (lC (heL n mk r (rows q l1 c1 c2 l1)))), (3, .vec 3 1 (sdL (rows q l1 c1 c2 l1)).length (lC (sdL (rows q l1 c1 c2 l1)))), (2, .vec 3 1 (fsL (rows q l1 c1 c2 l1)).length (lC (fsL (rows q l1 c1 c2 l1)))), _, _]
        rw [e2, e1]
        repeat' (first | exact trivial | exact rfl | (intro i hi; exact ⟨rfl, rfl⟩) | refine And.intro ?_ ?_)
    rintro ⟨a, ha1, ha2⟩
    have hlenA := rows_len q l1 c1 c2 (by omega) (a - l1).toNat
    rw [show l1 + (((a - l1).toNat : Nat) : Int) = a by omega] at hlenA
    refine Br.mk (fun h => ?_) (fun h => ?_)
    · have h : a ≤ l2 := of_decide_eq_true h
      refine loop_okR (g.ok _ _ _) 2 (fun z : {b : Int // c1 ≤ b ∧ b ≤ c2 + 1} => ⟨[(2, ⟨[], .sp 1 0⟩), (5, ⟨[], .si .i64 cn⟩), (21, ⟨[], .si .i64 ((rows q l1 c1 c2 a ++ row q a c1 z.1).length : Nat)⟩), (22, ⟨[], .sl 2⟩), (23, ⟨[], .sl 3⟩), (24, ⟨[], .sl 4⟩), (25, ⟨[], .si .i64 num⟩), (26, ⟨[], .si .i64 a⟩), (27, ⟨[], .si .i64 z.1⟩)], [],
        [(4, .vec 3 1 (heL n mk r (rows q l1 c1 c2 a ++ row q a c1 z.1)).length (lC (heL n mk r (rows q l1 c1 c2 a ++ row q a c1 z.1)))), (3, .vec 3 1 (sdL (rows q l1 c1 c2 a ++ row q a c1 z.1)).length (lC (sdL (rows q l1 c1 c2 a ++ row q a c1 z.1)))), (2, .vec 3 1 (fsL (rows q l1 c1 c2 a ++ row q a c1 z.1)).length (lC (fsL (rows q l1 c1 c2 a ++ row q a c1 z.1)))), (1, .cells 36 (bC mk l1 l2 c1 c2 0)), (0, .ro 4 n fun i => rdC (rd i))], 5, []⟩)
        (fun z => (c2 + 1 - z.1).toNat) (fun j hj => hG j (by omega)) ⟨c1, by omega, by omega⟩ (fun j => j) ?_ ?_
      · have e1 : rows q l1 c1 c2 a ++ row q a c1 c1 = rows q l1 c1 c2 a := by rw [row_first, List.append_nil]
        refine ⟨?_, ?_, rfl, rfl, rfl, rfl, trivial⟩
        · rw [e1]
          repeat' (first | exact trivial | exact rfl | refine And.intro ?_ ?_)
        · show weakRH _ _ _ [(4, .vec 3 1 (heL n mk r (rows q l1 c1 c2 a ++ row q a c1 c1)).length (lC (heL n mk r (rows q l1 c1 c2 a ++ row q a c1 c1)))), (3, .vec 3 1 (sdL (rows q l1 c1 c2 a ++ row q a c1 c1)).length (lC (sdL (rows q l1 c1 c2 a ++ row q a c1 c1)))), (2, .vec 3 1 (fsL (rows q l1 c1 c2 a ++ row q a c1 c1)).length (lC (fsL (rows q l1 c1 c2 a ++ row q a c1 c1)))), _, _]
          rw [e1]
          repeat' (first | exact trivial | exact rfl | (intro i hi; exact ⟨rfl, rfl⟩) | refine And.intro ?_ ?_)
      rintro ⟨b, hb1, hb2⟩
      have hlenB := row_len q a c1 b
      obtain ⟨PL, hPL⟩ : ∃ PL, rows q l1 c1 c2 a ++ row q a c1 b = PL := ⟨_, rfl⟩
      have hPlen : PL.length ≤ 200 := by rw [← hPL, List.length_append]; omega
      refine Br.mk (fun h2 => ?_) (fun h2 => ?_)
      · have h2 : b ≤ c2 := of_decide_eq_true h2
        have hrn := row_next (q := q) (n := a) (c1 := c1) (a := b) hb1
        have hbi : InK .i64 (b + 1) := ⟨by omega, by omega⟩
        have hbm : (c2 + 1 - (b + 1)).toNat < (c2 + 1 - b).toNat := by omega
        refine Chk.mk (rds_rd _ _) (Chk.mk ⟨rds_rd _ _, rfl, trivial⟩ ?_)
        rw [hex a b, ex_cnt hok (a := a) (b := b) (by omega) (by omega), hq]
        cases hqa : q (a, b) with
        | false =>
          rw [hqa, if_neg Bool.false_ne_true, List.append_nil] at hrn
          rw [if_neg Bool.false_ne_true]
          refine Br.mk (fun h => absurd h (by simp)) (fun _ => ?_)
          refine Br.mk (fun _ => ?_) (fun h => absurd h (by simp))
          refine Chk.mk hbi ⟨⟨b + 1, by omega, by omega⟩, (fun j => j), ?_, hbm⟩
          rw [← hrn]
          refine ⟨?_, ?_, rfl, rfl, rfl, rfl, trivial⟩
          · repeat' (first | exact trivial | exact rfl | refine And.intro ?_ ?_)
          · repeat' (first | exact trivial | exact rfl | (intro i hi; exact ⟨rfl, rfl⟩) | refine And.intro ?_ ?_)
        | true =>
          rw [hqa, if_pos rfl] at hrn
          rw [if_pos rfl]
          have hPL2 : rows q l1 c1 c2 a ++ row q a c1 (b + 1) = PL ++ [(a, b)] := by rw [hrn, ← List.append_assoc, hPL]
          refine Br.mk (fun h => absurd h (by simp)) (fun _ => ?_)
          refine Br.mk (fun h => absurd h (by simp)) (fun _ => ?_)
          have hfl := fsL_len (rows q l1 c1 c2 a ++ row q a c1 b)
          have hsl := sdL_len (rows q l1 c1 c2 a ++ row q a c1 b)
          have hhl2 := hhl (rows q l1 c1 c2 a ++ row q a c1 b)
          have hPl : (rows q l1 c1 c2 a ++ row q a c1 b).length ≤ 200 := by rw [hPL]; exact hPlen
          have hnew : (rows q l1 c1 c2 a ++ row q a c1 (b + 1)) = (rows q l1 c1 c2 a ++ row q a c1 b) ++ [(a, b)] := by rw [hPL2, hPL]
          have hfs : fsL (rows q l1 c1 c2 a ++ row q a c1 (b + 1)) = fsL (rows q l1 c1 c2 a ++ row q a c1 b) ++ [a] := by rw [hnew]; exact fsL_snoc _ _
          have hsd : sdL (rows q l1 c1 c2 a ++ row q a c1 (b + 1)) = sdL (rows q l1 c1 c2 a ++ row q a c1 b) ++ [b] := by rw [hnew]; exact sdL_snoc _ _
          have hl1' : (rows q l1 c1 c2 a ++ row q a c1 b).length + 1 = (rows q l1 c1 c2 a ++ row q a c1 (b + 1)).length := by rw [hnew, List.length_append (bs := [(a, b)])]; rfl
          have hl2' : (fsL (rows q l1 c1 c2 a ++ row q a c1 b)).length + 1 = (fsL (rows q l1 c1 c2 a ++ row q a c1 (b + 1))).length := by rw [hfs]; simp
          have hl3' : (sdL (rows q l1 c1 c2 a ++ row q a c1 b)).length + 1 = (sdL (rows q l1 c1 c2 a ++ row q a c1 (b + 1))).length := by rw [hsd]; simp
          have hl4' : ((rows q l1 c1 c2 a ++ row q a c1 b).length : Int) + 1 = ((rows q l1 c1 c2 a ++ row q a c1 (b + 1)).length : Int) := by omega
          refine Chk.mk (show InK .i64 (((rows q l1 c1 c2 a ++ row q a c1 b).length : Int) + 1) from ⟨by omega, by omega⟩) ?_
          refine fb_append (Te := 0) 2 5 (fsL (rows q l1 c1 c2 a ++ row q a c1 b)).length 1 _ _ (lC (fsL (rows q l1 c1 c2 a ++ row q a c1 (b + 1)))) (g.ok _ _ _) cont_std rfl rfl rfl rfl rfl rfl rfl rfl rfl rfl rfl rfl (by decide) (by decide) rfl rfl rfl rfl (by omega) (fun j hj => lC_push hfs hj fun e => by rw [e]; rfl) ?_
          refine fb_append (Te := 0) 3 7 (sdL (rows q l1 c1 c2 a ++ row q a c1 b)).length 1 _ _ (lC (sdL (rows q l1 c1 c2 a ++ row q a c1 (b + 1)))) (g.ok _ _ _) cont_std rfl rfl rfl rfl rfl rfl rfl rfl rfl rfl rfl rfl (by decide) (by decide) rfl rfl rfl rfl (by omega) (fun j hj => lC_push hsd hj fun e => by rw [e]; rfl) ?_
          refine Br.mk (fun h3 => ?_) (fun h3 => ?_)
          · have h3 : (0 : Int) < (n : Int) := of_decide_eq_true h3
            have hn0 : 0 < n := by omega
            have hnm := hnum1 hn0
            have hro' := hro.resolve_left (by omega)
            refine Chk.mk (show 0 ≤ num ∧ num < (n : Int) from hnm) ?_
            have hhe0 := heL_snoc mk r (rows q l1 c1 c2 a ++ row q a c1 b) (a, b) hn0
            rw [← hnew] at hhe0
            refine (show SemC _ _ _ _ from ?_)
            rw [hrr]
            refine loop_okR (g.ok _ _ _) 2 (fun z : {t : Int // r.1 ≤ t ∧ t ≤ r.2.1 + 1} => ⟨[(2, ⟨[], .sp 1 0⟩), (5, ⟨[], .si .i64 cn⟩), (21, ⟨[], .si .i64 ((rows q l1 c1 c2 a ++ row q a c1 (b + 1)).length : Nat)⟩), (22, ⟨[], .sl 2⟩), (23, ⟨[], .sl 3⟩), (24, ⟨[], .sl 4⟩), (25, ⟨[], .si .i64 num⟩), (26, ⟨[], .si .i64 a⟩), (27, ⟨[], .si .i64 b⟩), (30, ⟨[], .sp 5 0⟩), (31, ⟨[], .si .i64 z.1⟩)], [],
              [(5, .cells 41 (rdC r)), (4, .vec 3 1 (heL n mk r (rows q l1 c1 c2 a ++ row q a c1 b) ++ hitL mk (a, b) r z.1).length (lC (heL n mk r (rows q l1 c1 c2 a ++ row q a c1 b) ++ hitL mk (a, b) r z.1))), (3, .vec 3 1 (sdL (rows q l1 c1 c2 a ++ row q a c1 (b + 1))).length (lC (sdL (rows q l1 c1 c2 a ++ row q a c1 (b + 1))))), (2, .vec 3 1 (fsL (rows q l1 c1 c2 a ++ row q a c1 (b + 1))).length (lC (fsL (rows q l1 c1 c2 a ++ row q a c1 (b + 1))))), (1, .cells 36 (bC mk l1 l2 c1 c2 0)), (0, .ro 4 n fun i => rdC (rd i))], 6, []⟩)
              (fun z => (r.2.1 + 1 - z.1).toNat) (fun j hj => hG j (by omega)) ⟨r.1, by omega, by omega⟩ (fun j => match j with | 2 => 6 | 3 => 8 | 5 => 9 | j => j) ?_ ?_
            · have e1 : hitL mk (a, b) r r.1 = [] := hitL_first _ _ _
              refine ⟨?_, ?_, rfl, rfl, rfl, rfl, trivial⟩
              · repeat' (first | exact trivial | exact hl4' | exact rfl | refine And.intro ?_ ?_)
              · show weakRH _ _ _ [_, (4, .vec 3 1 (heL n mk r (rows q l1 c1 c2 a ++ row q a c1 b) ++ hitL mk (a, b) r r.1).length (lC (heL n mk r (rows q l1 c1 c2 a ++ row q a c1 b) ++ hitL mk (a, b) r r.1))), _, _, _, _]
                rw [e1, List.append_nil]
                repeat' (first | exact trivial | exact hl2' | exact hl3' | exact rfl | (intro i hi; exact ⟨rfl, rfl⟩) | refine And.intro ?_ ?_)
            rintro ⟨t, ht1, ht2⟩
            have hhlen := hitL_len (mk := mk) (p := (a, b)) (r := r) (t := t)
            refine Br.mk (fun h4 => ?_) (fun h4 => ?_)
            · have h4 : t ≤ r.2.1 := of_decide_eq_true h4
              have hnx := hitL_next (mk := mk) (p := (a, b)) (r := r) (t := t) (by omega)
              have hti : InK .i64 (t + 1) := ⟨by omega, by omega⟩
              have htm : (r.2.1 + 1 - (t + 1)).toNat < (r.2.1 + 1 - t).toNat := by omega
              refine drawn_ok (g.ok _ _ _) fol [0,1,0,0,0,31,0,64,255] [] 9 (by kernel_rfl) ?_
              refine Chk.mk ⟨(show smB 1000000 a from ⟨by omega, by omega⟩), (show smB 1000 mk from ⟨by omega, by omega⟩), (show smB 1000 b from ⟨by omega, by omega⟩), (show smB 1000 t from ⟨by omega, by omega⟩)⟩ ?_
              refine Br.mk (fun h5 => ?_) (fun h5 => ?_)
              · have h5 : inB (showV mk (a, b) t) r.2.2.1 r.2.2.2 = true := h5
                have h5 : hitB mk (a, b) r t = true := h5
                rw [if_pos h5] at hnx
                have hpu : heL n mk r (rows q l1 c1 c2 a ++ row q a c1 b) ++ hitL mk (a, b) r (t + 1) = (heL n mk r (rows q l1 c1 c2 a ++ row q a c1 b) ++ hitL mk (a, b) r t) ++ [t] := by rw [hnx, List.append_assoc]
                have hpl : (heL n mk r (rows q l1 c1 c2 a ++ row q a c1 b) ++ hitL mk (a, b) r t).length + 1 = (heL n mk r (rows q l1 c1 c2 a ++ row q a c1 b) ++ hitL mk (a, b) r (t + 1)).length := by rw [hpu, List.length_append (bs := [t])]; rfl
                refine fb_append (Te := 0) 4 42 (heL n mk r (rows q l1 c1 c2 a ++ row q a c1 b) ++ hitL mk (a, b) r t).length 1 _ _ (lC (heL n mk r (rows q l1 c1 c2 a ++ row q a c1 b) ++ hitL mk (a, b) r (t + 1))) (g.ok _ _ _) cont_std rfl rfl rfl rfl rfl rfl rfl rfl rfl rfl rfl rfl (by decide) (by decide) rfl rfl rfl rfl (by rw [List.length_append]; omega) (fun j hj => lC_push hpu hj fun e => by rw [e]; rfl) ?_
                refine Chk.mk hti ⟨⟨t + 1, by omega, by omega⟩, (fun j => match j with | 4 => 43 | j => j), ?_, htm⟩
                refine ⟨?_, ?_, rfl, rfl, rfl, rfl, trivial⟩
                · repeat' (first | exact trivial | exact rfl | refine And.intro ?_ ?_)
                · repeat' (first | exact trivial | exact hpl | exact rfl | (intro i hi; exact ⟨rfl, rfl⟩) | refine And.intro ?_ ?_)
              · have h5 : inB (showV mk (a, b) t) r.2.2.1 r.2.2.2 = false := h5
                have h5 : hitB mk (a, b) r t = false := h5
                rw [h5, if_neg Bool.false_ne_true, List.append_nil] at hnx
                refine Chk.mk hti ⟨⟨t + 1, by omega, by omega⟩, (fun j => j), ?_, htm⟩
                rw [← hnx]
                refine ⟨?_, ?_, rfl, rfl, rfl, rfl, trivial⟩
                · repeat' (first | exact trivial | exact rfl | refine And.intro ?_ ?_)
                · repeat' (first | exact trivial | exact rfl | (intro i hi; exact ⟨rfl, rfl⟩) | refine And.intro ?_ ?_)
            · have h4 : ¬ t ≤ r.2.1 := of_decide_eq_false h4
              obtain rfl : t = r.2.1 + 1 := by omega
              have hlast : hitL mk (a, b) r (r.2.1 + 1) = warmV mk (a, b) r := hitL_last _ _ _
              have hfin : heL n mk r (rows q l1 c1 c2 a ++ row q a c1 b) ++ hitL mk (a, b) r (r.2.1 + 1) = heL n mk r (rows q l1 c1 c2 a ++ row q a c1 (b + 1)) := by rw [hlast]; exact hhe0.symm
              refine Chk.mk hbi ⟨⟨b + 1, by omega, by omega⟩, (fun j => j), ?_, hbm⟩
              refine ⟨?_, ?_, rfl, rfl, rfl, rfl, trivial⟩
              · repeat' (first | exact trivial | exact rfl | refine And.intro ?_ ?_)
              · show weakRH _ _ _ [(4, .vec 3 1 (heL n mk r (rows q l1 c1 c2 a ++ row q a c1 (b + 1))).length (lC (heL n mk r (rows q l1 c1 c2 a ++ row q a c1 (b + 1))))), _, _, _, _]
                rw [← hfin]
                repeat' (first | exact trivial | exact rfl | (intro i hi; exact ⟨rfl, rfl⟩) | refine And.intro ?_ ?_)
          · have h3 : ¬ (0 : Int) < (n : Int) := of_decide_eq_false h3
            obtain rfl : n = 0 := by omega
            have hhe : ∀ l, heL 0 mk r l = [] := fun l => if_pos rfl
            refine Chk.mk hbi ⟨⟨b + 1, by omega, by omega⟩, (fun j => match j with | 2 => 6 | 3 => 8 | j => j), ?_, hbm⟩
            refine ⟨?_, ?_, rfl, rfl, rfl, rfl, trivial⟩
            · repeat' (first | exact trivial | exact hl4' | exact rfl | refine And.intro ?_ ?_)
            · show weakRH _ _ _ [(4, .vec 3 1 (heL 0 mk r (rows q l1 c1 c2 a ++ row q a c1 (b + 1))).length (lC (heL 0 mk r (rows q l1 c1 c2 a ++ row q a c1 (b + 1))))), _, _, _, _]
              rw [show heL 0 mk r (rows q l1 c1 c2 a ++ row q a c1 (b + 1)) = heL 0 mk r (rows q l1 c1 c2 a ++ row q a c1 b) from (hhe _).trans (hhe _).symm]
              repeat' (first | exact trivial | exact hl2' | exact hl3' | exact rfl | (intro i hi; exact ⟨rfl, rfl⟩) | refine And.intro ?_ ?_)
      · have h2 : ¬ b ≤ c2 := of_decide_eq_false h2
        obtain rfl : b = c2 + 1 := by omega
        have hrs := rows_next (q := q) (l1 := l1) (c1 := c1) (c2 := c2) (n := a) ha1
        refine Chk.mk (show InK .i64 (a + 1) from ⟨by omega, by omega⟩) ⟨⟨a + 1, by omega, by omega⟩, (fun j => j), ?_, (by show (l2 + 1 - (a + 1)).toNat < (l2 + 1 - a).toNat; omega)⟩
        rw [← hrs]
        refine ⟨?_, ?_, rfl, rfl, rfl, rfl, trivial⟩
        · repeat' (first | exact trivial | exact rfl | refine And.intro ?_ ?_)
        · repeat' (first | exact trivial | exact rfl | (intro i hi; exact ⟨rfl, rfl⟩) | refine And.intro ?_ ?_)
    · have h : ¬ a ≤ l2 := of_decide_eq_false h
      obtain rfl : a = l2 + 1 := by omega
      obtain ⟨hc0, hHeld, hheld⟩ : ∃ X : (Int × Int) × Int, hullE B (inB num 0 ((B.rs.length : Int) - 1)) (fun p => warmV B.mark p (rdGet B.rs num)) = X ∧ (0 < n → X = if (pairsV B).length = 0 then ((0, 0), 10) else (hullV B fun p => warmV mk p r, 0)) := ⟨_, rfl, fun h => by
        have hin : inB num 0 ((B.rs.length : Int) - 1) = true := by
          have := hnum1 h
          simp only [inB, Bool.and_eq_true, decide_eq_true_eq]; omega
        rw [hullE_tell hok, if_pos hin, hrg h, hB1]⟩
      have hLen := hullE_tell hok (is := true) (fun p => [p.1])
      have hCoe := hullE_tell hok (is := true) (fun p => [p.2])
      have hSho := hullE_tell hok (is := spanB 0 0 (-100) 100 200) (showL B.mark 0 0)
      rw [if_pos rfl] at hLen hCoe
      rw [if_pos (by decide)] at hSho
      have hPn : ((rows q l1 c1 c2 (l2 + 1)).length : Int) = cn := by rw [← hpv]; exact hcn'
      refine Chk.mk ⟨rds_rd _ _, rfl, trivial⟩ ?_
      rw [hB, hLen]
      refine Chk.mk ⟨rds_rd _ _, rfl, trivial⟩ ?_
      rw [hB, hCoe]
      refine Chk.mk ⟨rds_rd _ _, rfl, hl40⟩ ?_
      rw [hB, hHeld]
      refine drawn_ok (g.ok _ _ _) fol [0,0,3,7,15,15,0,95,255] [(7, 32)] 9 (by kernel_rfl) ?_
      refine Chk.mk ⟨rds_rd _ _, rfl, trivial⟩ ?_
      rw [hB, hSho, hPn]
      by_cases h0 : (pairsV B).length = 0
      · have hcn0 : cn = 0 := by omega
        rw [if_pos h0] at hheld
        simp only [if_pos h0]
        subst hcn0
        refine Br.mk (fun h => absurd h ?_) (fun _ => ?_)
        · by_cases hn0 : 0 < n
          · rw [hheld hn0]; simp
          · simp; omega
        refine Br.mk (fun _ => ?_) (fun h => absurd h (by simp))
        exact hR _ _ rfl rfl
      rw [if_neg h0] at hheld
      simp only [if_neg h0]
      refine Br.mk (fun h => absurd h ?_) (fun _ => ?_)
      · by_cases hn0 : 0 < n
        · rw [hheld hn0]; simp; omega
        · simp; omega
      refine Br.mk (fun h => absurd h (by simp)) (fun _ => ?_)
      refine drawn_ok (g.ok _ _ _) fol [0,0,0,6,15,31,63,63,63,447,1023,2047,4095,8191,8191,32767,65535,131071,262143,524287,1048575,2097151,4194303,8388607,8388607,8388607,58720255,134217727,268435455,536870911,1073741823,2147483647,4294967295,8589934591] [] 34 (by kernel_rfl) ?_
      have hpb : ∀ p ∈ rows q l1 c1 c2 (l2 + 1), -1000 ≤ p.1 ∧ p.1 ≤ 1000 ∧ 0 ≤ p.2 ∧ p.2 ≤ 20 := fun p hp => pair_b hok (by rw [hpv]; exact hp)
      have hPlen : (rows q l1 c1 c2 (l2 + 1)).length ≤ 200 := by omega
      have hfb : ∀ x ∈ fsL (rows q l1 c1 c2 (l2 + 1)), -1000000000 ≤ x ∧ x ≤ 1000000000 := fun x hx => by
        obtain ⟨p, hp, rfl⟩ := List.mem_map.1 hx
        have := hpb p hp
        omega
      have hsb : ∀ x ∈ sdL (rows q l1 c1 c2 (l2 + 1)), -1000000000 ≤ x ∧ x ≤ 1000000000 := fun x hx => by
        obtain ⟨p, hp, rfl⟩ := List.mem_map.1 hx
        have := hpb p hp
        omega
      have hhb : ∀ x ∈ heL n mk r (rows q l1 c1 c2 (l2 + 1)), -1000000000 ≤ x ∧ x ≤ 1000000000 := fun x hx => by
        unfold heL at hx
        split at hx
        · cases hx
        · rename_i hn0
          obtain ⟨p, hp, hx⟩ := List.mem_flatMap.1 hx
          have h1 := warmV_b hx
          have h2 := hro.resolve_left hn0
          omega
      have hll := fsL_len (rows q l1 c1 c2 (l2 + 1))
      have hls := sdL_len (rows q l1 c1 c2 (l2 + 1))
      have hlh := hhl (rows q l1 c1 c2 (l2 + 1))
      refine Chk.mk ⟨fun i hi => rfl, by omega, lC_b hfb⟩ ?_
      refine Chk.mk (under_of (show Ints _ _ ∧ _ ∧ _ from ⟨fun i hi => rfl, by omega, lC_b hsb⟩)) ?_
      refine Chk.mk (under_of (show Ints _ _ ∧ _ ∧ _ from ⟨fun i hi => rfl, by omega, lC_b hhb⟩)) ?_
      refine hR _ _ ?_ rfl
      show (_ : Bool) = true
      rw [intL_lC rfl, intL_lC rfl, intL_lC rfl, ← hpv]
      have hf0 : (fsL (pairsV B)).length ≠ 0 := by rw [fsL_len]; exact h0
      have hs0 : (sdL (pairsV B)).length ≠ 0 := by rw [sdL_len]; exact h0
      have q1 : hullV B (fun p => [p.1]) = endsV (fsL (pairsV B)) := by rw [hullV, flat_one]; rfl
      have q2 : hullV B (fun p => [p.2]) = endsV (sdL (pairsV B)) := by rw [hullV, flat_one]; rfl
      have q3 : hullV B (showL B.mark 0 0) = endsV (fsL (pairsV B)) := by
        rw [hull_show hok h0 (by decide) (by decide) (by decide)]
        have e : (pairsV B).map (fun p => showV B.mark p 0) = fsL (pairsV B) := List.map_congr_left fun p _ => show_zero _ _
        unfold oneV
        rw [e]
      rw [q1, q2, q3, hul_pos hf0, hul_pos hs0]
      by_cases hn0 : n = 0
      · simp [hn0]
      · have hn1 : 0 < n := by omega
        have hmem : r ∈ B.rs := by
          have h3 := hnum1 hn1
          rw [hB3, ← hrr]
          exact List.mem_map.2 ⟨num.toNat, List.mem_range.2 (by omega), rfl⟩
        have hw : ∀ p ∈ pairsV B, 0 < (warmV mk p r).length := fun p hp => by
          have h1 := (pairs_mem.1 hp).2
          unfold okP at h1
          rw [List.all_eq_true] at h1
          have h2 := h1 r hmem
          rw [← canV_len, hB1] at h2
          have h3 := of_decide_eq_true h2
          omega
        have hpos := flat_pos (L := fun p => warmV mk p r) (pv := pairsV B) (by omega) hw
        have e : heL n mk r (pairsV B) = (pairsV B).flatMap fun p => warmV mk p r := if_neg hn0
        rw [e, hul_pos (Nat.ne_of_gt hpos), hheld hn1]
        unfold hullV
        simp
  · cases hk
end Go.X.W
end
