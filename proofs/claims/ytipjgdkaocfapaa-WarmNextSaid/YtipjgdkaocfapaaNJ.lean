/- The walk of WarmShows. -/
import Derived.Test.YtipjgdkaocfapaaNI

section
set_option linter.unusedVariables false
set_option linter.unusedSimpArgs false
set_option linter.unusedSectionVars false
/- Warm: WarmShows answers true. -/
set_option linter.unusedVariables false
set_option linter.unusedSimpArgs false
set_option maxRecDepth 10000
set_option maxHeartbeats 4000000
namespace Go.X.W
open Go Go.Proofs Go.X

theorem fine_blk {B : Blk} (h : fineB B = true) : blkOk B = true := by
  unfold fineB at h
  rw [Bool.and_eq_true] at h
  exact h.2
/-- The ends of what the pairs that come before show at a warmth. -/
def ownV (mk t : Int) (l : List Pr) : Int × Int := (l.map fun p => showV mk p t).foldl endF (1073741824, -1073741824)
theorem ownV_snoc (mk t : Int) (l : List Pr) (p : Pr) : ownV mk t (l ++ [p]) = (min (ownV mk t l).1 (showV mk p t), max (ownV mk t l).2 (showV mk p t)) := by
  simp [ownV, List.foldl_append, endF]

def lastV (mk : Int) (pv : List Pr) (lo t : Int) : Int × Int := if t = lo then (-1073741824, -1073741824) else oneV mk pv (t - 1)
def allV' (mk : Int) (pv : List Pr) (lo t : Int) : Int × Int := if t = lo then (1073741824, -1073741824) else ((oneV mk pv lo).1, (oneV mk pv (t - 1)).2)

def c9 : Ct := wmCt fun B r => match r with
  | [.si .u8 x, .si .u8 y] => some (some ((0 ≤ x ∧ x < 256) ∧ 0 ≤ y ∧ y < 256), .sb true)
  | _ => none
theorem k9 {l : List (Nat × Ct)} (g0 : Good P T l) : COk P 9 c9 := by
  have g := g39 (g24 (g30 (g33 (g42 (g43 (g44 good0))))))
  refine cok (C := tabC _) g.ok Try.func9 (c := code Try.f9) rfl fun fr args H out h hp => wmWalk h hp fun mk l1 l2 c1 c2 n rd r p v Rv Rp hk hp hR => ?_
  split at hk
  · rename_i x y
    cases hk
    obtain ⟨hx, hy⟩ : (0 ≤ x ∧ x < 256) ∧ 0 ≤ y ∧ y < 256 := hp
    refine ⟨Nat.le_of_ble_eq_true rfl, fun G hG => ?_⟩
    refine Chk.mk ⟨rds_rd _ _, rfl, trivial⟩ ?_
    refine Br.mk (fun h => ?_) (fun h => ?_)
    · exact hR _ _ rfl rfl
    obtain ⟨B, hB⟩ : ∃ B : Blk, Blk.mk mk l1 l2 c1 c2 (rdL n fun i => rdC (rd i)) = B := ⟨_, rfl⟩
    have hok : blkOk B = true := by
      have h : (!fineB ⟨mk, l1, l2, c1, c2, rdL n fun i => rdC (rd i)⟩) = false := h
      rw [hB] at h
      exact fine_blk (by simpa using h)
    obtain ⟨hmk, hl, hc, hn, hr⟩ := blk_b hok
    have e1 : x.tmod 201 = x % 201 := Int.tmod_eq_emod_of_nonneg (by omega)
    have e2 : y.tmod 12 = y % 12 := Int.tmod_eq_emod_of_nonneg (by omega)
    refine Chk.mk (show InK .i64 x from ⟨by omega, by omega⟩) (Chk.mk (show (201 : Int) ≠ 0 by decide) (Chk.mk (show InK .i64 (x.tmod 201 - 100) from ⟨by omega, by omega⟩) ?_))
    obtain ⟨lo, hlo⟩ : ∃ lo, x.tmod 201 - 100 = lo := ⟨_, rfl⟩
    have hlo1 : -100 ≤ lo ∧ lo ≤ 100 := by omega
    rw [hlo]
    refine Chk.mk (show InK .i64 y from ⟨by omega, by omega⟩) (Chk.mk (show (12 : Int) ≠ 0 by decide) (Chk.mk (show InK .i64 (lo + y.tmod 12) from ⟨by omega, by omega⟩) ?_))
    obtain ⟨hi, hhi⟩ : ∃ hi, min 100 (lo + y.tmod 12) = hi := ⟨_, rfl⟩
    have hhi1 : lo ≤ hi ∧ hi ≤ 100 := by omega
    refine (show SemC _ _ _ _ from ?_)
    rw [hhi]
    clear hlo hhi e1 e2
    refine drawn_ok (g.ok _ _ _) fol [0,0,0,6,15,31,63,63,0,383,1023] [(9, 34)] 11 (by kernel_rfl) ?_
    refine Chk.mk ⟨rds_rd _ _, rfl, trivial⟩ ?_
    refine Chk.mk ⟨rds_rd _ _, rfl, trivial⟩ ?_
    rw [hB]
    have hsp : ∀ a b : Int, -100 ≤ a → a ≤ b → b ≤ 100 → spanB a b (-100) 100 200 = true := fun a b h1 h2 h3 => by
      simp only [spanB, Bool.and_eq_true, decide_eq_true_eq]; omega
    by_cases h0 : (pairsV B).length = 0
    · have hS : hullE B (spanB lo hi (-100) 100 200) (showL B.mark lo hi) = ((0, 0), 10) := by rw [hullE_tell hok, if_pos (hsp _ _ hlo1.1 hhi1.1 hhi1.2), if_pos h0]
      have hN : cntV B = (0, 0) := by rw [cnt_ok hok, h0]; rfl
      rw [hS, hN]
      refine Br.mk (fun h => absurd h (by decide)) (fun _ => ?_)
      refine Br.mk (fun _ => ?_) (fun h => absurd h (by decide))
      exact hR _ _ rfl rfl
    have hS : hullE B (spanB lo hi (-100) 100 200) (showL B.mark lo hi) = (((oneV B.mark (pairsV B) lo).1, (oneV B.mark (pairsV B) hi).2), 0) := by
      rw [hullE_tell hok, if_pos (hsp _ _ hlo1.1 hhi1.1 hhi1.2), if_neg h0, hull_show hok h0 hlo1.1 hhi1.2 hhi1.1]
    have hO : ∀ t, -100 ≤ t → t ≤ 100 → hullE B (spanB t t (-100) 100 200) (showL B.mark t t) = (oneV B.mark (pairsV B) t, 0) := fun t h1 h2 => by
      rw [hullE_tell hok, if_pos (hsp _ _ h1 (Int.le_refl _) h2), if_neg h0, hull_show hok h0 h1 h2 (Int.le_refl _)]
    have hN : cntV B = (((pairsV B).length : Int), 0) := cnt_ok hok
    have hp0 : (0 : Int) < ((pairsV B).length : Int) := by omega
    rw [hS, hN]
    refine Br.mk (fun h => absurd h (by simpa using h0)) (fun _ => ?_)
    refine Br.mk (fun h => absurd h (by simp)) (fun _ => ?_)
    have hB1 : B.mark = mk := by rw [← hB]
    have hB2 : B.l1 = l1 ∧ B.l2 = l2 ∧ B.c1 = c1 ∧ B.c2 = c2 := by rw [← hB]; exact ⟨rfl, rfl, rfl, rfl⟩
    refine loop_okR (g.ok _ _ _) 2 (fun z : {t : Int // lo ≤ t ∧ t ≤ hi + 1} => ⟨[(3, ⟨[], .sp 1 0⟩), (7, ⟨[], .si .i64 lo⟩), (8, ⟨[], .si .i64 hi⟩), (9, ⟨[], .sp 2 0⟩), (13, ⟨[], .sp 3 0⟩), (14, ⟨[], .sp 4 0⟩), (15, ⟨[], .si .i64 z.1⟩)], [],
      [(4, .cells 24 [.si .i64 (allV' B.mark (pairsV B) lo z.1).1, .si .i64 (allV' B.mark (pairsV B) lo z.1).2]), (3, .cells 24 [.si .i64 (lastV B.mark (pairsV B) lo z.1).1, .si .i64 (lastV B.mark (pairsV B) lo z.1).2]),
        (2, .cells 24 [.si .i64 (oneV B.mark (pairsV B) lo).1, .si .i64 (oneV B.mark (pairsV B) hi).2]), (1, .cells 36 (bC mk l1 l2 c1 c2 0)), (0, .ro 4 n fun i => rdC (rd i))], 5, []⟩)
      (fun z => (hi + 1 - z.1).toNat) (fun j hj => hG j (by omega)) ⟨lo, by omega, by omega⟩ (fun j => match j with | 2 => 34 | 3 => 46 | 4 => 47 | j => j) ?_ ?_
    · have ea : allV' B.mark (pairsV B) lo lo = (1073741824, -1073741824) := if_pos rfl
      have el : lastV B.mark (pairsV B) lo lo = (-1073741824, -1073741824) := if_pos rfl
      refine ⟨?_, ?_, rfl, rfl, rfl, rfl, trivial⟩
      · repeat' (first | exact trivial | exact rfl | refine And.intro ?_ ?_)
      · show weakRH _ _ _ [(4, .cells 24 [.si .i64 (allV' B.mark (pairsV B) lo lo).1, .si .i64 (allV' B.mark (pairsV B) lo lo).2]), (3, .cells 24 [.si .i64 (lastV B.mark (pairsV B) lo lo).1, .si .i64 (lastV B.mark (pairsV B) lo lo).2]), _, _, _]
        rw [ea, el]
        repeat' (first | exact trivial | exact rfl | (intro i hi; exact ⟨rfl, rfl⟩) | refine And.intro ?_ ?_)
    · rintro ⟨t, ht1, ht2⟩
      refine Br.mk (fun h => ?_) (fun h => ?_)
      · have h : t ≤ hi := of_decide_eq_true h
        refine drawn_ok (g.ok _ _ _) fol [0,0,0,6,15,31,63,63,0,383,1023] [(9, 37)] 11 (by kernel_rfl) ?_
        refine Chk.mk ⟨rds_rd _ _, rfl, trivial⟩ ?_
        rw [hB, hO t (by omega) (by omega)]
        have ob := one_b hok h0 (t := t) ⟨by omega, by omega⟩
        have om := one_mono hok h0 (s := lo) (t := t) (by omega) (by omega) ht1
        have la : (lastV B.mark (pairsV B) lo t).1 ≤ (oneV B.mark (pairsV B) t).1 ∧ (lastV B.mark (pairsV B) lo t).2 ≤ (oneV B.mark (pairsV B) t).2 := by
          unfold lastV
          split
          · simp only; omega
          · exact one_mono hok h0 (by omega) (by omega) (by omega)
        have al : min (allV' B.mark (pairsV B) lo t).1 (oneV B.mark (pairsV B) t).1 = (allV' B.mark (pairsV B) lo (t + 1)).1 ∧ max (allV' B.mark (pairsV B) lo t).2 (oneV B.mark (pairsV B) t).2 = (allV' B.mark (pairsV B) lo (t + 1)).2 := by
          have e : t + 1 - 1 = t := by omega
          unfold allV'
          rw [if_neg (by omega : ¬ t + 1 = lo), e]
          split
          · rename_i et
            rw [et] at ob ⊢
            simp only; omega
          · have := one_mono hok h0 (s := t - 1) (t := t) (by omega) (by omega) (by omega)
            simp only; omega
        have ll : (oneV B.mark (pairsV B) t) = lastV B.mark (pairsV B) lo (t + 1) := by
          unfold lastV
          rw [if_neg (by omega), show t + 1 - 1 = t by omega]
        refine Br.mk (fun h => absurd h ?_) (fun _ => ?_)
        · simp only [Bool.or_eq_true, decide_eq_true_eq]
          simp only [decide_true, Bool.not_true, Bool.false_eq_true, false_or]
          omega
        refine drawn_ok (g.ok _ _ _) fol [0,0,2,0,8,30,0,64,0,256,960,2046,4095,8191] [(12, 3), (13, 4)] 14 (by kernel_rfl) ?_
        refine Chk.mk (show InK .i64 (t + 1) from ⟨by omega, by omega⟩) ⟨⟨t + 1, by omega, by omega⟩, (fun j => j), ?_, (by show (hi + 1 - (t + 1)).toNat < (hi + 1 - t).toNat; omega)⟩
        refine ⟨?_, ?_, rfl, rfl, rfl, rfl, trivial⟩
        · repeat' (first | exact trivial | exact rfl | refine And.intro ?_ ?_)
        · repeat' (first | exact trivial | exact al.1 | exact al.2 | exact congrArg Prod.fst ll | exact congrArg Prod.snd ll | exact rfl | (intro i hi; exact ⟨rfl, rfl⟩) | refine And.intro ?_ ?_)
      · have h : ¬ t ≤ hi := of_decide_eq_false h
        obtain rfl : t = hi + 1 := by omega
        have ea : allV' B.mark (pairsV B) lo (hi + 1) = ((oneV B.mark (pairsV B) lo).1, (oneV B.mark (pairsV B) hi).2) := by
          unfold allV'
          rw [if_neg (by omega), show hi + 1 - 1 = hi by omega]
        refine Br.mk (fun h => absurd h ?_) (fun _ => ?_)
        · rw [ea]; simp
        have hex : ∀ a b, Blk.mk mk a a b b (rdL n fun i => rdC (rd i)) = exB B a b := fun a b => by rw [← hB]; rfl
        obtain ⟨q, hq⟩ : ∃ q, okP B.mark B.rs = q := ⟨_, rfl⟩
        have hpv : pairsV B = rows q l1 c1 c2 (l2 + 1) := by
          rw [← hq, ← hB2.1, ← hB2.2.1, ← hB2.2.2.1, ← hB2.2.2.2]; rfl
        refine loop_okR (g.ok _ _ _) 2 (fun z : {a : Int // l1 ≤ a ∧ a ≤ l2 + 1} => ⟨[(3, ⟨[], .sp 1 0⟩), (7, ⟨[], .si .i64 lo⟩), (18, ⟨[], .sp 2 0⟩), (19, ⟨[], .si .i64 z.1⟩)], [],
          [(2, .cells 24 [.si .i64 (ownV B.mark lo (rows q l1 c1 c2 z.1)).1, .si .i64 (ownV B.mark lo (rows q l1 c1 c2 z.1)).2]), (1, .cells 36 (bC mk l1 l2 c1 c2 0)), (0, .ro 4 n fun i => rdC (rd i))], 3, []⟩)
          (fun z => (l2 + 1 - z.1).toNat) (fun j hj => hG j (by omega)) ⟨l1, by omega, by omega⟩ (fun j => match j with | 2 => 5 | j => j) ?_ ?_
        · refine ⟨?_, ?_, rfl, rfl, rfl, rfl, trivial⟩
          · repeat' (first | exact trivial | exact rfl | refine And.intro ?_ ?_)
          · rw [rows_first]
            repeat' (first | exact trivial | exact rfl | (intro i hi; exact ⟨rfl, rfl⟩) | refine And.intro ?_ ?_)
        · rintro ⟨a, ha1, ha2⟩
          refine Br.mk (fun h => ?_) (fun h => ?_)
          · have h : a ≤ l2 := of_decide_eq_true h
            refine loop_okR (g.ok _ _ _) 2 (fun z : {b : Int // c1 ≤ b ∧ b ≤ c2 + 1} => ⟨[(3, ⟨[], .sp 1 0⟩), (7, ⟨[], .si .i64 lo⟩), (18, ⟨[], .sp 2 0⟩), (19, ⟨[], .si .i64 a⟩), (20, ⟨[], .si .i64 z.1⟩)], [],
              [(2, .cells 24 [.si .i64 (ownV B.mark lo (rows q l1 c1 c2 a ++ row q a c1 z.1)).1, .si .i64 (ownV B.mark lo (rows q l1 c1 c2 a ++ row q a c1 z.1)).2]), (1, .cells 36 (bC mk l1 l2 c1 c2 0)), (0, .ro 4 n fun i => rdC (rd i))], 3, []⟩)
              (fun z => (c2 + 1 - z.1).toNat) (fun j hj => hG j (by omega)) ⟨c1, by omega, by omega⟩ (fun j => j) ?_ ?_
            · refine ⟨?_, ?_, rfl, rfl, rfl, rfl, trivial⟩
              · repeat' (first | exact trivial | exact rfl | refine And.intro ?_ ?_)
              · rw [row_first, List.append_nil]
                repeat' (first | exact trivial | exact rfl | (intro i hi; exact ⟨rfl, rfl⟩) | refine And.intro ?_ ?_)
            · rintro ⟨b, hb1, hb2⟩
              refine Br.mk (fun h2 => ?_) (fun h2 => ?_)
              · have h2 : b ≤ c2 := of_decide_eq_true h2
                have hrn := row_next (q := q) (n := a) (c1 := c1) (a := b) hb1
                have hin : InK .i64 (b + 1) := ⟨by omega, by omega⟩
                refine Chk.mk (rds_rd _ _) (Chk.mk ⟨rds_rd _ _, rfl, trivial⟩ ?_)
                rw [hex a b, ex_cnt hok (a := a) (b := b) (by omega) (by omega), hq]
                cases hqa : q (a, b) with
                | false =>
                  rw [hqa, if_neg Bool.false_ne_true, List.append_nil] at hrn
                  rw [if_neg Bool.false_ne_true]
                  refine Br.mk (fun h => absurd h (by simp)) (fun _ => ?_)
                  refine Chk.mk hin ⟨⟨b + 1, by omega, by omega⟩, (fun j => j), ?_, (by show (c2 + 1 - (b + 1)).toNat < (c2 + 1 - b).toNat; omega)⟩
                  rw [← hrn]
                  refine ⟨?_, ?_, rfl, rfl, rfl, rfl, trivial⟩
                  · repeat' (first | exact trivial | exact rfl | refine And.intro ?_ ?_)
                  · repeat' (first | exact trivial | exact rfl | (intro i hi; exact ⟨rfl, rfl⟩) | refine And.intro ?_ ?_)
                | true =>
                  rw [hqa, if_pos rfl] at hrn
                  rw [if_pos rfl]
                  have hs := ownV_snoc B.mark lo (rows q l1 c1 c2 a ++ row q a c1 b) (a, b)
                  rw [List.append_assoc, ← hrn] at hs
                  refine Br.mk (fun _ => ?_) (fun h => absurd h (by simp))
                  refine Chk.mk ⟨(show smB 1000000 a from ⟨by omega, by omega⟩), (show smB 1000 mk from ⟨by omega, by omega⟩), (show smB 1000 b from ⟨by omega, by omega⟩), (show smB 1000 lo from ⟨by omega, by omega⟩)⟩ ?_
                  rw [← hB1]
                  refine Chk.mk hin ⟨⟨b + 1, by omega, by omega⟩, (fun j => j), ?_, (by show (c2 + 1 - (b + 1)).toNat < (c2 + 1 - b).toNat; omega)⟩
                  refine ⟨?_, ?_, rfl, rfl, rfl, rfl, trivial⟩
                  · repeat' (first | exact trivial | exact rfl | refine And.intro ?_ ?_)
                  · have s1 := congrArg Prod.fst hs
                    have s2 := congrArg Prod.snd hs
                    repeat' (first | exact trivial | exact s1.symm | exact s2.symm | exact rfl | (intro i hi; exact ⟨rfl, rfl⟩) | refine And.intro ?_ ?_)
              · have h2 : ¬ b ≤ c2 := of_decide_eq_false h2
                obtain rfl : b = c2 + 1 := by omega
                have hrs := rows_next (q := q) (l1 := l1) (c1 := c1) (c2 := c2) (n := a) ha1
                refine Chk.mk (show InK .i64 (a + 1) from ⟨by omega, by omega⟩) ⟨⟨a + 1, by omega, by omega⟩, (fun j => j), ?_, (by show (l2 + 1 - (a + 1)).toNat < (l2 + 1 - a).toNat; omega)⟩
                refine ⟨?_, ?_, rfl, rfl, rfl, rfl, trivial⟩
                · repeat' (first | exact trivial | exact rfl | refine And.intro ?_ ?_)
                · rw [← hrs]
                  repeat' (first | exact trivial | exact rfl | (intro i hi; exact ⟨rfl, rfl⟩) | refine And.intro ?_ ?_)
          · have h : ¬ a ≤ l2 := of_decide_eq_false h
            obtain rfl : a = l2 + 1 := by omega
            have hown : ownV B.mark lo (rows q l1 c1 c2 (l2 + 1)) = oneV B.mark (pairsV B) lo := by
              rw [← hpv]
              exact own_show hok h0 hlo1 ⟨by decide, by decide⟩
            refine drawn_ok (g.ok _ _ _) fol [0,0,0,6,15,31,63,63,0,383,1023] [(9, 35)] 11 (by kernel_rfl) ?_
            refine Chk.mk ⟨rds_rd _ _, rfl, trivial⟩ ?_
            rw [hB, hO lo hlo1.1 hlo1.2]
            refine hR _ _ ?_ rfl
            show (_ : Bool) = true
            rw [hown]
            simp
  · cases hk
end Go.X.W
end
