/- The walk of WarmRoom. -/
import Derived.Test.YtipjgdkaocfapaaNI
import Derived.Test.YtipjgdkaocfapaaNJ

section
set_option linter.unusedVariables false
set_option linter.unusedSimpArgs false
set_option linter.unusedSectionVars false
/- Warm: the room, plainly. -/
set_option linter.unusedVariables false
set_option linter.unusedSimpArgs false
set_option linter.unusedSectionVars false
set_option maxRecDepth 10000
set_option maxHeartbeats 1000000
namespace Go.X.W
open Go Go.Proofs Go.X

theorem downTo_spec (q : Nat → Bool) : ∀ n : Nat, downTo q n ≤ n ∧ (downTo q n = 0 ∨ q (downTo q n) = true) ∧ ∀ k, downTo q n < k → k ≤ n → q k = false
  | 0 => ⟨Nat.le_refl _, .inl rfl, fun k h1 h2 => by simp only [downTo] at h1; omega⟩
  | n + 1 => by
    obtain ⟨h1, h2, h3⟩ := downTo_spec q n
    simp only [downTo]
    by_cases hq : q (n + 1) = true
    · rw [if_pos hq]
      exact ⟨Nat.le_refl _, .inr hq, fun k h1 h2 => by omega⟩
    · rw [if_neg hq]
      refine ⟨by omega, h2, fun k h4 h5 => ?_⟩
      by_cases e : k = n + 1
      · rw [e]; simpa using hq
      · exact h3 k h4 (by omega)
theorem downTo_mono {q q' : Nat → Bool} (h : ∀ k, q k = true → q' k = true) (n : Nat) : downTo q n ≤ downTo q' n := by
  obtain ⟨h1, h2, h3⟩ := downTo_spec q n
  obtain ⟨k1, k2, k3⟩ := downTo_spec q' n
  rcases Nat.lt_or_ge (downTo q' n) (downTo q n) with hlt | hge
  · have h4 := k3 _ hlt h1
    rcases h2 with h2 | h2
    · omega
    · rw [h _ h2] at h4; cases h4
  · exact hge
theorem coldB_iff {mk off : Int} {l : List Pr} {m : Nat} : coldB mk off l m = true ↔ ∀ p ∈ l, -off ≤ growV mk p.2 (-(m : Int)) := by
  unfold coldB
  rw [List.all_eq_true]
  exact forall_congr' fun p => imp_congr_right fun _ => decide_eq_true_iff
theorem show_sub (mk : Int) (p : Pr) (t : Int) : showV mk p t - p.1 = growV mk p.2 t := by unfold showV; omega
theorem grow_neg (mk a t : Int) : growV mk a t ≤ -growV mk a (-t) := by
  unfold growV
  have e : mk * a * -t = -(mk * a * t) := by rw [Int.mul_neg]
  rw [e]
  omega
section
variable {B : Blk} (hok : blkOk B = true) {off : Int} (h0 : 0 ≤ off)
include hok h0
theorem room_in {p : Pr} (hp : p ∈ pairsV B) {t : Int} (ht : -roomV B off ≤ t ∧ t ≤ roomV B off) : -off ≤ showV B.mark p t - p.1 ∧ showV B.mark p t - p.1 ≤ off := by
  obtain ⟨hmk, _⟩ := blk_b hok
  have ha := (pair_b hok hp).2.2.1
  obtain ⟨h1, h2, h3⟩ := downTo_spec (coldB B.mark off (pairsV B)) 100
  have hr : roomV B off = ((downTo (coldB B.mark off (pairsV B)) 100 : Nat) : Int) := rfl
  rw [hr] at ht
  generalize downTo (coldB B.mark off (pairsV B)) 100 = m at h1 h2 h3 ht
  have hm : -off ≤ growV B.mark p.2 (-(m : Int)) := by
    rcases h2 with h2 | h2
    · subst h2
      have := grow_zero B.mark p.2
      have e : (-((0 : Nat) : Int)) = 0 := rfl
      rw [e]; omega
    · exact coldB_iff.1 h2 p hp
  rw [show_sub]
  have g1 := growV_anti (mk := B.mark) (a := p.2) (by omega) ha ht.1
  have g2 := growV_anti (mk := B.mark) (a := p.2) (by omega) ha ht.2
  have g3 := grow_neg B.mark p.2 (m : Int)
  omega
theorem room_out (hm : roomV B off < 100) : ∃ p ∈ pairsV B, showV B.mark p (-roomV B off - 1) - p.1 < -off := by
  obtain ⟨h1, h2, h3⟩ := downTo_spec (coldB B.mark off (pairsV B)) 100
  have hr : roomV B off = ((downTo (coldB B.mark off (pairsV B)) 100 : Nat) : Int) := rfl
  rw [hr] at hm ⊢
  generalize downTo (coldB B.mark off (pairsV B)) 100 = m at h1 h2 h3 hm
  have h4 := h3 (m + 1) (by omega) (by omega)
  have h5 : ¬ coldB B.mark off (pairsV B) (m + 1) = true := by rw [h4]; exact Bool.false_ne_true
  rw [coldB_iff] at h5
  simp only [Classical.not_forall] at h5
  obtain ⟨p, hp, h6⟩ := h5
  refine ⟨p, hp, ?_⟩
  rw [show_sub]
  have e : (-(m : Int) - 1) = -((m + 1 : Nat) : Int) := by push_cast; omega
  rw [e]
  omega
end
theorem room_b (B : Blk) (off : Int) : 0 ≤ roomV B off ∧ roomV B off ≤ 100 := by
  have h1 := (downTo_spec (coldB B.mark off (pairsV B)) 100).1
  have hr : roomV B off = ((downTo (coldB B.mark off (pairsV B)) 100 : Nat) : Int) := rfl
  omega
theorem room_mono {B B' : Blk} {off off' : Int} (hmk : B.mark = B'.mark) (hs : ∀ p ∈ pairsV B', p ∈ pairsV B) (h : off ≤ off') : roomV B off ≤ roomV B' off' := by
  have h1 := downTo_mono (q := coldB B.mark off (pairsV B)) (q' := coldB B'.mark off' (pairsV B')) (fun k hk => coldB_iff.2 fun p hp => by
    have := coldB_iff.1 hk p (hs p hp)
    rw [← hmk]; omega) 100
  have hr : roomV B off = ((downTo (coldB B.mark off (pairsV B)) 100 : Nat) : Int) := rfl
  have hr' : roomV B' off' = ((downTo (coldB B'.mark off' (pairsV B')) 100 : Nat) : Int) := rfl
  omega
theorem roomE_tell {B : Blk} (h : blkOk B = true) (off : Int) : roomE B off = if inB off 0 30000 = true then (if (pairsV B).length = 0 then (0, 10) else (roomV B off, 0)) else (0, 2) := by
  unfold roomE
  rw [tell_ok h]
  cases inB off 0 30000
  · rfl
  · by_cases h0 : (pairsV B).length = 0
    · simp [h0]
    · simp [h0]
end Go.X.W
end

section
set_option linter.unusedVariables false
set_option linter.unusedSimpArgs false
set_option linter.unusedSectionVars false
/- Warm: WarmRoom answers true. -/
set_option linter.unusedVariables false
set_option linter.unusedSimpArgs false
set_option maxRecDepth 10000
set_option maxHeartbeats 4000000
namespace Go.X.W
open Go Go.Proofs Go.X

/-- Does a pair show more than so much beside its length, at one of two warmths? -/
def farB (mk off t : Int) (p : Pr) : Bool := decide (showV mk p t - p.1 < 0 - off) || decide (off < showV mk p t - p.1)
def widB (mk off m : Int) (l : List Pr) : Bool := decide (m = 100) || l.any fun p => farB mk off (0 - m - 1) p || farB mk off (m + 1) p
theorem widB_snoc (mk off m : Int) (l : List Pr) (p : Pr) : widB mk off m (l ++ [p]) = (widB mk off m l || farB mk off (0 - m - 1) p || farB mk off (m + 1) p) := by
  simp [widB, Bool.or_assoc]

def c10 : Ct := wmCt fun B r => match r with
  | [.si .u16 x, .si .u8 y] => some (some ((0 ≤ x ∧ x < 65536) ∧ 0 ≤ y ∧ y < 256), .sb true)
  | _ => none
theorem k10 {l : List (Nat × Ct)} (g0 : Good P T l) : COk P 10 c10 := by
  have g := g39 (g24 (g22 (g33 (g42 (g43 (g44 good0))))))
  refine cok (C := tabC _) g.ok Try.func10 (c := code Try.f10) rfl fun fr args H out h hp => wmWalk h hp fun mk l1 l2 c1 c2 n rd r p v Rv Rp hk hp hR => ?_
  split at hk
  · rename_i x y
    cases hk
    obtain ⟨hx, hy⟩ : (0 ≤ x ∧ x < 65536) ∧ 0 ≤ y ∧ y < 256 := hp
    refine ⟨Nat.le_of_ble_eq_true rfl, fun G hG => ?_⟩
    refine Chk.mk ⟨rds_rd _ _, rfl, trivial⟩ ?_
    refine Br.mk (fun h => ?_) (fun h => ?_)
    · exact hR _ _ rfl rfl
    obtain ⟨B, hB⟩ : ∃ B : Blk, Blk.mk mk l1 l2 c1 c2 (rdL n fun i => rdC (rd i)) = B := ⟨_, rfl⟩
    have hok : blkOk B = true := by
      have h : (!fineB ⟨mk, l1, l2, c1, c2, rdL n fun i => rdC (rd i)⟩) = false := h
      rw [hB] at h
      exact fine_blk (by simpa using h)
    obtain ⟨hmk, hl, hc, hn, hr⟩ := blk_b hok
    have e1 : x.tmod 30001 = x % 30001 := Int.tmod_eq_emod_of_nonneg (by omega)
    refine Chk.mk (show InK .i64 x from ⟨by omega, by omega⟩) (Chk.mk (show (30001 : Int) ≠ 0 by decide) ?_)
    obtain ⟨off, hoff⟩ : ∃ off, x.tmod 30001 = off := ⟨_, rfl⟩
    have hof1 : 0 ≤ off ∧ off ≤ 30000 := by omega
    refine Chk.mk ⟨rds_rd _ _, rfl, trivial⟩ ?_
    rw [hoff]
    refine Chk.mk (show InK .i64 y from ⟨by omega, by omega⟩) (Chk.mk (show InK .i64 (off + y) from ⟨by omega, by omega⟩) ?_)
    refine Chk.mk ⟨rds_rd _ _, rfl, trivial⟩ ?_
    obtain ⟨off2, hoff2⟩ : ∃ off2, min 30000 (off + y) = off2 := ⟨_, rfl⟩
    have hof2 : off ≤ off2 ∧ off2 ≤ 30000 := by omega
    rw [hoff2]
    refine Chk.mk ⟨rds_rd _ _, rfl, trivial⟩ ?_
    rw [hB]
    have hi1 : inB off 0 30000 = true := by simp only [inB, Bool.and_eq_true, decide_eq_true_eq]; omega
    have hi2 : inB off2 0 30000 = true := by simp only [inB, Bool.and_eq_true, decide_eq_true_eq]; omega
    rw [roomE_tell hok, roomE_tell hok, hi1, hi2, if_pos rfl, if_pos rfl, cnt_ok hok]
    by_cases h0 : (pairsV B).length = 0
    · rw [if_pos h0, if_pos h0, h0]
      refine Br.mk (fun h => absurd h (by decide)) (fun _ => ?_)
      refine Br.mk (fun _ => ?_) (fun h => absurd h (by decide))
      exact hR _ _ rfl rfl
    rw [if_neg h0, if_neg h0]
    have hB1 : B.mark = mk := by rw [← hB]
    have hB2 : B.l1 = l1 ∧ B.l2 = l2 ∧ B.c1 = c1 ∧ B.c2 = c2 := by rw [← hB]; exact ⟨rfl, rfl, rfl, rfl⟩
    have hb := room_b B off
    have hm2 := room_mono (B := B) (B' := B) rfl (fun p hp => hp) hof2.1
    have hin := fun p hp t => room_in hok hof1.1 (p := p) (t := t) hp
    have hout := room_out hok hof1.1
    obtain ⟨m, hm⟩ : ∃ m, roomV B off = m := ⟨_, rfl⟩
    obtain ⟨m', hm'⟩ : ∃ m, roomV B off2 = m := ⟨_, rfl⟩
    rw [hm] at hb hm2 hin hout ⊢
    rw [hm'] at hm2 ⊢
    refine Br.mk (fun h => absurd h (by simpa using h0)) (fun _ => ?_)
    refine Br.mk (fun h => absurd h (by simp)) (fun _ => ?_)
    refine Br.mk (fun h => absurd h (by simp; omega)) (fun _ => ?_)
    have hex : ∀ a b, Blk.mk mk a a b b (rdL n fun i => rdC (rd i)) = exB B a b := fun a b => by rw [← hB]; rfl
    obtain ⟨q, hq⟩ : ∃ q, okP B.mark B.rs = q := ⟨_, rfl⟩
    have hpv : pairsV B = rows q l1 c1 c2 (l2 + 1) := by
      rw [← hq, ← hB2.1, ← hB2.2.1, ← hB2.2.2.1, ← hB2.2.2.2]; rfl
    refine loop_okR (g.ok _ _ _) 2 (fun z : {a : Int // l1 ≤ a ∧ a ≤ l2 + 1} => ⟨[(3, ⟨[], .sp 1 0⟩), (7, ⟨[], .si .i64 off⟩), (8, ⟨[], .si .i64 m⟩), (14, ⟨[], .sb (widB mk off m (rows q l1 c1 c2 z.1))⟩), (15, ⟨[], .si .i64 z.1⟩)], [],
      [(1, .cells 36 (bC mk l1 l2 c1 c2 0)), (0, .ro 4 n fun i => rdC (rd i))], 2, []⟩)
      (fun z => (l2 + 1 - z.1).toNat) (fun j hj => hG j (by omega)) ⟨l1, by omega, by omega⟩ (fun j => j) ?_ ?_
    · have ew : decide (m = 100) = widB mk off m (rows q l1 c1 c2 l1) := by rw [rows_first]; simp [widB]
      refine ⟨?_, ?_, rfl, rfl, rfl, rfl, trivial⟩
      · repeat' (first | exact trivial | exact ew | exact rfl | refine And.intro ?_ ?_)
      · repeat' (first | exact trivial | exact rfl | (intro i hi; exact ⟨rfl, rfl⟩) | refine And.intro ?_ ?_)
    rintro ⟨a, ha1, ha2⟩
    refine Br.mk (fun h => ?_) (fun h => ?_)
    · have h : a ≤ l2 := of_decide_eq_true h
      refine loop_okR (g.ok _ _ _) 2 (fun z : {b : Int // c1 ≤ b ∧ b ≤ c2 + 1} => ⟨[(3, ⟨[], .sp 1 0⟩), (7, ⟨[], .si .i64 off⟩), (8, ⟨[], .si .i64 m⟩), (14, ⟨[], .sb (widB mk off m (rows q l1 c1 c2 a ++ row q a c1 z.1))⟩), (15, ⟨[], .si .i64 a⟩), (16, ⟨[], .si .i64 z.1⟩)], [],
        [(1, .cells 36 (bC mk l1 l2 c1 c2 0)), (0, .ro 4 n fun i => rdC (rd i))], 2, []⟩)
        (fun z => (c2 + 1 - z.1).toNat) (fun j hj => hG j (by omega)) ⟨c1, by omega, by omega⟩ (fun j => j) ?_ ?_
      · have ew : widB mk off m (rows q l1 c1 c2 a) = widB mk off m (rows q l1 c1 c2 a ++ row q a c1 c1) := by rw [row_first, List.append_nil]
        refine ⟨?_, ?_, rfl, rfl, rfl, rfl, trivial⟩
        · repeat' (first | exact trivial | exact ew | exact rfl | refine And.intro ?_ ?_)
        · repeat' (first | exact trivial | exact rfl | (intro i hi; exact ⟨rfl, rfl⟩) | refine And.intro ?_ ?_)
      rintro ⟨b, hb1, hb2⟩
      refine Br.mk (fun h2 => ?_) (fun h2 => ?_)
      · have h2 : b ≤ c2 := of_decide_eq_true h2
        have hrn := row_next (q := q) (n := a) (c1 := c1) (a := b) hb1
        have hbi : InK .i64 (b + 1) := ⟨by omega, by omega⟩
        refine Chk.mk (rds_rd _ _) (Chk.mk ⟨rds_rd _ _, rfl, trivial⟩ ?_)
        rw [hex a b, ex_cnt hok (a := a) (b := b) (by omega) (by omega), hq]
        cases hqa : q (a, b) with
        | false =>
          rw [hqa, if_neg Bool.false_ne_true, List.append_nil] at hrn
          rw [if_neg Bool.false_ne_true]
          refine Br.mk (fun _ => ?_) (fun h => absurd h (by simp))
          refine Chk.mk hbi ⟨⟨b + 1, by omega, by omega⟩, (fun j => j), ?_, (by show (c2 + 1 - (b + 1)).toNat < (c2 + 1 - b).toNat; omega)⟩
          have ew := congrArg (fun l => widB mk off m (rows q l1 c1 c2 a ++ l)) hrn
          refine ⟨?_, ?_, rfl, rfl, rfl, rfl, trivial⟩
          · repeat' (first | exact trivial | exact ew.symm | exact rfl | refine And.intro ?_ ?_)
          · repeat' (first | exact trivial | exact rfl | (intro i hi; exact ⟨rfl, rfl⟩) | refine And.intro ?_ ?_)
        | true =>
          rw [hqa, if_pos rfl] at hrn
          rw [if_pos rfl]
          have hmem : (a, b) ∈ pairsV B := by
            rw [hpv]; exact rows_mem.2 ⟨⟨ha1, by omega, hb1, h2⟩, hqa⟩
          have hw := widB_snoc mk off m (rows q l1 c1 c2 a ++ row q a c1 b) (a, b)
          rw [List.append_assoc, ← hrn] at hw
          have hsh : ∀ t : Int, -101 ≤ t ∧ t ≤ 101 → smB 1000000 a ∧ smB 1000 mk ∧ smB 1000 b ∧ smB 1000 t := fun t ht => ⟨⟨by omega, by omega⟩, ⟨by omega, by omega⟩, ⟨by omega, by omega⟩, by omega, by omega⟩
          have hsb : ∀ t : Int, -101 ≤ t ∧ t ≤ 101 → InK .i64 (showV mk (a, b) t - a) := fun t ht => by
            obtain ⟨s1, s2, s3, s4⟩ := hsh t ht
            have k := growV_le s2 s3 s4
            have e := show_sub mk (a, b) t
            simp only at e
            have k2 := k.2
            unfold smB at k2
            exact ⟨by omega, by omega⟩
          refine Br.mk (fun h => absurd h (by simp)) (fun _ => ?_)
          have hof0 : InK .i64 (0 - off) := ⟨by omega, by omega⟩
          refine Chk.mk (show InK .i64 (0 - m) from ⟨by omega, by omega⟩) ?_
          obtain ⟨w, hw0⟩ : ∃ w, widB mk off m (rows q l1 c1 c2 a ++ row q a c1 b) = w := ⟨_, rfl⟩
          refine (show SemC _ _ _ _ from ?_)
          rw [hw0] at hw ⊢
          refine loop_okR (g.ok _ _ _) 2 (fun z : {i : Nat // i ≤ 2} => ⟨[(3, ⟨[], .sp 1 0⟩), (7, ⟨[], .si .i64 off⟩), (8, ⟨[], .si .i64 m⟩), (14, ⟨[], .sb w⟩), (15, ⟨[], .si .i64 a⟩), (16, ⟨[], .si .i64 b⟩), (132, ⟨[], .sl 2⟩), (133, ⟨[], .si .i64 2⟩), (134, ⟨[], .si .i64 (z.1 : Nat)⟩)], [],
            [(2, .row 3 1 2 [.si .i64 (0 - m), .si .i64 m]), (1, .cells 36 (bC mk l1 l2 c1 c2 0)), (0, .ro 4 n fun i => rdC (rd i))], 3, []⟩)
            (fun z => 2 - z.1) (fun j hj => hG j (by omega)) ⟨0, by omega⟩ (fun j => j) ?_ ?_
          · refine ⟨?_, ?_, rfl, rfl, rfl, rfl, trivial⟩
            · repeat' (first | exact trivial | exact rfl | refine And.intro ?_ ?_)
            · repeat' (first | exact trivial | exact rfl | (intro i hi; exact ⟨rfl, rfl⟩) | refine And.intro ?_ ?_)
          rintro ⟨i, hi⟩
          rcases (show i = 0 ∨ i = 1 ∨ i = 2 by omega) with rfl | rfl | rfl
          · refine Br.mk (fun _ => ?_) (fun h => absurd h (by simp))
            refine Chk.mk ⟨by simp, by simp⟩ ?_
            refine Chk.mk (hsh _ ⟨by omega, by omega⟩) ?_
            refine Chk.mk (hsb _ ⟨by omega, by omega⟩) ?_
            refine Chk.mk hof0 ?_
            refine Br.mk (fun h => absurd h ?_) (fun _ => ?_)
            · have k := hin (a, b) hmem (0 - m) ⟨by omega, by omega⟩
              rw [hB1] at k
              simp only [Bool.or_eq_true, decide_eq_true_eq]
              simp only at k
              omega
            refine Chk.mk ⟨by simp, by simp⟩ ⟨⟨1, by omega⟩, (fun j => j), ?_, by simp⟩
            refine ⟨?_, ?_, rfl, rfl, rfl, rfl, trivial⟩
            · repeat' (first | exact trivial | exact rfl | refine And.intro ?_ ?_)
            · repeat' (first | exact trivial | exact rfl | (intro i hi; exact ⟨rfl, rfl⟩) | refine And.intro ?_ ?_)
          · refine Br.mk (fun _ => ?_) (fun h => absurd h (by simp))
            refine Chk.mk ⟨by simp, by simp⟩ ?_
            refine Chk.mk (hsh _ ⟨by omega, by omega⟩) ?_
            refine Chk.mk (hsb _ ⟨by omega, by omega⟩) ?_
            refine Chk.mk hof0 ?_
            refine Br.mk (fun h => absurd h ?_) (fun _ => ?_)
            · have k := hin (a, b) hmem (m) ⟨by omega, by omega⟩
              rw [hB1] at k
              simp only [Bool.or_eq_true, decide_eq_true_eq]
              simp only at k
              omega
            refine Chk.mk ⟨by simp, by simp⟩ ⟨⟨2, by omega⟩, (fun j => j), ?_, by simp⟩
            refine ⟨?_, ?_, rfl, rfl, rfl, rfl, trivial⟩
            · repeat' (first | exact trivial | exact rfl | refine And.intro ?_ ?_)
            · repeat' (first | exact trivial | exact rfl | (intro i hi; exact ⟨rfl, rfl⟩) | refine And.intro ?_ ?_)
          · refine Br.mk (fun h => absurd h (by simp)) (fun _ => ?_)
            refine Chk.mk (show InK .i64 (0 - m) from ⟨by omega, by omega⟩) ?_
            refine Chk.mk (show InK .i64 (0 - m - 1) from ⟨by omega, by omega⟩) ?_
            refine Chk.mk (show InK .i64 (m + 1) from ⟨by omega, by omega⟩) ?_
            refine loop_okR (g.ok _ _ _) 2 (fun z : {i : Nat // i ≤ 2} => ⟨[(3, ⟨[], .sp 1 0⟩), (7, ⟨[], .si .i64 off⟩), (8, ⟨[], .si .i64 m⟩), (14, ⟨[], .sb (match z.1 with | 0 => w | 1 => w || farB mk off (0 - m - 1) (a, b) | _ => w || farB mk off (0 - m - 1) (a, b) || farB mk off (m + 1) (a, b))⟩), (15, ⟨[], .si .i64 a⟩), (16, ⟨[], .si .i64 b⟩), (161, ⟨[], .sl 2⟩), (162, ⟨[], .si .i64 2⟩), (163, ⟨[], .si .i64 (z.1 : Nat)⟩)], [],
              [(2, .row 3 1 2 [.si .i64 (0 - m - 1), .si .i64 (m + 1)]), (1, .cells 36 (bC mk l1 l2 c1 c2 0)), (0, .ro 4 n fun i => rdC (rd i))], 3, []⟩)
              (fun z => 2 - z.1) (fun j hj => hG j (by omega)) ⟨0, by omega⟩ (fun j => match j with | 2 => 3 | j => j) ?_ ?_
            · refine ⟨?_, ?_, rfl, rfl, rfl, rfl, trivial⟩
              · repeat' (first | exact trivial | exact rfl | refine And.intro ?_ ?_)
              · repeat' (first | exact trivial | exact rfl | (intro i hi; exact ⟨rfl, rfl⟩) | refine And.intro ?_ ?_)
            rintro ⟨i, hi⟩
            rcases (show i = 0 ∨ i = 1 ∨ i = 2 by omega) with rfl | rfl | rfl
            · refine Br.mk (fun _ => ?_) (fun h => absurd h (by simp))
              refine Chk.mk ⟨by simp, by simp⟩ ?_
              refine Chk.mk (hsh _ ⟨by omega, by omega⟩) ?_
              refine Chk.mk (hsb _ ⟨by omega, by omega⟩) ?_
              refine Chk.mk (under_of hof0) ?_
              refine Chk.mk ⟨by simp, by simp⟩ ⟨⟨1, by omega⟩, (fun j => j), ?_, by simp⟩
              refine ⟨?_, ?_, rfl, rfl, rfl, rfl, trivial⟩
              · repeat' (first | exact trivial | exact rfl | refine And.intro ?_ ?_)
                exact Bool.or_assoc _ _ _
              · repeat' (first | exact trivial | exact rfl | (intro i hi; exact ⟨rfl, rfl⟩) | refine And.intro ?_ ?_)
            · refine Br.mk (fun _ => ?_) (fun h => absurd h (by simp))
              refine Chk.mk ⟨by simp, by simp⟩ ?_
              refine Chk.mk (hsh _ ⟨by omega, by omega⟩) ?_
              refine Chk.mk (hsb _ ⟨by omega, by omega⟩) ?_
              refine Chk.mk (under_of hof0) ?_
              refine Chk.mk ⟨by simp, by simp⟩ ⟨⟨2, by omega⟩, (fun j => j), ?_, by simp⟩
              refine ⟨?_, ?_, rfl, rfl, rfl, rfl, trivial⟩
              · repeat' (first | exact trivial | exact rfl | refine And.intro ?_ ?_)
                exact Bool.or_assoc _ _ _
              · repeat' (first | exact trivial | exact rfl | (intro i hi; exact ⟨rfl, rfl⟩) | refine And.intro ?_ ?_)
            · refine Br.mk (fun h => absurd h (by simp)) (fun _ => ?_)
              refine Chk.mk hbi ⟨⟨b + 1, by omega, by omega⟩, (fun j => j), ?_, (by show (c2 + 1 - (b + 1)).toNat < (c2 + 1 - b).toNat; omega)⟩
              refine ⟨?_, ?_, rfl, rfl, rfl, rfl, trivial⟩
              · repeat' (first | exact trivial | exact hw.symm | exact rfl | refine And.intro ?_ ?_)
              · repeat' (first | exact trivial | exact rfl | (intro i hi; exact ⟨rfl, rfl⟩) | refine And.intro ?_ ?_)
      · have h2 : ¬ b ≤ c2 := of_decide_eq_false h2
        obtain rfl : b = c2 + 1 := by omega
        have hrs := rows_next (q := q) (l1 := l1) (c1 := c1) (c2 := c2) (n := a) ha1
        refine Chk.mk (show InK .i64 (a + 1) from ⟨by omega, by omega⟩) ⟨⟨a + 1, by omega, by omega⟩, (fun j => j), ?_, (by show (l2 + 1 - (a + 1)).toNat < (l2 + 1 - a).toNat; omega)⟩
        have ew := congrArg (widB mk off m) hrs
        refine ⟨?_, ?_, rfl, rfl, rfl, rfl, trivial⟩
        · repeat' (first | exact trivial | exact ew.symm | exact rfl | refine And.intro ?_ ?_)
        · repeat' (first | exact trivial | exact rfl | (intro i hi; exact ⟨rfl, rfl⟩) | refine And.intro ?_ ?_)
    · have h : ¬ a ≤ l2 := of_decide_eq_false h
      obtain rfl : a = l2 + 1 := by omega
      have hw : widB mk off m (rows q l1 c1 c2 (l2 + 1)) = true := by
        rw [← hpv]
        by_cases h100 : m = 100
        · simp [widB, h100]
        · obtain ⟨p, hp, h1⟩ := hout (by omega)
          unfold widB
          rw [Bool.or_eq_true]
          refine .inr (List.any_eq_true.2 ⟨p, hp, ?_⟩)
          rw [Bool.or_eq_true]
          left
          unfold farB
          rw [hB1] at h1
          rw [Bool.or_eq_true, decide_eq_true_eq]
          left
          have e : (0 - m - 1) = -m - 1 := by omega
          rw [e]
          omega
      refine hR _ _ ?_ rfl
      show (_ : Bool) = true
      rw [hw]
      rfl
  · cases hk
end Go.X.W
end
