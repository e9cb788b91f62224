/- Clash; contracts of functions of the document of warm. -/
import Derived.Test.YtipjgdkaocfapaaNC

section
set_option linter.unusedVariables false
set_option linter.unusedSimpArgs false
set_option linter.unusedSectionVars false
/- Warm: Clash. -/
set_option linter.unusedVariables false
set_option linter.unusedSimpArgs false
set_option maxRecDepth 10000
set_option maxHeartbeats 4000000
namespace Go.X.W
open Go Go.Proofs Go.X

theorem subV_all (mk l1 l2 c1 c2 : Int) (n : Nat) (rd : Nat → Rd) : subV ⟨mk, l1, l2, c1, c2, (List.range n).map rd⟩ ((List.range n).map fun i : Nat => (i : Int)) = ⟨mk, l1, l2, c1, c2, (List.range n).map rd⟩ := by
  rw [sub_eq (v := fun i : Nat => (i : Int)) (fun i hi => ⟨by omega, by omega⟩)]
  congr 1
  refine List.map_congr_left fun i hi => ?_
  unfold sub3
  rw [if_pos (List.mem_range.1 hi)]
  rfl
theorem under_of {F : Nat → Option FE} {p : Prop} (h : p) : ∀ {π : GP}, underGP F π p
  | [] => h
  | (a, b) :: r => by
    simp only [underGP]
    split
    · exact fun _ => under_of h
    · exact under_of h
/-- The least list of readings that no truth goes with. -/
def clV (B : Blk) : Option (List Int) := (List.range (B.rs.length + 1)).findSome? fun m => onV B m B.rs.length []
def clashV (B : Blk) : Int × Int := if errV B 0 true = 0 then (match clV B with
    | some S => if (pairsV B).length = 0 then (bst S S.length, 0) else (0, 4)
    | none => (0, 4)) else (0, errV B 0 true)
def c37 : Ct := wmCt fun B r => match r with
  | [] => some (none, .tup [.si .i64 (clashV B).1, .si .i64 (clashV B).2])
  | _ => none
theorem k37 {l : List (Nat × Ct)} (g0 : Good P T l) : COk P 37 c37 := by
  have g := g57 (g93 (g95 good0))
  refine cokDM (C := tabC _) g.ok answer_ok Try.func37 (c := code Try.f37) rfl fun fr args H out h hp => wmWalkD h hp fun mk l1 l2 c1 c2 n rd r p v Rv hk hp hR => ?_
  split at hk
  · cases hk
    refine ⟨Nat.le_of_ble_eq_true rfl, fun G hG => ?_⟩
    refine fb_defer (g.ok _ _ _) rfl cont_std rfl rfl rfl rfl ?_
    refine Chk.mk (rds_rd _ _) ?_
    obtain ⟨B, hBe⟩ : ∃ B : Blk, (⟨mk, l1, l2, c1, c2, (List.range n).map rd⟩ : Blk) = B := ⟨_, rfl⟩
    have hB' : (⟨mk, l1, l2, c1, c2, rdL n fun i => rdC (rd i)⟩ : Blk) = B := hBe
    have hlen : B.rs.length = n := by rw [← hBe]; simp
    have hall : subV B ((List.range n).map fun i : Nat => (i : Int)) = B := by rw [← hBe]; exact subV_all _ _ _ _ _ _ _
    rw [hBe] at hR
    refine Br.mk (fun h => ?_) (fun h => ?_)
    · have h : (!decide (errV ⟨mk, l1, l2, c1, c2, rdL n fun i => rdC (rd i)⟩ 0 true = 0)) = true := h
      rw [hB'] at h
      have h : ¬ errV B 0 true = 0 := by simpa using h
      have hw : clashV B = (0, errV B 0 true) := by rw [clashV, if_neg h]
      rw [hw] at hR
      exact hR _ _ ⟨⟨rfl, rfl⟩, ⟨rfl, (by show errV ⟨mk, l1, l2, c1, c2, rdL n fun i => rdC (rd i)⟩ 0 true = errV B 0 true; rw [hB'])⟩, trivial⟩ rfl
    · have h : (!decide (errV ⟨mk, l1, l2, c1, c2, rdL n fun i => rdC (rd i)⟩ 0 true = 0)) = false := h
      rw [hB'] at h
      have herr : errV B 0 true = 0 := by simpa using h
      obtain ⟨hok, q2, q3⟩ := errV_zero herr
      have hn : n ≤ 5 := by
        have := (blk_b hok).2.2.2.1
        omega
      refine Chk.mk (show InK .i64 ((n : Int) + 1) from ⟨by omega, by omega⟩) ?_
      refine loop_ok (g.ok _ _ _) (fun x : {i : Nat // i ≤ n + 1 ∧ ∀ j, j < i → onV B j n [] = none} => ⟨[(1, ⟨[], .sp 1 0⟩), (2, ⟨[], .si .i64 0⟩), (3, ⟨[], .sp 2 0⟩), (5, ⟨[], .sp 8 0⟩), (6, ⟨[], .sp 9 0⟩), (7, ⟨[], .sp 10 0⟩), (8, ⟨[], .sp 11 0⟩), (19, ⟨[], .si .i64 ((n : Int) + 1)⟩), (20, ⟨[], .si .i64 (x.1 : Nat)⟩)], [],
        hB mk l1 l2 c1 c2 n rd 0 false, 12, [(56, [.sp 2 0])]⟩) (fun x => n + 1 - x.1) (fun _ j hj => hG j (by have : 12 ≤ j := hj; omega)) ⟨0, by omega, fun j hj => by omega⟩ ?_ ?_
      · refine ⟨?_, ?_, rfl, ?_, rfl⟩
        · repeat' (first | exact trivial | exact rfl | refine And.intro ?_ ?_)
        · repeat' (first | exact trivial | exact rfl | (intro i hi; exact rfl) | refine And.intro ?_ ?_)
        · first | exact rfl | (repeat' (first | exact trivial | exact rfl | refine And.intro ?_ ?_))
      · rintro ⟨i, hi, hno⟩
        refine Br.mk (fun h2 => ?_) (fun h2 => ?_)
        · have h2 : (i : Int) < (n : Int) + 1 := of_decide_eq_true h2
          refine fb_call (g.ok _ _ _) cont_std rfl rfl rfl rfl ?_
          refine ⟨b94, ?_⟩
          refine callS_nil (l' := [.si .i64 (i : Int), .si .i64 (n : Int), .sl 12, .sp 8 0, .sp 9 0, .sp 10 0, .sp 11 0]) 3 1 (lC []) ?_ ?_
          · intro ρ hρ vals hv
            have hz : den ρ (.sl 12) = den ρ (.sv (.slice none 0 0)) := by
              simp only [den, show ρ 12 = _ from hρ]
              rfl
            simp only [denL] at hv ⊢
            rw [hz]
            exact hv
          refine callS_sub ([(12, .vec 3 1 0 (lC []))] ++ hB mk l1 l2 c1 c2 n rd 0 false) ?_ ?_
          · repeat' (first | exact trivial | exact rfl | (intro i hi; exact ⟨rfl, rfl⟩) | refine And.intro ?_ ?_)
          refine s94_0 (k := i) (below := n) (by rw [hBe]; exact hok) hn rfl rfl (by omega) (by omega) rfl (fun x hx => by cases hx) ?_
          rw [hBe]
          refine Br.mk (fun h4 => ?_) (fun h4 => ?_)
          · have h4 : (onV B i n []).isSome = true := h4
            obtain ⟨S, hS⟩ := Option.isSome_iff_exists.1 h4
            have hcl : clV B = some S := by
              rw [← hS, clV, hlen]
              exact findS_range (f := fun m => onV B m n []) (by omega) hno h4
            have hbs : onB B i n [] = bst S S.length := by rw [onB, hS]
            rw [hbs, hS]
            refine fb_makeVec n (g.ok _ _ _) cont_std rfl rfl rfl rfl rfl rfl rfl rfl rfl rfl (by decide) (by omega) rfl rfl ?_
            refine loop_okR (g.ok _ _ _) 12 (fun x : {i : Nat // i ≤ n} => ⟨[(2, ⟨[], .si .i64 0⟩), (3, ⟨[], .sp 2 0⟩), (5, ⟨[], .sp 8 0⟩), (6, ⟨[], .sp 9 0⟩), (7, ⟨[], .sp 10 0⟩), (10, ⟨[], .sl 12⟩), (35, ⟨[], .si .i64 n⟩), (36, ⟨[], .si .i64 (x.1 : Nat)⟩)], [],
              (12, .vec 3 1 n (fun q => [.si .i64 (if q < x.1 then (q : Int) else 0)])) :: hB mk l1 l2 c1 c2 n rd (bst S S.length) true, 13, [(56, [.sp 2 0])]⟩) (fun x => n - x.1) (fun j hj => hG j (by omega)) ⟨0, Nat.zero_le _⟩ (fun j => if j = 12 then 13 else j) ?_ ?_
            · refine ⟨?_, ?_, rfl, rfl, rfl, rfl, ?_⟩
              · repeat' (first | exact trivial | exact rfl | refine And.intro ?_ ?_)
              · repeat' (first | exact trivial | exact rfl | (intro i hi; exact ⟨rfl, rfl⟩) | refine And.intro ?_ ?_)
              · repeat' (first | exact trivial | exact rfl | refine And.intro ?_ ?_)
            · rintro ⟨t, ht⟩
              refine Br.mk (fun h5 => ?_) (fun h5 => ?_)
              · have h5 : (t : Int) < (n : Int) := of_decide_eq_true h5
                refine Chk.mk (show (0 : Int) ≤ (t : Int) ∧ (t : Int) < (n : Int) from ⟨by omega, h5⟩) ?_
                refine fb_storeV 12 3 1 n t 0 (fun q => [.si .i64 (if q < t then (q : Int) else 0)]) (fun q => [.si .i64 (if q < t + 1 then (q : Int) else 0)]) [.si .i64 (t : Int)] (g.ok _ _ _) cont_std rfl rfl rfl rfl rfl rfl rfl rfl rfl rfl ⟨by omega, h5⟩ (Nat.le_of_ble_eq_true rfl) (fun q hq => ?_) ?_
                · show _ = if q = ((t : Int)).toNat then [SV.si .i64 (t : Int)] else _
                  by_cases e : q = t
                  · subst e
                    rw [if_pos (by omega), if_pos (by omega)]
                  · rw [if_neg (c := q = ((t : Int)).toNat) (by omega)]
                    by_cases e2 : q < t
                    · rw [if_pos (by omega), if_pos e2]
                    · rw [if_neg (by omega), if_neg e2]
                refine Chk.mk (show InK .i64 ((t : Int) + 1) from ⟨by omega, by omega⟩) ⟨⟨t + 1, by omega⟩, (fun j => j), ?_, (by show n - (t + 1) < n - t; omega)⟩
                refine ⟨?_, ?_, rfl, rfl, rfl, rfl, ?_⟩
                · repeat' (first | exact trivial | exact rfl | refine And.intro ?_ ?_)
                · repeat' (first | exact trivial | exact rfl | (intro i hi; exact ⟨rfl, rfl⟩) | refine And.intro ?_ ?_)
                · repeat' (first | exact trivial | exact rfl | refine And.intro ?_ ?_)
              · have h5 : ¬ (t : Int) < (n : Int) := of_decide_eq_false h5
                obtain rfl : t = n := by omega
                have hil : intL t (fun q => [SV.si .i64 (if q < t then (q : Int) else 0)]) = (List.range t).map fun i : Nat => (i : Int) := List.map_congr_left fun i hi => by
                  show (if i < t then (i : Int) else 0) = i
                  rw [if_pos (List.mem_range.1 hi)]
                have hib : ∀ i, i < t → 0 ≤ intAt (fun q => [SV.si .i64 (if q < t then (q : Int) else 0)]) i ∧ intAt (fun q => [SV.si .i64 (if q < t then (q : Int) else 0)]) i < (t : Int) := fun i hi => by
                  show (0 : Int) ≤ (if i < t then (i : Int) else 0) ∧ (if i < t then (i : Int) else 0) < (t : Int)
                  rw [if_pos hi]
                  omega
                have hpre : Rds t (fun i => rdC (rd i)) ∧ blkOk ⟨mk, l1, l2, c1, c2, rdL t fun i => rdC (rd i)⟩ = true ∧ Ints t (fun q => [SV.si .i64 (if q < t then (q : Int) else 0)]) ∧ t ≤ 40 ∧ ∀ i, i < t → 0 ≤ intAt (fun q => [SV.si .i64 (if q < t then (q : Int) else 0)]) i ∧ intAt (fun q => [SV.si .i64 (if q < t then (q : Int) else 0)]) i < (t : Int) :=
                  ⟨rds_rd _ _, by rw [hB']; exact hok, fun i hi => rfl, by omega, hib⟩
                refine Chk.mk (under_of hpre) ?_
                refine Br.mk (fun h6 => ?_) (fun h6 => ?_)
                · have h6 : (!(true && !decide (0 < (pairsV (subV ⟨mk, l1, l2, c1, c2, rdL t fun i => rdC (rd i)⟩ (intL t fun q => [SV.si .i64 (if q < t then (q : Int) else 0)]))).length))) = true := h6
                  rw [hil, hB', hall] at h6
                  have h6 : ¬ (pairsV B).length = 0 := by
                    have : 0 < (pairsV B).length := by simpa using h6
                    omega
                  have hw : clashV B = (0, 4) := by rw [clashV, if_pos herr, hcl]; simp only; rw [if_neg h6]
                  rw [hw] at hR
                  exact hR _ _ ⟨⟨rfl, rfl⟩, ⟨rfl, rfl⟩, trivial⟩ rfl
                · have h6 : (!(true && !decide (0 < (pairsV (subV ⟨mk, l1, l2, c1, c2, rdL t fun i => rdC (rd i)⟩ (intL t fun q => [SV.si .i64 (if q < t then (q : Int) else 0)]))).length))) = false := h6
                  rw [hil, hB', hall] at h6
                  have h6 : (pairsV B).length = 0 := by
                    have : ¬ 0 < (pairsV B).length := by simpa using h6
                    omega
                  have hw : clashV B = (bst S S.length, 0) := by rw [clashV, if_pos herr, hcl]; simp only; rw [if_pos h6]
                  rw [hw] at hR
                  exact hR _ _ ⟨⟨rfl, rfl⟩, ⟨rfl, rfl⟩, trivial⟩ rfl
          · have h4 : (onV B i n []).isSome = false := h4
            have hv : onV B i n [] = none := by simpa using h4
            have hb0 : onB B i n [] = 0 := by rw [onB, hv]
            rw [hb0, hv]
            refine Chk.mk (show InK .i64 ((i : Int) + 1) from ⟨by omega, by omega⟩) ⟨⟨i + 1, by omega, fun j hj => ?_⟩, ?_, (by show n + 1 - (i + 1) < n + 1 - i; omega)⟩
            · rcases (show j < i ∨ j = i by omega) with hj | rfl
              · exact hno j hj
              · exact hv
            refine ⟨?_, ?_, rfl, ?_, rfl⟩
            · repeat' (first | exact trivial | exact rfl | refine And.intro ?_ ?_)
            · repeat' (first | exact trivial | exact rfl | (intro i hi; exact rfl) | refine And.intro ?_ ?_)
            · first | exact rfl | (repeat' (first | exact trivial | exact rfl | refine And.intro ?_ ?_))
        · have h2 : ¬ (i : Int) < (n : Int) + 1 := of_decide_eq_false h2
          have hcl : clV B = none := by
            rw [clV, hlen]
            exact findS_none fun j hj => hno j (by omega)
          refine fb_makeVec n (g.ok _ _ _) cont_std rfl rfl rfl rfl rfl rfl rfl rfl rfl rfl (by decide) (by omega) rfl rfl ?_
          refine loop_okR (g.ok _ _ _) 12 (fun x : {i : Nat // i ≤ n} => ⟨[(2, ⟨[], .si .i64 0⟩), (3, ⟨[], .sp 2 0⟩), (5, ⟨[], .sp 8 0⟩), (6, ⟨[], .sp 9 0⟩), (7, ⟨[], .sp 10 0⟩), (10, ⟨[], .sl 12⟩), (35, ⟨[], .si .i64 n⟩), (36, ⟨[], .si .i64 (x.1 : Nat)⟩)], [],
            (12, .vec 3 1 n (fun q => [.si .i64 (if q < x.1 then (q : Int) else 0)])) :: hB mk l1 l2 c1 c2 n rd 0 false, 13, [(56, [.sp 2 0])]⟩) (fun x => n - x.1) (fun j hj => hG j (by omega)) ⟨0, Nat.zero_le _⟩ (fun j => if j = 12 then 12 else j) ?_ ?_
          · refine ⟨?_, ?_, rfl, rfl, rfl, rfl, ?_⟩
            · repeat' (first | exact trivial | exact rfl | refine And.intro ?_ ?_)
            · repeat' (first | exact trivial | exact rfl | (intro i hi; exact ⟨rfl, rfl⟩) | refine And.intro ?_ ?_)
            · repeat' (first | exact trivial | exact rfl | refine And.intro ?_ ?_)
          · rintro ⟨t, ht⟩
            refine Br.mk (fun h5 => ?_) (fun h5 => ?_)
            · have h5 : (t : Int) < (n : Int) := of_decide_eq_true h5
              refine Chk.mk (show (0 : Int) ≤ (t : Int) ∧ (t : Int) < (n : Int) from ⟨by omega, h5⟩) ?_
              refine fb_storeV 12 3 1 n t 0 (fun q => [.si .i64 (if q < t then (q : Int) else 0)]) (fun q => [.si .i64 (if q < t + 1 then (q : Int) else 0)]) [.si .i64 (t : Int)] (g.ok _ _ _) cont_std rfl rfl rfl rfl rfl rfl rfl rfl rfl rfl ⟨by omega, h5⟩ (Nat.le_of_ble_eq_true rfl) (fun q hq => ?_) ?_
              · show _ = if q = ((t : Int)).toNat then [SV.si .i64 (t : Int)] else _
                by_cases e : q = t
                · subst e
                  rw [if_pos (by omega), if_pos (by omega)]
                · rw [if_neg (c := q = ((t : Int)).toNat) (by omega)]
                  by_cases e2 : q < t
                  · rw [if_pos (by omega), if_pos e2]
                  · rw [if_neg (by omega), if_neg e2]
              refine Chk.mk (show InK .i64 ((t : Int) + 1) from ⟨by omega, by omega⟩) ⟨⟨t + 1, by omega⟩, (fun j => j), ?_, (by show n - (t + 1) < n - t; omega)⟩
              refine ⟨?_, ?_, rfl, rfl, rfl, rfl, ?_⟩
              · repeat' (first | exact trivial | exact rfl | refine And.intro ?_ ?_)
              · repeat' (first | exact trivial | exact rfl | (intro i hi; exact ⟨rfl, rfl⟩) | refine And.intro ?_ ?_)
              · repeat' (first | exact trivial | exact rfl | refine And.intro ?_ ?_)
            · have h5 : ¬ (t : Int) < (n : Int) := of_decide_eq_false h5
              obtain rfl : t = n := by omega
              have hil : intL t (fun q => [SV.si .i64 (if q < t then (q : Int) else 0)]) = (List.range t).map fun i : Nat => (i : Int) := List.map_congr_left fun i hi => by
                show (if i < t then (i : Int) else 0) = i
                rw [if_pos (List.mem_range.1 hi)]
              have hib : ∀ i, i < t → 0 ≤ intAt (fun q => [SV.si .i64 (if q < t then (q : Int) else 0)]) i ∧ intAt (fun q => [SV.si .i64 (if q < t then (q : Int) else 0)]) i < (t : Int) := fun i hi => by
                show (0 : Int) ≤ (if i < t then (i : Int) else 0) ∧ (if i < t then (i : Int) else 0) < (t : Int)
                rw [if_pos hi]
                omega
              have hpre : Rds t (fun i => rdC (rd i)) ∧ blkOk ⟨mk, l1, l2, c1, c2, rdL t fun i => rdC (rd i)⟩ = true ∧ Ints t (fun q => [SV.si .i64 (if q < t then (q : Int) else 0)]) ∧ t ≤ 40 ∧ ∀ i, i < t → 0 ≤ intAt (fun q => [SV.si .i64 (if q < t then (q : Int) else 0)]) i ∧ intAt (fun q => [SV.si .i64 (if q < t then (q : Int) else 0)]) i < (t : Int) :=
                ⟨rds_rd _ _, by rw [hB']; exact hok, fun i hi => rfl, by omega, hib⟩
              refine Chk.mk (under_of hpre) ?_
              refine Br.mk (fun _ => ?_) (fun h6 => by cases h6)
              have hw : clashV B = (0, 4) := by rw [clashV, if_pos herr, hcl]
              rw [hw] at hR
              exact hR _ _ ⟨⟨rfl, rfl⟩, ⟨rfl, rfl⟩, trivial⟩ rfl
  · cases hk
theorem g37 {l : List (Nat × Ct)} (g : Good P T l) : Good P T ((37, c37) :: l) := g.add (k37 g) (wmCt_mono _) (body_of Try.func37 (c := code Try.f37) rfl (by decide))
end Go.X.W
end

section
set_option linter.unusedVariables false
set_option linter.unusedSimpArgs false
set_option linter.unusedSectionVars false
/- Warm: functions of a block that hand back a slice; warm of the document. -/
set_option linter.unusedVariables false
set_option linter.unusedSimpArgs false
set_option maxRecDepth 10000
set_option maxHeartbeats 4000000
namespace Go.X.W
open Go Go.Proofs Go.X

mutual
theorem knSV_upK {n : Nat} {K : List Nat} : ∀ (x : SV), knSV 0 [] x = true → knSV n K x = true
  | .sp i _, h => by rcases kn_ok (by simpa only [knSV] using h) with h | h; exact absurd h (Nat.not_lt_zero _); cases h
  | .se i _ _, h => by rcases kn_ok (by simpa only [knSV] using h) with h | h; exact absurd h (Nat.not_lt_zero _); cases h
  | .sl i, h => by rcases kn_ok (by simpa only [knSV] using h) with h | h; exact absurd h (Nat.not_lt_zero _); cases h
  | .sm i, h => by rcases kn_ok (by simpa only [knSV] using h) with h | h; exact absurd h (Nat.not_lt_zero _); cases h
  | .fy i, h => by rcases kn_ok (by simpa only [knSV] using h) with h | h; exact absurd h (Nat.not_lt_zero _); cases h
  | .ss i _ _ _, h => by rcases kn_ok (by simpa only [knSV] using h) with h | h; exact absurd h (Nat.not_lt_zero _); cases h
  | .agg l, h => by rw [knSV] at h ⊢; exact knL_upK l h
  | .tup l, h => by rw [knSV] at h ⊢; exact knL_upK l h
  | .fn _ a b, h => by
    rw [knSV] at h ⊢
    split at h
    · rename_i e; rw [knL_upK a e]; exact knL_upK b h
    · cases h
  | .ifc _ x, h => by rw [knSV] at h ⊢; exact knSV_upK x h
  | .sv _, _ => by rw [knSV]
  | .si _ _, _ => by rw [knSV]
  | .sb _, _ => by rw [knSV]
theorem knL_upK {n : Nat} {K : List Nat} : ∀ (l : List SV), knL 0 [] l = true → knL n K l = true
  | [], _ => by rw [knL]
  | x :: r, h => by
    rw [knL] at h ⊢
    split at h
    · rename_i e; rw [knSV_upK x e]; exact knL_upK r h
    · cases h
end
def vN (e : Option Int) (i : Nat) : SV := match e with
  | none => .sl i
  | some e => .tup [.sl i, .si .i64 e]
/-- A slice that is handed back: the numbers beside, type and size of its elements, length, elements. -/
structure Bk where
  e : Option Int
  T : Nat
  sz : Nat
  len : Nat
  g : Nat → List SV
def wmCtN (k : Blk → List SV → Option (Option Prop × Bk)) : Ct := fun fr args H =>
  match args with
  | .agg [.si .i64 mk, .si .i64 l1, .si .i64 l2, .si .i64 c1, .si .i64 c2, .sl id] :: r => (match sliceOf 4 H id with
    | some (n, get) => (match k ⟨mk, l1, l2, c1, c2, rdL n get⟩ r with
      | some (p, b) => some ⟨some (Rds n get ∧ knL 0 [] r = true ∧ PreH p), none, vN b.e fr, [(fr, .vec b.T b.sz b.len b.g)]⟩
      | none => none)
    | none => none)
  | _ => none
theorem wmCtN_mono (k : Blk → List SV → Option (Option Prop × Bk)) : CtMono (wmCtN k) := by
  intro fr args H H' out hH h
  unfold wmCtN at h ⊢
  split at h
  · split at h
    · rename_i e
      simp only [sliceOf_mono hH e]
      exact h
    · cases h
  · cases h
theorem wmWalkN (q : Nat) (hq : 1 ≤ q) {C : Nat → Option Ct} {fn : Func} {c : Code} {k : Blk → List SV → Option (Option Prop × Bk)} {fr : Nat} {args : List SV} {H : LH} {out : COut} (ho : wmCtN k fr args H = some out) (hp : PreH out.pre)
    (h : ∀ (mk l1 l2 c1 c2 : Int) (n : Nat) (rd : Nat → Rd) (r : List SV) (p : Option Prop) (b : Bk) (Rv : SV → St → Prop) (Rp : List PanicEntry → St → Prop), k ⟨mk, l1, l2, c1, c2, (List.range n).map rd⟩ r = some (p, b) → PreH p →
      (∀ v' st m g', SVeq v' (vN b.e q) → findH st.H q = some (.vec b.T b.sz m g') → m = b.len → (∀ i, i < b.len → g' i = b.g i ∧ knL 0 [] (g' i) = true) → Rv v' st) → r.length + 1 ≤ fn.ntmps ∧
      ∀ G : Base, (∀ j, 1 ≤ j → G.ρ j = none) → exec ⟨P, T, C, G, none, fn.ntmps⟩ c (start (wA mk l1 l2 c1 c2 0 :: r) [(0, .ro 4 n fun i => rdC (rd i))] 1) (Fin ⟨P, T, C, G, none, fn.ntmps⟩ fn.results.toList Rv Rp)) :
    Walk P T C fn c H args fr out := by
  unfold wmCtN at ho
  split at ho
  · rename_i mk l1 l2 c1 c2 id r
    split at ho
    · rename_i n get e
      split at ho
      · rename_i p b hk
        cases ho
        obtain ⟨hs, hr, hp⟩ : Rds n get ∧ knL 0 [] r = true ∧ PreH p := hp
        have hh : Hand H [(id, .ro 4 n fun i => rdC (rdAt get i))] := hand_one e (fun i => rfl) (fun i hi => (hs i hi).symm)
        have hble : Nat.ble (q + 1) 1 = false := by
          cases h : Nat.ble (q + 1) 1 with
          | false => rfl
          | true => have := Nat.le_of_ble_eq_true h; omega
        have hrq : rOf 1 [(id, .ro 4 n fun i => rdC (rdAt get i))] [q] fr q = fr := by
          simp only [rOf, hble, idxN, Nat.beq_refl]
          rfl
        have hkq : kn 1 [q] q = true := by
          rw [kn, hble]
          exact memN_iff.2 List.mem_cons_self
        have h0 := h mk l1 l2 c1 c2 n (rdAt get) r p b (fun v' st => ((none : Option (Bool × List PanicEntry)) = none ∨ ∃ ch, (none : Option (Bool × List PanicEntry)) = some (false, ch)) ∧ EndOk [(id, .ro 4 n fun i => rdC (rdAt get i))] [q] fr ⟨some (Rds n get ∧ knL 0 [] r = true ∧ PreH p), none, vN b.e fr, [(fr, .vec b.T b.sz b.len b.g)]⟩ v' st)
          (fun ch st => (none : Option (Bool × List PanicEntry)) = some (true, ch) ∧ keepP st.H [(0, .ro 4 n fun i => rdC (rdAt get i))]) hk hp
          (fun v' st m g' h1 h2 h3 h4 => ⟨.inl rfl, {
            val := by
              rw [SVeq_eq _ _ h1]
              show SVeq (renSV (rOf 1 [(id, .ro 4 n fun i => rdC (rdAt get i))] [q] fr) (vN b.e q)) (vN b.e fr)
              unfold vN
              split
              · simp only [renSV, hrq]; rfl
              · simp only [renSV, renL, hrq]; exact ⟨rfl, ⟨rfl, rfl⟩, trivial⟩
            vin := by
              rw [SVeq_eq _ _ h1]
              show knSV 1 [q] (vN b.e q) = true
              unfold vN
              split
              · simp only [knSV, hkq]
              · simp only [knSV, knL, hkq]
            news := by
              refine ⟨rfl, ?_, trivial⟩
              simp only [h2]
              subst h3
              refine ⟨rfl, rfl, rfl, fun i hi => ?_⟩
              obtain ⟨h5, h6⟩ := h4 i hi
              exact ⟨by rw [renL_none _ h6]; exact h5, knL_upK _ h6⟩
            keep := ⟨trivial, trivial⟩
            kge := by
              have h1 : Nat.ble 1 q = true := Nat.ble_eq_true_of_le hq
              show (match Nat.ble 1 q, memN [] q with
                | true, false => okK 1 []
                | _, _ => false) = true
              rw [h1]
              rfl
            short := rfl }⟩)
        refine ⟨[(id, .ro 4 n fun i => rdC (rdAt get i))], wA mk l1 l2 c1 c2 0 :: r, [(0, .ro 4 n fun i => rdC (rdAt get i))], 1, [q], ?_, ?_, h0.1, hh, rfl, rfl, h0.2⟩
        · show _ = renSV _ _ :: renL _ r
          rw [renL_none r hr]
          rfl
        · show (match knSV 1 [] (wA mk l1 l2 c1 c2 0) with
            | true => knL 1 [] r
            | false => false) = true
          exact knL_up r hr
      · cases ho
    · cases ho
  · cases ho

/-! ### warm -/
/-- What a reading can have been made at, up to a warmth. -/
def hitL (mk : Int) (p : Int × Int) (r : Rd) (t : Int) : List Int := (iota r.1 (t - 1)).filter (hitB mk p r)
theorem hitL_first (mk : Int) (p : Int × Int) (r : Rd) : hitL mk p r r.1 = [] := by
  unfold hitL
  rw [iota_nil (by omega)]
  rfl
theorem hitL_next {mk : Int} {p : Int × Int} {r : Rd} {t : Int} (h : r.1 ≤ t) : hitL mk p r (t + 1) = hitL mk p r t ++ (if hitB mk p r t = true then [t] else []) := by
  unfold hitL
  rw [show t + 1 - 1 = t by omega, iota_snoc h, List.filter_append]
  congr 1
  simp only [List.filter_cons, List.filter_nil]
theorem hitL_len {mk : Int} {p : Int × Int} {r : Rd} {t : Int} : (hitL mk p r t).length ≤ (t - r.1).toNat := by
  unfold hitL
  refine Nat.le_trans (List.length_filter_le _ _) ?_
  rw [iota_len]
  omega
theorem hitL_last (mk : Int) (p : Int × Int) (r : Rd) : hitL mk p r (r.2.1 + 1) = warmV mk p r := by
  unfold hitL warmV
  rw [show r.2.1 + 1 - 1 = r.2.1 by omega]
theorem lC_snoc (L : List Int) (t : Int) (j : Nat) (hj : j < L.length + 1) : lC (L ++ [t]) j = if j < L.length then lC L j else lC [t] (j - L.length) := by
  unfold lC
  rw [List.getD_eq_getElem?_getD, List.getElem?_append]
  split
  · rw [List.getD_eq_getElem?_getD]
  · rw [List.getD_eq_getElem?_getD]
def warmK (B : Blk) (r : List SV) : Option (Option Prop × Bk) := match r with
  | [.agg [.si .i64 n, .si .i64 a], .si .i64 i] => some (some (blkOk B = true ∧ smB 1000000 n ∧ smB 1000 a ∧ 0 ≤ i ∧ i < (B.rs.length : Int)), ⟨none, 3, 1, (warmV B.mark (n, a) (rdGet B.rs i)).length, lC (warmV B.mark (n, a) (rdGet B.rs i))⟩)
  | _ => none
theorem k78 {l : List (Nat × Ct)} (g0 : Good P T l) : COk P 78 (wmCtN warmK) := by
  have g := g17 (g54 g0)
  refine cok (C := tabC _) g.ok Try.func78 (c := code Try.f78) rfl fun fr args H out h hp => wmWalkN 4 (by decide) h hp fun mk l1 l2 c1 c2 n rd r p b Rv Rp hk hp hR => ?_
  unfold warmK at hk
  split at hk
  · rename_i x a i
    cases hk
    obtain ⟨hok, hx, ha, hi0, hi1⟩ : blkOk ⟨mk, l1, l2, c1, c2, (List.range n).map rd⟩ = true ∧ smB 1000000 x ∧ smB 1000 a ∧ 0 ≤ i ∧ i < (((List.range n).map rd).length : Int) := hp
    have hi1 : i < (n : Int) := by simpa using hi1
    refine ⟨Nat.le_of_ble_eq_true rfl, fun G hG => ?_⟩
    rw [rdGet_map hi0 hi1] at hR
    obtain ⟨hmk, hl, hc, hn, hr⟩ := blk_b hok
    simp only at hmk hl hc
    have hr0 := rdOk_b (hr _ (List.mem_map.2 ⟨i.toNat, List.mem_range.2 (by omega), rfl⟩))
    refine Chk.mk (show 0 ≤ i ∧ i < (n : Int) from ⟨hi0, hi1⟩) ?_
    refine nil_slot 8 3 1 (lC []) rfl ?_
    refine loop_okR (g.ok _ _ _) 4 (fun z : {t : Int // (rd i.toNat).1 ≤ t ∧ t ≤ (rd i.toNat).2.1 + 1} => ⟨[(3, ⟨[], .sp 1 0⟩), (4, ⟨[], .sp 2 0⟩), (7, ⟨[], .sp 3 0⟩), (8, ⟨[], .sl 4⟩), (9, ⟨[], .si .i64 z.1⟩)], [],
      [(4, .vec 3 1 (hitL mk (x, a) (rd i.toNat) z.1).length (lC (hitL mk (x, a) (rd i.toNat) z.1))), (3, .cells 41 (rdC (rd i.toNat))), (2, .cells 39 [.si .i64 x, .si .i64 a]), (1, .cells 36 (bC mk l1 l2 c1 c2 0)), (0, .ro 4 n fun i => rdC (rd i))], 5, []⟩)
      (fun z => ((rd i.toNat).2.1 + 1 - z.1).toNat) (fun j hj => hG j (by omega)) ⟨(rd i.toNat).1, by omega, by omega⟩ (fun j => j) ?_ ?_
    · refine ⟨?_, ?_, rfl, rfl, rfl, rfl, trivial⟩
      · repeat' (first | exact trivial | exact rfl | refine And.intro ?_ ?_)
      · rw [hitL_first]
        repeat' (first | exact trivial | exact rfl | (intro i hi; exact ⟨rfl, rfl⟩) | refine And.intro ?_ ?_)
    · rintro ⟨t, ht1, ht2⟩
      have hlen := hitL_len (mk := mk) (p := (x, a)) (r := rd i.toNat) (t := t)
      refine Br.mk (fun h => ?_) (fun h => ?_)
      · have h : t ≤ (rd i.toNat).2.1 := of_decide_eq_true h
        have hnx := hitL_next (mk := mk) (p := (x, a)) (r := rd i.toNat) (t := t) ht1
        refine drawn_ok (g.ok _ _ _) fol [0,0,0,7,0,16,48,0,128,384,1023] [] 11 (by kernel_rfl) ?_
        refine Chk.mk ⟨rds_rd _ _, rfl, hx, (show smB 1000 mk from ⟨by omega, by omega⟩), ha, (show smB 1000 t from ⟨by omega, by omega⟩)⟩ ?_
        refine Br.mk (fun h2 => ?_) (fun h2 => ?_)
        · have h2 : hitB mk (x, a) (rd i.toNat) t = true := h2
          rw [if_pos h2] at hnx
          refine fb_append (Te := 0) 4 49 (hitL mk (x, a) (rd i.toNat) t).length 1 _ _ (lC (hitL mk (x, a) (rd i.toNat) (t + 1))) (g.ok _ _ _) cont_std rfl rfl rfl rfl rfl rfl rfl rfl rfl rfl rfl rfl (by decide) (by decide) rfl rfl rfl rfl (by omega) ?_ ?_
          · intro j hj
            rw [hnx, lC_snoc _ _ _ hj]
            by_cases hlt : j < (hitL mk (x, a) (rd i.toNat) t).length
            · rw [if_pos hlt, if_pos hlt]
            · rw [if_neg hlt, if_neg hlt, show j - (hitL mk (x, a) (rd i.toNat) t).length = 0 by omega]
              rfl
          refine Chk.mk (show InK .i64 (t + 1) from ⟨by omega, by omega⟩) ⟨⟨t + 1, by omega, by omega⟩, (fun j => if j = 4 then 50 else j), ?_, (by show ((rd i.toNat).2.1 + 1 - (t + 1)).toNat < ((rd i.toNat).2.1 + 1 - t).toNat; omega)⟩
          refine ⟨?_, ?_, rfl, rfl, rfl, rfl, trivial⟩
          · repeat' (first | exact trivial | exact rfl | refine And.intro ?_ ?_)
          · repeat' (first | exact trivial | exact rfl | (intro i hi; exact ⟨rfl, rfl⟩) | refine And.intro ?_ ?_)
            show (hitL mk (x, a) (rd i.toNat) t).length + 1 = (hitL mk (x, a) (rd i.toNat) (t + 1)).length
            rw [hnx, List.length_append]
            rfl
        · have h2 : hitB mk (x, a) (rd i.toNat) t = false := h2
          rw [h2, if_neg Bool.false_ne_true, List.append_nil] at hnx
          refine Chk.mk (show InK .i64 (t + 1) from ⟨by omega, by omega⟩) ⟨⟨t + 1, by omega, by omega⟩, (fun j => j), ?_, (by show ((rd i.toNat).2.1 + 1 - (t + 1)).toNat < ((rd i.toNat).2.1 + 1 - t).toNat; omega)⟩
          refine ⟨?_, ?_, rfl, rfl, rfl, rfl, trivial⟩
          · repeat' (first | exact trivial | exact rfl | refine And.intro ?_ ?_)
          · show weakRH _ _ _ [(4, .vec 3 1 (hitL mk (x, a) (rd i.toNat) (t + 1)).length (lC (hitL mk (x, a) (rd i.toNat) (t + 1)))), (3, .cells 41 (rdC (rd i.toNat))), (2, .cells 39 [.si .i64 x, .si .i64 a]), (1, .cells 36 (bC mk l1 l2 c1 c2 0)), (0, .ro 4 n fun i => rdC (rd i))]
            rw [hnx]
            repeat' (first | exact trivial | exact rfl | (intro i hi; exact ⟨rfl, rfl⟩) | refine And.intro ?_ ?_)
      · have h : ¬ t ≤ (rd i.toNat).2.1 := of_decide_eq_false h
        obtain rfl : t = (rd i.toNat).2.1 + 1 := by omega
        have hl := hitL_last mk (x, a) (rd i.toNat)
        exact hR _ _ _ _ rfl rfl (by rw [hl]) fun j hj => ⟨by rw [hl], rfl⟩
  · cases hk
theorem g78 {l : List (Nat × Ct)} (g : Good P T l) : Good P T ((78, wmCtN warmK) :: l) := g.add (k78 g) (wmCtN_mono _) (body_of Try.func78 (c := code Try.f78) rfl (by decide))
end Go.X.W
end

section
set_option linter.unusedVariables false
set_option linter.unusedSimpArgs false
set_option linter.unusedSectionVars false
/- Warm: pairs of the document. -/
set_option linter.unusedVariables false
set_option linter.unusedSimpArgs false
set_option maxRecDepth 10000
set_option maxHeartbeats 4000000
namespace Go.X.W
open Go Go.Proofs Go.X

def pC (L : List Pr) : Nat → List SV := fun i => [.si .i64 (L.getD i (0, 0)).1, .si .i64 (L.getD i (0, 0)).2]
theorem pC_snoc (L : List Pr) (t : Pr) (j : Nat) (hj : j < L.length + 1) : pC (L ++ [t]) j = if j < L.length then pC L j else pC [t] (j - L.length) := by
  unfold pC
  rw [List.getD_eq_getElem?_getD, List.getElem?_append]
  split
  · rw [List.getD_eq_getElem?_getD]
  · rw [List.getD_eq_getElem?_getD]
def hasB (set : Int) (i : Nat) : Bool := decide ((set.tdiv (2 ^ i)).tmod 2 = 1)
/-- Is a pair right by the readings of a set? -/
def okS (mk : Int) (n : Nat) (rd : Nat → Rd) (set : Int) (p : Pr) : Bool := (List.range n).all fun i => !hasB set i || canV mk p (rd i)
def okB' (B : Blk) (set : Int) (p : Pr) : Bool := okS B.mark B.rs.length (fun i => rdGet B.rs (i : Int)) set p
/-- All pairs by the readings of a set. -/
def pairsS (B : Blk) (set : Int) : List Pr := rows (okB' B set) B.l1 B.c1 B.c2 (B.l2 + 1)
def pairsK (B : Blk) (r : List SV) : Option (Option Prop × Bk) := match r with
  | [.si .i64 set] => some (some (blkOk B = true ∧ 0 ≤ set ∧ set < 1000000), ⟨none, 39, 2, (pairsS B set).length, pC (pairsS B set)⟩)
  | _ => none
theorem okB_map (mk l1 l2 c1 c2 : Int) (n : Nat) (rd : Nat → Rd) (set : Int) : okB' ⟨mk, l1, l2, c1, c2, (List.range n).map rd⟩ set = okS mk n rd set := by
  funext p
  unfold okB' okS
  simp only [List.length_map, List.length_range]
  rw [Bool.eq_iff_iff, List.all_eq_true, List.all_eq_true]
  refine forall_congr' fun i => imp_congr_right fun hi => ?_
  rw [rdGet_map (by omega) (by have := List.mem_range.1 hi; omega)]
  rfl
theorem canV_len (mk : Int) (p : Pr) (r : Rd) : decide ((0 : Int) < ((warmV mk p r).length : Int)) = canV mk p r := by
  unfold warmV canV
  rw [Bool.eq_iff_iff, decide_eq_true_eq, List.any_eq_true]
  constructor
  · intro h
    have h : 0 < ((iota r.1 r.2.1).filter (hitB mk p r)).length := by omega
    obtain ⟨t, ht⟩ := List.exists_mem_of_length_pos h
    rw [List.mem_filter] at ht
    exact ⟨t, ht.1, ht.2⟩
  · rintro ⟨t, h1, h2⟩
    have : t ∈ (iota r.1 r.2.1).filter (hitB mk p r) := List.mem_filter.2 ⟨h1, h2⟩
    have := List.length_pos_of_mem this
    omega

theorem k97 {l : List (Nat × Ct)} (g0 : Good P T l) : COk P 97 (wmCtN pairsK) := by
  have g := g112 (g78 g0)
  refine cok (C := tabC _) g.ok Try.func97 (c := code Try.f97) rfl fun fr args H out h hp => wmWalkN 2 (by decide) h hp fun mk l1 l2 c1 c2 n rd r p b Rv Rp hk hp hR => ?_
  unfold pairsK at hk
  split at hk
  · rename_i set
    cases hk
    obtain ⟨hok, hs0, hs1⟩ : blkOk ⟨mk, l1, l2, c1, c2, (List.range n).map rd⟩ = true ∧ 0 ≤ set ∧ set < 1000000 := hp
    refine ⟨Nat.le_of_ble_eq_true rfl, fun G hG => ?_⟩
    have hpv : pairsS ⟨mk, l1, l2, c1, c2, (List.range n).map rd⟩ set = rows (okS mk n rd set) l1 c1 c2 (l2 + 1) := by rw [pairsS, okB_map]
    rw [hpv] at hR
    obtain ⟨hmk, hl, hc, hn, hr⟩ := blk_b hok
    simp only at hmk hl hc
    have hn : n ≤ 5 := by simpa using hn
    refine nil_slot 5 39 2 (pC []) rfl ?_
    refine loop_okR (g.ok _ _ _) 2 (fun z : {t : Int // l1 ≤ t ∧ t ≤ l2 + 1} => ⟨[(1, ⟨[], .si .i64 set⟩), (2, ⟨[], .sp 1 0⟩), (5, ⟨[], .sl 2⟩), (6, ⟨[], .si .i64 z.1⟩)], [],
      [(2, .vec 39 2 (rows (okS mk n rd set) l1 c1 c2 z.1).length (pC (rows (okS mk n rd set) l1 c1 c2 z.1))), (1, .cells 36 (bC mk l1 l2 c1 c2 0)), (0, .ro 4 n fun i => rdC (rd i))], 3, []⟩)
      (fun z => (l2 + 1 - z.1).toNat) (fun j hj => hG j (by omega)) ⟨l1, by omega, by omega⟩ (fun j => j) ?_ ?_
    · refine ⟨?_, ?_, rfl, rfl, rfl, rfl, trivial⟩
      · repeat' (first | exact trivial | exact rfl | refine And.intro ?_ ?_)
      · rw [rows_first]
        repeat' (first | exact trivial | exact rfl | (intro i hi; exact ⟨rfl, rfl⟩) | refine And.intro ?_ ?_)
    · rintro ⟨t, ht1, ht2⟩
      have hlen := rows_len (okS mk n rd set) l1 c1 c2 (by omega) (t - l1).toNat
      rw [show l1 + (((t - l1).toNat : Nat) : Int) = t by omega] at hlen
      refine Br.mk (fun h => ?_) (fun h => ?_)
      · have h : t ≤ l2 := of_decide_eq_true h
        refine loop_okR (g.ok _ _ _) 2 (fun z : {a : Int // c1 ≤ a ∧ a ≤ c2 + 1} => ⟨[(1, ⟨[], .si .i64 set⟩), (2, ⟨[], .sp 1 0⟩), (5, ⟨[], .sl 2⟩), (6, ⟨[], .si .i64 t⟩), (7, ⟨[], .si .i64 z.1⟩)], [],
          [(2, .vec 39 2 (rows (okS mk n rd set) l1 c1 c2 t ++ row (okS mk n rd set) t c1 z.1).length (pC (rows (okS mk n rd set) l1 c1 c2 t ++ row (okS mk n rd set) t c1 z.1))), (1, .cells 36 (bC mk l1 l2 c1 c2 0)), (0, .ro 4 n fun i => rdC (rd i))], 3, []⟩)
          (fun z => (c2 + 1 - z.1).toNat) (fun j hj => hG j (by omega)) ⟨c1, by omega, by omega⟩ (fun j => j) ?_ ?_
        · refine ⟨?_, ?_, rfl, rfl, rfl, rfl, trivial⟩
          · repeat' (first | exact trivial | exact rfl | refine And.intro ?_ ?_)
          · rw [row_first, List.append_nil]
            repeat' (first | exact trivial | exact rfl | (intro i hi; exact ⟨rfl, rfl⟩) | refine And.intro ?_ ?_)
        · rintro ⟨a, ha1, ha2⟩
          have hlen2 := row_len (okS mk n rd set) t c1 a
          refine Br.mk (fun h2 => ?_) (fun h2 => ?_)
          · have h2 : a ≤ c2 := of_decide_eq_true h2
            have hrn := row_next (q := okS mk n rd set) (n := t) (c1 := c1) (a := a) ha1
            refine loop_okR (g.ok _ _ _) 3 (fun z : {x : Nat × Bool // x.1 ≤ n ∧ ((List.range x.1).all fun i => !hasB set i || canV mk (t, a) (rd i)) = x.2} => ⟨[(1, ⟨[], .si .i64 set⟩), (2, ⟨[], .sp 1 0⟩), (5, ⟨[], .sl 2⟩), (6, ⟨[], .si .i64 t⟩), (7, ⟨[], .si .i64 a⟩), (8, ⟨[], .sb z.1.2⟩), (9, ⟨[], .si .i64 (z.1.1 : Nat)⟩)], [],
              [(2, .vec 39 2 (rows (okS mk n rd set) l1 c1 c2 t ++ row (okS mk n rd set) t c1 a).length (pC (rows (okS mk n rd set) l1 c1 c2 t ++ row (okS mk n rd set) t c1 a))), (1, .cells 36 (bC mk l1 l2 c1 c2 0)), (0, .ro 4 n fun i => rdC (rd i))], 3, []⟩)
              (fun z => n - z.1.1) (fun j hj => hG j (by omega)) ⟨(0, true), Nat.zero_le _, rfl⟩ (fun j => j) ?_ ?_
            · refine ⟨?_, ?_, rfl, rfl, rfl, rfl, trivial⟩
              · repeat' (first | exact trivial | exact rfl | refine And.intro ?_ ?_)
              · repeat' (first | exact trivial | exact rfl | (intro i hi; exact ⟨rfl, rfl⟩) | refine And.intro ?_ ?_)
            · rintro ⟨⟨i, b⟩, hi, hb⟩
              simp only at hi hb
              refine Br.mk (fun h3 => ?_) (fun h3 => ?_)
              · have hi3 : (i : Int) < (n : Int) := of_decide_eq_true h3
                have hsuc := all_succ (q := fun i => !hasB set i || canV mk (t, a) (rd i)) (i := i)
                cases b with
                | false =>
                  refine Chk.mk (under_of (show (i : Int) ≤ 62 ∧ 0 ≤ set ∧ set < 4611686018427387904 from ⟨by omega, hs0, by omega⟩)) ?_
                  refine fb_skip 38 true (g.ok _ _ _) cont_std rfl rfl rfl rfl rfl rfl rfl trivial rfl ?_
                  refine fb_skip 38 true (g.ok _ _ _) cont_std rfl rfl rfl rfl rfl rfl rfl trivial rfl ?_
                  refine fb_skip 38 true (g.ok _ _ _) cont_std rfl rfl rfl rfl rfl rfl rfl trivial rfl ?_
                  refine Chk.mk (show InK .i64 ((i : Int) + 1) from ⟨by omega, by omega⟩) ⟨⟨(i + 1, false), by omega, by rw [hsuc, hb]; rfl⟩, (fun j => j), ?_, (by show n - (i + 1) < n - i; omega)⟩
                  refine ⟨?_, ?_, rfl, rfl, rfl, rfl, trivial⟩
                  · repeat' (first | exact trivial | exact rfl | refine And.intro ?_ ?_)
                  · repeat' (first | exact trivial | exact rfl | (intro i hi; exact ⟨rfl, rfl⟩) | refine And.intro ?_ ?_)
                | true =>
                  refine Chk.mk (under_of (show (i : Int) ≤ 62 ∧ 0 ≤ set ∧ set < 4611686018427387904 from ⟨by omega, hs0, by omega⟩)) ?_
                  cases hh : hasB set i with
                  | false =>
                    rw [hh] at hsuc
                    refine fb_skip 43 false (g.ok _ _ _) cont_std rfl rfl rfl rfl rfl rfl rfl ⟨trivial, rfl, rfl⟩ (by show (!hasB set i) = !false; rw [hh]) ?_
                    refine fb_skip 43 false (g.ok _ _ _) cont_std rfl rfl rfl rfl rfl rfl rfl ⟨trivial, rfl, rfl⟩ (by show (!hasB set i) = !false; rw [hh]) ?_
                    refine fb_skip 43 false (g.ok _ _ _) cont_std rfl rfl rfl rfl rfl rfl rfl ⟨trivial, rfl, rfl⟩ (by show (!hasB set i) = !false; rw [hh]) ?_
                    refine Chk.mk (show InK .i64 ((i : Int) + 1) from ⟨by omega, by omega⟩) ⟨⟨(i + 1, true), by omega, by rw [hsuc, hb]; rfl⟩, (fun j => j), ?_, (by show n - (i + 1) < n - i; omega)⟩
                    refine ⟨?_, ?_, rfl, rfl, rfl, rfl, trivial⟩
                    · repeat' (first | exact trivial | exact rfl | (show (true && (!hasB set i || false)) = true; rw [hh]; rfl) | refine And.intro ?_ ?_)
                    · repeat' (first | exact trivial | exact rfl | (intro i hi; exact ⟨rfl, rfl⟩) | refine And.intro ?_ ?_)
                  | true =>
                    rw [hh] at hsuc
                    refine fb_run rfl rfl ⟨⟨trivial, rfl, rfl⟩, rfl, (by show (!hasB set i) = false; rw [hh]; rfl)⟩ ?_
                    refine fb_again (g.ok _ _ _) cont_std rfl ?_
                    have hlr : (i : Int) < ((rdL n fun i => rdC (rd i)).length : Int) := by simpa [rdL] using hi3
                    refine Chk.mk ⟨rds_rd _ _, rfl, hok, (show smB 1000000 t from ⟨by omega, by omega⟩), (show smB 1000 a from ⟨by omega, by omega⟩), (show (0 : Int) ≤ (i : Int) by omega), hlr⟩ ?_
                    have hrg : rdGet (rdL n fun i => rdC (rd i)) (i : Int) = rd i := rdGet_map (by omega) hi3
                    refine Chk.mk (show InK .i64 ((i : Int) + 1) from ⟨by omega, by omega⟩) ⟨⟨(i + 1, canV mk (t, a) (rd i)), by omega, by rw [hsuc, hb]; rfl⟩, (fun j => j), ?_, (by show n - (i + 1) < n - i; omega)⟩
                    refine ⟨?_, ?_, rfl, rfl, rfl, rfl, trivial⟩
                    · repeat' (first | exact trivial | exact rfl | (show (true && (!hasB set i || decide ((0 : Int) < ((warmV mk (t, a) (rdGet (rdL n fun i => rdC (rd i)) (i : Int))).length : Int)))) = canV mk (t, a) (rd i); rw [hh, hrg, canV_len]; rfl) | refine And.intro ?_ ?_)
                    · repeat' (first | exact trivial | exact rfl | (intro i hi; exact ⟨rfl, rfl⟩) | refine And.intro ?_ ?_)
              · have h3 : ¬ (i : Int) < (n : Int) := of_decide_eq_false h3
                obtain rfl : i = n := by omega
                have hok' : okS mk i rd set (t, a) = b := hb
                rw [hok'] at hrn
                cases b with
                | false =>
                  rw [if_neg Bool.false_ne_true, List.append_nil] at hrn
                  refine Br.mk (fun h => by cases h) (fun _ => ?_)
                  refine Chk.mk (show InK .i64 (a + 1) from ⟨by omega, by omega⟩) ⟨⟨a + 1, by omega, by omega⟩, (fun j => j), ?_, (by show (c2 + 1 - (a + 1)).toNat < (c2 + 1 - a).toNat; omega)⟩
                  refine ⟨?_, ?_, rfl, rfl, rfl, rfl, trivial⟩
                  · repeat' (first | exact trivial | exact rfl | refine And.intro ?_ ?_)
                  · show weakRH _ _ _ [(2, .vec 39 2 (rows (okS mk i rd set) l1 c1 c2 t ++ row (okS mk i rd set) t c1 (a + 1)).length (pC (rows (okS mk i rd set) l1 c1 c2 t ++ row (okS mk i rd set) t c1 (a + 1)))), (1, .cells 36 (bC mk l1 l2 c1 c2 0)), (0, .ro 4 i fun i => rdC (rd i))]
                    rw [hrn]
                    repeat' (first | exact trivial | exact rfl | (intro i hi; exact ⟨rfl, rfl⟩) | refine And.intro ?_ ?_)
                | true =>
                  rw [if_pos rfl] at hrn
                  refine Br.mk (fun _ => ?_) (fun h => by cases h)
                  refine fb_append (Te := 0) 2 3 (rows (okS mk i rd set) l1 c1 c2 t ++ row (okS mk i rd set) t c1 a).length 1 _ _ (pC (rows (okS mk i rd set) l1 c1 c2 t ++ row (okS mk i rd set) t c1 (a + 1))) (g.ok _ _ _) cont_std rfl rfl rfl rfl rfl rfl rfl rfl rfl rfl rfl rfl (by decide) (by decide) rfl rfl rfl rfl ?_ ?_ ?_
                  · rw [List.length_append]
                    omega
                  · intro j hj
                    rw [hrn, ← List.append_assoc, pC_snoc _ _ _ hj]
                    by_cases hlt : j < (rows (okS mk i rd set) l1 c1 c2 t ++ row (okS mk i rd set) t c1 a).length
                    · rw [if_pos hlt, if_pos hlt]
                    · rw [if_neg hlt, if_neg hlt, show j - (rows (okS mk i rd set) l1 c1 c2 t ++ row (okS mk i rd set) t c1 a).length = 0 by omega]
                      rfl
                  refine Chk.mk (show InK .i64 (a + 1) from ⟨by omega, by omega⟩) ⟨⟨a + 1, by omega, by omega⟩, (fun j => if j = 2 then 4 else j), ?_, (by show (c2 + 1 - (a + 1)).toNat < (c2 + 1 - a).toNat; omega)⟩
                  refine ⟨?_, ?_, rfl, rfl, rfl, rfl, trivial⟩
                  · repeat' (first | exact trivial | exact rfl | refine And.intro ?_ ?_)
                  · repeat' (first | exact trivial | exact rfl | (intro i hi; exact ⟨rfl, rfl⟩) | refine And.intro ?_ ?_)
                    show (rows (okS mk i rd set) l1 c1 c2 t ++ row (okS mk i rd set) t c1 a).length + 1 = (rows (okS mk i rd set) l1 c1 c2 t ++ row (okS mk i rd set) t c1 (a + 1)).length
                    rw [hrn]
                    simp only [List.length_append, List.length_cons, List.length_nil]
                    omega
          · have h2 : ¬ a ≤ c2 := of_decide_eq_false h2
            obtain rfl : a = c2 + 1 := by omega
            have hrs := rows_next (q := okS mk n rd set) (l1 := l1) (c1 := c1) (c2 := c2) (n := t) ht1
            refine Chk.mk (show InK .i64 (t + 1) from ⟨by omega, by omega⟩) ⟨⟨t + 1, by omega, by omega⟩, (fun j => j), ?_, (by show (l2 + 1 - (t + 1)).toNat < (l2 + 1 - t).toNat; omega)⟩
            refine ⟨?_, ?_, rfl, rfl, rfl, rfl, trivial⟩
            · repeat' (first | exact trivial | exact rfl | refine And.intro ?_ ?_)
            · rw [← hrs]
              repeat' (first | exact trivial | exact rfl | (intro i hi; exact ⟨rfl, rfl⟩) | refine And.intro ?_ ?_)
      · have h : ¬ t ≤ l2 := of_decide_eq_false h
        obtain rfl : t = l2 + 1 := by omega
        exact hR _ _ _ _ rfl rfl rfl fun j hj => ⟨rfl, rfl⟩
  · cases hk
theorem g97 {l : List (Nat × Ct)} (g : Good P T l) : Good P T ((97, wmCtN pairsK) :: l) := g.add (k97 g) (wmCtN_mono _) (body_of Try.func97 (c := code Try.f97) rfl (by decide))
end Go.X.W
end

section
set_option linter.unusedVariables false
set_option linter.unusedSimpArgs false
set_option linter.unusedSectionVars false
/- Warm: Pairs and told of the document. -/
set_option linter.unusedVariables false
set_option linter.unusedSimpArgs false
set_option maxRecDepth 10000
set_option maxHeartbeats 4000000
namespace Go.X.W
open Go Go.Proofs Go.X

theorem has_every : ∀ n : Nat, n ≤ 5 → ∀ i, i < n → hasB (2 ^ n - 1) i = true := by decide
theorem pairsS_every {B : Blk} (h : B.rs.length ≤ 5) : pairsS B (2 ^ B.rs.length - 1) = pairsV B := by
  unfold pairsS pairsV
  congr 1
  funext p
  unfold okB' okS okP
  rw [Bool.eq_iff_iff, List.all_eq_true, List.all_eq_true]
  constructor
  · intro h1 r hr
    obtain ⟨i, hi, rfl⟩ := List.getElem_of_mem hr
    have h2 := h1 i (List.mem_range.2 hi)
    rw [has_every _ h i hi] at h2
    have h3 : rdGet B.rs (i : Int) = B.rs[i] := by
      unfold rdGet
      rw [List.getD_eq_getElem?_getD, show ((i : Int)).toNat = i from rfl, List.getElem?_eq_getElem hi]
      rfl
    have h2 : (!true || canV B.mark p (rdGet B.rs (i : Int))) = true := h2
    rw [h3] at h2
    simpa using h2
  · intro h1 i hi
    have hi := List.mem_range.1 hi
    rw [has_every _ h i hi]
    have h3 : rdGet B.rs (i : Int) = B.rs[i] := by
      unfold rdGet
      rw [List.getD_eq_getElem?_getD, show ((i : Int)).toNat = i from rfl, List.getElem?_eq_getElem hi]
      rfl
    show (!true || canV B.mark p (rdGet B.rs (i : Int))) = true
    rw [h3, h1 _ (List.getElem_mem hi)]
    rfl
def allK (B : Blk) (r : List SV) : Option (Option Prop × Bk) := match r with
  | [] => some (some (blkOk B = true), ⟨none, 39, 2, (pairsV B).length, pC (pairsV B)⟩)
  | _ => none
theorem pow_le5 {n : Nat} (h : n ≤ 5) : (1 : Int) ≤ 2 ^ n ∧ (2 : Int) ^ n ≤ 32 := by
  rcases (show n = 0 ∨ n = 1 ∨ n = 2 ∨ n = 3 ∨ n = 4 ∨ n = 5 by omega) with h | h | h | h | h | h <;> subst h <;> decide
theorem k86 {l : List (Nat × Ct)} (g0 : Good P T l) : COk P 86 (wmCtN allK) := by
  have g := g96 (g97 g0)
  refine cok (C := tabC _) g.ok Try.func86 (c := code Try.f86) rfl fun fr args H out h hp => wmWalkN 14 (by decide) h hp fun mk l1 l2 c1 c2 n rd r p b Rv Rp hk hp hR => ?_
  unfold allK at hk
  split at hk
  · cases hk
    have hok : blkOk ⟨mk, l1, l2, c1, c2, (List.range n).map rd⟩ = true := hp
    have hn : n ≤ 5 := by simpa using (blk_b hok).2.2.2.1
    refine ⟨Nat.le_of_ble_eq_true rfl, fun G hG => ?_⟩
    have hb := pow_le5 hn
    have hlen : (rdL n fun i => rdC (rd i)).length = n := by simp [rdL]
    have hpe : pairsS ⟨mk, l1, l2, c1, c2, rdL n fun i => rdC (rd i)⟩ (2 ^ (rdL n fun i => rdC (rd i)).length - 1) = pairsV ⟨mk, l1, l2, c1, c2, (List.range n).map rd⟩ := pairsS_every (B := ⟨mk, l1, l2, c1, c2, rdL n fun i => rdC (rd i)⟩) (by simp only; omega)
    refine drawn_ok (g.ok _ _ _) fol [0,0,2,7,15] [] 5 (by kernel_rfl) ?_
    refine Chk.mk ⟨rds_rd _ _, rfl, (show (rdL n fun i => rdC (rd i)).length ≤ 40 by omega)⟩ ?_
    refine Chk.mk ⟨rds_rd _ _, rfl, hok, (show (0 : Int) ≤ 2 ^ (rdL n fun i => rdC (rd i)).length - 1 by rw [hlen]; omega), (show (2 : Int) ^ (rdL n fun i => rdC (rd i)).length - 1 < 1000000 by rw [hlen]; omega)⟩ ?_
    exact hR _ _ _ _ rfl rfl (by show (pairsS ⟨mk, l1, l2, c1, c2, rdL n fun i => rdC (rd i)⟩ (2 ^ (rdL n fun i => rdC (rd i)).length - 1)).length = _; rw [hpe]) fun j hj => ⟨by show pC (pairsS ⟨mk, l1, l2, c1, c2, rdL n fun i => rdC (rd i)⟩ (2 ^ (rdL n fun i => rdC (rd i)).length - 1)) j = _; rw [hpe], rfl⟩
  · cases hk
theorem g86 {l : List (Nat × Ct)} (g : Good P T l) : Good P T ((86, wmCtN allK) :: l) := g.add (k86 g) (wmCtN_mono _) (body_of Try.func86 (c := code Try.f86) rfl (by decide))
end Go.X.W
end

section
set_option linter.unusedVariables false
set_option linter.unusedSimpArgs false
set_option linter.unusedSectionVars false
/- Warm: told of the document. -/
set_option linter.unusedVariables false
set_option linter.unusedSimpArgs false
set_option maxRecDepth 10000
set_option maxHeartbeats 4000000
namespace Go.X.W
open Go Go.Proofs Go.X

/-- A contract that hands back an empty piece where the function hands back a nil slice. -/
theorem cok_nil {f : Nat} {a b : Ct} (ha : COk P f a) (h : ∀ fr args H out, b fr args H = some out → PreH out.pre → ∃ oa, a fr args H = some oa ∧ PreH oa.pre ∧ ((oa.pan = out.pan ∧ oa.v = out.v ∧ oa.news = out.news) ∨
    ∃ e T s g, oa.pan = none ∧ out.pan = none ∧ oa.news = [] ∧ oa.v = .tup [.sv (.slice none 0 0), .si .i64 e] ∧ out.v = .tup [.sl fr, .si .i64 e] ∧ out.news = [(fr, .vec T s 0 g)])) : COk P f b := by
  intro ρ H w fr args vals out hm hfr hd hb hp
  obtain ⟨oa, h1, h2, h3⟩ := h fr args H out hb hp
  have hc := ha ρ H w fr args vals oa hm hfr hd h1 h2
  rcases h3 with ⟨e1, e2, e3⟩ | ⟨e, T, s, g, e1, e2, e3, e4, e5, e6⟩
  · refine hc.mono fun x w' hx => ?_
    obtain ⟨p1, p2, v1, n1⟩ := oa
    obtain ⟨q1, q2, v2, n2⟩ := out
    simp only at e1 e2 e3
    subst e1 e2 e3
    have hce : ∀ {v : Value} {ρ' : Env}, CallEnd ρ H fr w ⟨p1, p2, v1, n1⟩ v w' ρ' → CallEnd ρ H fr w ⟨q1, p2, v1, n1⟩ v w' ρ' := fun k => ⟨k.str, k.ext, k.fresh, k.den, k.hm, k.own, k.size, k.same⟩
    unfold CPost at hx ⊢
    cases p2 with
    | none => obtain ⟨ρ', v, k1, k2⟩ := hx; exact ⟨ρ', v, k1, hce k2⟩
    | some p =>
      obtain ⟨c, ch⟩ := p
      rcases hx with hx | ⟨k0, ρ', v, k1, k2⟩
      · exact .inl hx
      · exact .inr ⟨k0, ρ', v, k1, hce k2⟩
  · refine hc.mono fun x w' hx => ?_
    unfold CPost at hx ⊢
    rw [e1] at hx
    rw [e2]
    obtain ⟨ρ', v, k1, k2⟩ := hx
    have hρ : ρ' = ρ := by
      funext j
      cases Classical.em (ρ' j = ρ j) with
      | inl h => exact h
      | inr h =>
        obtain ⟨_, _, hb, hmem⟩ := k2.fresh j h
        rw [e3] at hmem
        cases hmem
    subst hρ
    have hf : ρ' fr = none := hfr fr (Nat.le_refl _) (by omega)
    have hhm := k2.hm
    have hown := k2.own
    rw [e3] at hhm hown
    have hext : Ext ρ' (upd ρ' fr (.sl none 0 0 s)) := Ext.upd _ hf
    have hm2 : HM (upd ρ' fr (.sl none 0 0 s)) (updL H fr (.vec T s 0 g)) w' := by
      refine hhm.add (g := w'.heap.size) hf (Nat.le_refl _) (fun k _ _ => rfl) (fun ho => Nat.lt_irrefl _ (hhm.lt ho)) ?_ ⟨rfl, rfl, rfl, rfl, rfl⟩ (fun b hb => by cases hb) rfl
      intro j size m get nm h1 h2 h3 h4
      obtain ⟨nm', h5, h6⟩ := hhm.ok _ _ h1
      rw [h3] at h5; cases h5
      cases nm <;> simp only [HBok] at h6
      obtain ⟨_, _, _, h7⟩ := h6
      obtain ⟨ad, rfl, h8, _⟩ := h7 h2
      simp only [roBlock, Option.some.injEq] at h4
      omega
    refine ⟨_, v, k1, {
      str := k2.str
      ext := hext
      fresh := fun j hj => by
        have : j = fr := by
          cases Classical.em (j = fr) with
          | inl h => exact h
          | inr h => exact absurd (by simp [upd, h]) hj
        subst this
        exact ⟨Nat.le_refl _, by omega, _, by rw [e6]; exact List.mem_cons_self⟩
      den := by
        have hd := k2.den
        rw [e4] at hd
        rw [e5]
        simp only [den, denL, upd_self] at hd ⊢
        exact hd
      hm := by rw [e6]; exact hm2
      own := fun b ⟨id, x, nm', h1, h2, h3, h4⟩ => by
        rw [e6] at h1
        have h1 : updL H fr (.vec T s 0 g) id = some x := h1
        by_cases e : fr = id
        · subst e
          rw [upd_self] at h3; cases h3
          cases h4
        · rw [updL_ne _ _ e] at h1
          rw [upd_ne _ _ (Ne.symm e)] at h3
          exact hown b ⟨id, x, nm', h1, h2, h3, h4⟩
      size := k2.size
      same := k2.same }⟩

/-- Two contracts of one function. -/
def orCt (a b : Ct) : Ct := fun fr args H => match a fr args H with
  | some o => some o
  | none => b fr args H
theorem orCt_ok {f : Nat} {a b : Ct} (ha : COk P f a) (hb : COk P f b) : COk P f (orCt a b) := by
  intro ρ H w fr args vals out h1 h2 h3 h4 h5
  unfold orCt at h4
  split at h4
  · rename_i o e
    cases h4
    exact ha ρ H w fr args vals _ h1 h2 h3 e h5
  · exact hb ρ H w fr args vals out h1 h2 h3 h4 h5
def tellL (B : Blk) (many : Int) (is : Bool) : List Pr := if tellE B many is = 0 then pairsV B else []
def toldK (B : Blk) (r : List SV) : Option (Option Prop × Bk) := match r with
  | [.si .i64 many, .sb is] => some (none, ⟨some (tellE B many is), 39, 2, (tellL B many is).length, pC (tellL B many is)⟩)
  | _ => none
def toldK1 (B : Blk) (r : List SV) : Option (Option Prop × Bk) := match r with
  | [.si .i64 many, .sb is] => if tellE B many is = 0 then some (none, ⟨some 0, 39, 2, (pairsV B).length, pC (pairsV B)⟩) else none
  | _ => none
def toldK2 (B : Blk) (r : List SV) : Option (Option Prop × SV) := match r with
  | [.si .i64 many, .sb is] => if tellE B many is = 0 then none else some (none, .tup [.sv (.slice none 0 0), .si .i64 (tellE B many is)])
  | _ => none
theorem k71a {l : List (Nat × Ct)} (g0 : Good P T l) : COk P 71 (wmCtN toldK1) := by
  have g := g16 (g86 g0)
  refine cok (C := tabC _) g.ok Try.func71 (c := code Try.f71) rfl fun fr args H out h hp => wmWalkN 2 (by decide) h hp fun mk l1 l2 c1 c2 n rd r p b Rv Rp hk hp hR => ?_
  unfold toldK1 at hk
  split at hk
  · rename_i many is
    split at hk
    · rename_i he
      cases hk
      refine ⟨Nat.le_of_ble_eq_true rfl, fun G hG => ?_⟩
      obtain ⟨herr, hpl⟩ : errV ⟨mk, l1, l2, c1, c2, (List.range n).map rd⟩ many is = 0 ∧ ¬ (pairsV ⟨mk, l1, l2, c1, c2, (List.range n).map rd⟩).length = 0 := by
        unfold tellE at he
        split at he
        · rename_i h1
          split at he
          · cases he
          · rename_i h2; exact ⟨h1, h2⟩
        · rename_i h1; exact absurd he h1
      obtain ⟨hok, hm, rfl⟩ := errV_zero herr
      refine Chk.mk ⟨rds_rd _ _, rfl, trivial⟩ ?_
      refine Br.mk (fun h => ?_) (fun _ => ?_)
      · exfalso
        have h : (!blkOk ⟨mk, l1, l2, c1, c2, (List.range n).map rd⟩) = true := h
        rw [hok] at h
        cases h
      refine Br.mk (fun h => ?_) (fun _ => ?_)
      · exfalso
        have h : (6 : Int) < many := of_decide_eq_true h
        omega
      refine Br.mk (fun h => by cases h) (fun _ => ?_)
      refine Chk.mk ⟨rds_rd _ _, rfl, hok⟩ ?_
      refine Br.mk (fun h => ?_) (fun _ => ?_)
      · exfalso
        have h : ((pairsV ⟨mk, l1, l2, c1, c2, (List.range n).map rd⟩).length : Int) = 0 := of_decide_eq_true h
        omega
      exact hR _ _ _ _ ⟨rfl, ⟨rfl, rfl⟩, trivial⟩ rfl rfl fun j hj => ⟨rfl, rfl⟩
    · cases hk
  · cases hk
theorem k71b {l : List (Nat × Ct)} (g0 : Good P T l) : COk P 71 (wmCt toldK2) := by
  have g := g16 (g86 g0)
  refine cok (C := tabC _) g.ok Try.func71 (c := code Try.f71) rfl fun fr args H out h hp => wmWalk h hp fun mk l1 l2 c1 c2 n rd r p v Rv Rp hk hp hR => ?_
  unfold toldK2 at hk
  split at hk
  · rename_i many is
    split at hk
    · cases hk
    · rename_i he
      cases hk
      refine ⟨Nat.le_of_ble_eq_true rfl, fun G hG => ?_⟩
      obtain ⟨B, hB⟩ : ∃ B : Blk, (⟨mk, l1, l2, c1, c2, (List.range n).map rd⟩ : Blk) = B := ⟨_, rfl⟩
      have hB' : (⟨mk, l1, l2, c1, c2, rdL n fun i => rdC (rd i)⟩ : Blk) = B := hB
      rw [hB] at hR he
      refine Chk.mk ⟨rds_rd _ _, rfl, trivial⟩ ?_
      refine Br.mk (fun h => ?_) (fun h => ?_)
      · have h : (!blkOk ⟨mk, l1, l2, c1, c2, rdL n fun i => rdC (rd i)⟩) = true := h
        rw [hB'] at h
        have h : ¬ blkOk B = true := by simpa using h
        have e1 : errV B many is = 1 := by rw [errV, if_neg h]
        have e2 : tellE B many is = 1 := by rw [tellE, e1, if_neg (by decide)]
        rw [e2] at hR
        exact hR _ _ ⟨rfl, ⟨rfl, rfl⟩, trivial⟩ rfl
      have h : (!blkOk ⟨mk, l1, l2, c1, c2, rdL n fun i => rdC (rd i)⟩) = false := h
      rw [hB'] at h
      have hok : blkOk B = true := by simpa using h
      refine Br.mk (fun h => ?_) (fun h => ?_)
      · have h : (6 : Int) < many := of_decide_eq_true h
        have e1 : errV B many is = 3 := by rw [errV, if_pos hok, if_neg (by omega)]
        have e2 : tellE B many is = 3 := by rw [tellE, e1, if_neg (by decide)]
        rw [e2] at hR
        exact hR _ _ ⟨rfl, ⟨rfl, rfl⟩, trivial⟩ rfl
      have hmany : ¬ (6 : Int) < many := of_decide_eq_false h
      refine Br.mk (fun h => ?_) (fun h => ?_)
      · have h : (!is) = true := h
        have h : is = false := by simpa using h
        have e1 : errV B many is = 2 := by rw [errV, if_pos hok, if_pos (by omega), h]; rfl
        have e2 : tellE B many is = 2 := by rw [tellE, e1, if_neg (by decide)]
        rw [e2] at hR
        exact hR _ _ ⟨rfl, ⟨rfl, rfl⟩, trivial⟩ rfl
      have h : (!is) = false := h
      have his : is = true := by simpa using h
      have e1 : errV B many is = 0 := by rw [errV, if_pos hok, if_pos (by omega), if_pos his]
      refine Chk.mk ⟨rds_rd _ _, rfl, by rw [← hB] at hok; exact hok⟩ ?_
      refine Br.mk (fun h => ?_) (fun h => ?_)
      · have h : (((pairsV ⟨mk, l1, l2, c1, c2, rdL n fun i => rdC (rd i)⟩).length : Nat) : Int) = 0 := of_decide_eq_true h
        rw [hB'] at h
        have e2 : tellE B many is = 10 := by rw [tellE, e1, if_pos rfl, if_pos (by omega)]
        rw [e2] at hR
        exact hR _ _ ⟨rfl, ⟨rfl, rfl⟩, trivial⟩ rfl
      · exfalso
        have h : ¬ (((pairsV ⟨mk, l1, l2, c1, c2, rdL n fun i => rdC (rd i)⟩).length : Nat) : Int) = 0 := of_decide_eq_false h
        rw [hB'] at h
        exact he (by rw [tellE, e1, if_pos rfl, if_neg (by omega)])
  · cases hk
theorem k71 {l : List (Nat × Ct)} (g0 : Good P T l) : COk P 71 (wmCtN toldK) := by
  refine cok_nil (orCt_ok (k71a g0) (k71b g0)) fun fr args H out h hp => ?_
  unfold wmCtN at h
  split at h
  · rename_i mk l1 l2 c1 c2 id r
    split at h
    · rename_i n get e
      split at h
      · rename_i p b hk
        cases h
        unfold toldK at hk
        split at hk
        · rename_i many is
          cases hk
          obtain ⟨hp1, hp2, _⟩ : Rds n get ∧ knL 0 [] [SV.si .i64 many, .sb is] = true ∧ PreH none := hp
          by_cases he : tellE ⟨mk, l1, l2, c1, c2, rdL n get⟩ many is = 0
          · have hL : tellL ⟨mk, l1, l2, c1, c2, rdL n get⟩ many is = pairsV ⟨mk, l1, l2, c1, c2, rdL n get⟩ := if_pos he
            refine ⟨⟨some (Rds n get ∧ knL 0 [] [SV.si .i64 many, .sb is] = true ∧ PreH none), none, vN (some 0) fr, [(fr, .vec 39 2 (pairsV ⟨mk, l1, l2, c1, c2, rdL n get⟩).length (pC (pairsV ⟨mk, l1, l2, c1, c2, rdL n get⟩)))]⟩, ?_, ⟨hp1, hp2, trivial⟩, .inl ⟨rfl, ?_, ?_⟩⟩
            · simp only [orCt, wmCtN, e, toldK1, if_pos he]
            · simp only [he]
            · simp only [hL]
          · have hL : tellL ⟨mk, l1, l2, c1, c2, rdL n get⟩ many is = [] := if_neg he
            refine ⟨⟨some (Rds n get ∧ knL 0 [] [SV.si .i64 many, .sb is] = true ∧ PreH none), none, .tup [.sv (.slice none 0 0), .si .i64 (tellE ⟨mk, l1, l2, c1, c2, rdL n get⟩ many is)], []⟩, ?_, ⟨hp1, hp2, trivial⟩, .inr ⟨tellE ⟨mk, l1, l2, c1, c2, rdL n get⟩ many is, 39, 2, pC [], rfl, rfl, rfl, rfl, rfl, ?_⟩⟩
            · simp only [orCt, wmCtN, wmCt, e, toldK1, toldK2, if_neg he]
            · simp only [hL]
              rfl
        · cases hk
      · cases h
    · cases h
  · cases h
theorem g71 {l : List (Nat × Ct)} (g : Good P T l) : Good P T ((71, wmCtN toldK) :: l) := g.add (k71 g) (wmCtN_mono _) (body_of Try.func71 (c := code Try.f71) rfl (by decide))
end Go.X.W
end

section
set_option linter.unusedVariables false
set_option linter.unusedSimpArgs false
set_option linter.unusedSectionVars false
/- Warm: hull of the document. -/
set_option linter.unusedVariables false
set_option linter.unusedSimpArgs false
set_option maxRecDepth 10000
set_option maxHeartbeats 4000000
namespace Go.X.W
open Go Go.Proofs Go.X

def c72 : Ct := fun fr args H =>
  match args with
  | [.sl id] => (match sliceOf 1 H id with
    | some (n, get) => some ⟨some (Ints n get ∧ 0 < n ∧ n ≤ 1000000 ∧ ∀ i, i < n → -1000000000 ≤ intAt get i ∧ intAt get i ≤ 1000000000), none, .agg [.si .i64 (endsV (intL n get)).1, .si .i64 (endsV (intL n get)).2], []⟩
    | none => none)
  | _ => none
theorem c72_mono : CtMono c72 := by
  intro fr args H H' out hH h
  unfold c72 at h ⊢
  split at h
  · split at h
    · rename_i e
      simp only [sliceOf_mono hH e]
      exact h
    · cases h
  · cases h
/-- The ends of the first numbers. -/
def endI (v : Nat → Int) (i : Nat) : Int × Int := ((List.range i).map v).foldl endF (v 0, v 0)
theorem endI_succ (v : Nat → Int) (i : Nat) : endI v (i + 1) = (min (endI v i).1 (v i), max (endI v i).2 (v i)) := by
  simp only [endI, List.range_succ, List.map_append, List.map_cons, List.map_nil, List.foldl_append, List.foldl_cons, List.foldl_nil]
  rfl
theorem endI_all {v : Nat → Int} {n : Nat} (hn : 0 < n) (h0 : -1000000000 ≤ v 0 ∧ v 0 ≤ 1000000000) : endI v n = endsV ((List.range n).map v) := by
  obtain ⟨m, rfl⟩ : ∃ m, n = m + 1 := ⟨n - 1, by omega⟩
  unfold endI endsV
  rw [List.range_succ_eq_map]
  simp only [List.map_cons, List.foldl_cons]
  congr 1
  simp only [endF, Prod.mk.injEq]
  omega
theorem k72 {l : List (Nat × Ct)} (g : Good P T l) : COk P 72 c72 := by
  refine cok (C := tabC _) g.ok Try.func72 (c := code Try.f72) rfl fun fr args H out h hp => ?_
  unfold c72 at h
  split at h
  · rename_i id
    split at h
    · rename_i n get e
      cases h
      obtain ⟨hi, hn, hn1, hb⟩ : Ints n get ∧ 0 < n ∧ n ≤ 1000000 ∧ ∀ i, i < n → -1000000000 ≤ intAt get i ∧ intAt get i ≤ 1000000000 := hp
      have hh : Hand H [(id, .ro 1 n fun i => [.si .i64 (intAt get i)])] := hand_one e (fun i => rfl) (fun i h => (hi i h).symm)
      refine ⟨[(id, .ro 1 n fun i => [.si .i64 (intAt get i)])], [.sl 0], [(0, .ro 1 n fun i => [.si .i64 (intAt get i)])], 1, [], rfl, rfl, Nat.le_of_ble_eq_true rfl, hh, rfl, rfl, fun G hG => ?_⟩
      have hv := endI_all hn (hb 0 hn)
      have hil : intL n get = (List.range n).map (intAt get) := rfl
      rw [hil, ← hv]
      generalize intAt get = v at hb ⊢
      refine drawn_ok (g.ok _ _ _) fol [0,1,3,0,8,24,63,0,255] [(8, 30)] 9 (by kernel_rfl) ?_
      refine Chk.mk (show (0 : Int) ≤ 0 ∧ (0 : Int) < (n : Int) from ⟨by omega, by omega⟩) ?_
      refine Chk.mk (show (0 : Int) ≤ 0 ∧ (0 : Int) < (n : Int) from ⟨by omega, by omega⟩) ?_
      refine loop_ok (g.ok _ _ _) (fun x : {i : Nat // i ≤ n} => ⟨[(0, ⟨[], .sl 0⟩), (2, ⟨[], .sp 1 0⟩), (3, ⟨[], .sp 30 0⟩), (4, ⟨[], .si .i64 (x.1 : Nat)⟩)], [],
        [(30, .cells 24 [.si .i64 (endI v x.1).1, .si .i64 (endI v x.1).2]), (1, .cells 24 [.si .i64 0, .si .i64 0]), (0, .ro 1 n fun i => [.si .i64 (v i)])], 38, []⟩) (fun x => n - x.1) (fun _ j hj => hG j (by have : 38 ≤ j := hj; omega)) ⟨0, Nat.zero_le _⟩ ?_ ?_
      · refine ⟨?_, ?_, rfl, rfl, rfl⟩
        · repeat' (first | exact trivial | exact rfl | refine And.intro ?_ ?_)
        · repeat' (first | exact trivial | exact rfl | (intro i hi; exact rfl) | refine And.intro ?_ ?_)
      · rintro ⟨i, hle⟩
        refine Br.mk (fun h => ?_) (fun h => ?_)
        · have h : (i : Int) < (n : Int) := of_decide_eq_true h
          have hs := endI_succ v i
          refine drawn_ok (g.ok _ _ _) fol [0,1,0,0,12,28,63,0,128,0,0,1536,3584,8064,16383,32767] [(15, 30)] 16 (by kernel_rfl) ?_
          refine Chk.mk (show (0 : Int) ≤ (i : Int) ∧ (i : Int) < (n : Int) from ⟨by omega, h⟩) ?_
          refine Chk.mk (show (0 : Int) ≤ (i : Int) ∧ (i : Int) < (n : Int) from ⟨by omega, h⟩) ?_
          refine Chk.mk (show InK .i64 ((i : Int) + 1) from ⟨by omega, by omega⟩) ⟨⟨i + 1, by omega⟩, ?_, (by show n - (i + 1) < n - i; omega)⟩
          refine ⟨?_, ?_, rfl, rfl, rfl⟩
          · repeat' (first | exact trivial | exact rfl | refine And.intro ?_ ?_)
          · repeat' (first | exact trivial | exact rfl | (intro i hi; exact rfl) | (show min _ _ = (endI v (i + 1)).1; rw [hs]; rfl) | (show max _ _ = (endI v (i + 1)).2; rw [hs]; rfl) | refine And.intro ?_ ?_)
        · have h : ¬ (i : Int) < (n : Int) := of_decide_eq_false h
          obtain rfl : i = n := by omega
          exact ⟨.inl rfl, end_noid ⟨⟨rfl, rfl⟩, ⟨rfl, rfl⟩, trivial⟩ rfl rfl ⟨trivial, trivial⟩⟩
    · cases h
  · cases h
theorem g72 {l : List (Nat × Ct)} (g : Good P T l) : Good P T ((72, c72) :: l) := g.add (k72 g) c72_mono (body_of Try.func72 (c := code Try.f72) rfl (by decide))
end Go.X.W
end

section
set_option linter.unusedVariables false
set_option linter.unusedSimpArgs false
set_option linter.unusedSectionVars false
/- Warm: Length and Coeff of the document. -/
set_option linter.unusedVariables false
set_option linter.unusedSimpArgs false
set_option maxRecDepth 10000
set_option maxHeartbeats 4000000
namespace Go.X.W
open Go Go.Proofs Go.X

/-- The lists of the first pairs, one behind the other. -/
def fmI (L : Pr → List Int) (pv : List Pr) (i : Nat) : List Int := (pv.take i).flatMap L
theorem fmI_succ {L : Pr → List Int} {pv : List Pr} {i : Nat} (h : i < pv.length) : fmI L pv (i + 1) = fmI L pv i ++ L (pv.getD i (0, 0)) := by
  unfold fmI
  rw [List.take_add_one, List.getElem?_eq_getElem h, List.flatMap_append]
  rw [List.getD_eq_getElem?_getD, List.getElem?_eq_getElem h]
  simp
theorem fmI_all (L : Pr → List Int) (pv : List Pr) : fmI L pv pv.length = pv.flatMap L := by
  unfold fmI
  rw [List.take_length]
theorem fmI_len {L : Pr → List Int} {pv : List Pr} {m : Nat} (h : ∀ p ∈ pv, (L p).length ≤ m) : ∀ i, (fmI L pv i).length ≤ i * m
  | 0 => by simp [fmI]
  | i + 1 => by
    by_cases hi : i < pv.length
    · rw [fmI_succ hi, List.length_append, Nat.succ_mul]
      have := fmI_len h i
      have := h (pv.getD i (0, 0)) (by rw [List.getD_eq_getElem?_getD, List.getElem?_eq_getElem hi]; exact List.getElem_mem hi)
      omega
    · have : fmI L pv (i + 1) = fmI L pv i := by
        unfold fmI
        rw [List.take_of_length_le (by omega), List.take_of_length_le (by omega)]
      rw [this, Nat.succ_mul]
      have := fmI_len h i
      omega
theorem lC_app (A B : List Int) (j : Nat) (hj : j < A.length + B.length) : lC (A ++ B) j = if j < A.length then lC A j else lC B (j - A.length) := by
  unfold lC
  rw [List.getD_eq_getElem?_getD, List.getElem?_append]
  split
  · rw [List.getD_eq_getElem?_getD]
  · rw [List.getD_eq_getElem?_getD]
theorem intL_lC {L : List Int} {m : Nat} (h : m = L.length) : intL m (lC L) = L := by subst h; exact lC_list L
theorem lC_b {L : List Int} {q : Int → Prop} (h : ∀ x ∈ L, q x) : ∀ i, i < L.length → q (intAt (lC L) i) := fun i hi => by
  show q (L.getD i 0)
  rw [List.getD_eq_getElem?_getD, List.getElem?_eq_getElem hi]
  exact h _ (List.getElem_mem hi)
/-- What is told of a block: an error, or pairs. -/
theorem tell_some {B : Blk} {many : Int} {is : Bool} (h : tellE B many is = 0) : blkOk B = true ∧ is = true ∧ tellL B many is = pairsV B ∧ 0 < (pairsV B).length ∧ (pairsV B).length ≤ 100 := by
  have h0 := h
  unfold tellE at h
  split at h
  · rename_i h1
    split at h
    · cases h
    · rename_i h2
      obtain ⟨q1, _, q3⟩ := errV_zero h1
      obtain ⟨hmk, hl, hc, hn, hr⟩ := blk_b q1
      refine ⟨q1, q3, if_pos h0, by omega, ?_⟩
      have := rows_len (okP B.mark B.rs) B.l1 B.c1 B.c2 (by omega) (B.l2 + 1 - B.l1).toNat
      rw [show B.l1 + (((B.l2 + 1 - B.l1).toNat : Nat) : Int) = B.l2 + 1 by omega] at this
      unfold pairsV
      omega
  · rename_i h1; exact absurd h h1
theorem sng_len (f : Pr → Int) : ∀ pv : List Pr, (pv.flatMap fun p => [f p]).length = pv.length
  | [] => rfl
  | p :: r => by
    rw [List.flatMap_cons, List.length_append, sng_len f r]
    simp only [List.length_cons, List.length_nil]
    omega
theorem pC_at {pv : List Pr} (i : Nat) : pC pv i = [.si .i64 (pv.getD i (0, 0)).1, .si .i64 (pv.getD i (0, 0)).2] := rfl
theorem getD_mem {pv : List Pr} {i : Nat} (h : i < pv.length) : pv.getD i (0, 0) ∈ pv := by
  rw [List.getD_eq_getElem?_getD, List.getElem?_eq_getElem h]
  exact List.getElem_mem h
theorem pair_b {B : Blk} (hok : blkOk B = true) {p : Pr} (h : p ∈ pairsV B) : -1000 ≤ p.1 ∧ p.1 ≤ 1000 ∧ 0 ≤ p.2 ∧ p.2 ≤ 20 := by
  have h1 := (pairs_mem.1 h).1
  obtain ⟨hmk, hl, hc, hn, hr⟩ := blk_b hok
  omega
theorem k25 {l : List (Nat × Ct)} (g0 : Good P T l) : COk P 25 c19 := by
  have g := g71 (g72 g0)
  refine cok (C := tabC _) g.ok Try.func25 (c := code Try.f25) rfl fun fr args H out h hp => wmWalk h hp fun mk l1 l2 c1 c2 n rd r p v Rv Rp hk hp hR => ?_
  split at hk
  · cases hk
    refine ⟨Nat.le_of_ble_eq_true rfl, fun G hG => ?_⟩
    obtain ⟨B, hBe⟩ : ∃ B : Blk, (⟨mk, l1, l2, c1, c2, (List.range n).map rd⟩ : Blk) = B := ⟨_, rfl⟩
    have hB' : (⟨mk, l1, l2, c1, c2, rdL n fun i => rdC (rd i)⟩ : Blk) = B := hBe
    rw [hBe] at hR
    refine Chk.mk ⟨rds_rd _ _, rfl, trivial⟩ ?_
    refine Br.mk (fun h => ?_) (fun h => ?_)
    · have h : (!decide (tellE ⟨mk, l1, l2, c1, c2, rdL n fun i => rdC (rd i)⟩ 0 true = 0)) = true := h
      rw [hB'] at h
      have h : ¬ tellE B 0 true = 0 := by simpa using h
      have hw : hullE B true (fun p : Pr => [p.1]) = ((0, 0), tellE B 0 true) := by rw [hullE, if_neg h]
      rw [hw] at hR
      exact hR _ _ ⟨⟨⟨rfl, rfl⟩, ⟨rfl, rfl⟩, trivial⟩, ⟨rfl, (by show tellE ⟨mk, l1, l2, c1, c2, rdL n fun i => rdC (rd i)⟩ 0 true = tellE B 0 true; rw [hB'])⟩, trivial⟩ rfl
    · have h : (!decide (tellE ⟨mk, l1, l2, c1, c2, rdL n fun i => rdC (rd i)⟩ 0 true = 0)) = false := h
      rw [hB'] at h
      have h : tellE B 0 true = 0 := by simpa using h
      obtain ⟨hok, _, hL, hpos, hle⟩ := tell_some h
      have hw : hullE B true (fun p : Pr => [p.1]) = (hullV B (fun p : Pr => [p.1]), 0) := by rw [hullE, if_pos h]
      rw [hw] at hR
      obtain ⟨pv, hpv⟩ : ∃ pv, pairsV B = pv := ⟨_, rfl⟩
      have hL' : tellL ⟨mk, l1, l2, c1, c2, rdL n fun i => rdC (rd i)⟩ 0 true = pv := by rw [hB', hL, hpv]
      have hpb : ∀ p ∈ pv, -1000 ≤ p.1 ∧ p.1 ≤ 1000 ∧ 0 ≤ p.2 ∧ p.2 ≤ 20 := fun p hp => pair_b hok (by rw [hpv]; exact hp)
      have hhv : hullV B (fun p : Pr => [p.1]) = endsV (pv.flatMap fun p => [p.1]) := by rw [hullV, hpv]
      rw [hhv] at hR
      rw [hpv] at hpos hle
      have hfl := fmI_len (L := fun p : Pr => [p.1]) (pv := pv) (m := 1) (fun p _ => Nat.le_refl _)
      refine nil_slot 6 3 1 (lC []) rfl ?_
      refine loop_okR (g.ok _ _ _) 7 (fun x : {i : Nat // i ≤ pv.length} => ⟨[(2, ⟨[], .sp 2 0⟩), (3, ⟨[], .si .i64 0⟩), (4, ⟨[], .sl 3⟩), (6, ⟨[], .sl 7⟩), (7, ⟨[], .si .i64 (x.1 : Nat)⟩)], [],
        [(7, .vec 3 1 (fmI (fun p : Pr => [p.1]) pv x.1).length (lC (fmI (fun p : Pr => [p.1]) pv x.1))), (3, .vec 39 2 pv.length (pC pv)), (2, .cells 24 [.si .i64 0, .si .i64 0]), (1, .cells 36 (bC mk l1 l2 c1 c2 0)), (0, .ro 4 n fun i => rdC (rd i))], 8, []⟩) (fun x => pv.length - x.1) (fun j hj => hG j (by omega)) ⟨0, Nat.zero_le _⟩ (fun j => j) ?_ ?_
      · refine ⟨?_, ?_, rfl, rfl, rfl, rfl, trivial⟩
        · repeat' (first | exact trivial | exact rfl | refine And.intro ?_ ?_)
        · repeat' (first | exact trivial | exact rfl | (intro i hi; exact ⟨rfl, rfl⟩) | (show (tellL ⟨mk, l1, l2, c1, c2, rdL n fun i => rdC (rd i)⟩ 0 true).length = pv.length; rw [hL']) | (intro i hi; exact ⟨(by show pC (tellL ⟨mk, l1, l2, c1, c2, rdL n fun i => rdC (rd i)⟩ 0 true) i = pC pv i; rw [hL']), rfl⟩) | refine And.intro ?_ ?_)
      · rintro ⟨i, hi⟩
        refine Br.mk (fun h2 => ?_) (fun h2 => ?_)
        · have h2 : (i : Int) < (pv.length : Int) := of_decide_eq_true h2
          have hs := fmI_succ (L := fun p : Pr => [p.1]) (pv := pv) (i := i) (by omega)
          have hl1 := hfl i
          refine Chk.mk (show (0 : Int) ≤ (i : Int) ∧ (i : Int) < (pv.length : Int) from ⟨by omega, h2⟩) ?_
          refine fb_append (Te := 0) 7 8 (fmI (fun p : Pr => [p.1]) pv i).length 1 _ _ (lC (fmI (fun p : Pr => [p.1]) pv (i + 1))) (g.ok _ _ _) cont_std rfl rfl rfl rfl rfl rfl rfl rfl rfl rfl rfl rfl (by decide) (by decide) rfl rfl rfl rfl (by omega) ?_ ?_
          · intro j hj
            rw [hs, lC_app _ _ _ hj]
            by_cases hlt : j < (fmI (fun p : Pr => [p.1]) pv i).length
            · rw [if_pos hlt, if_pos hlt]
            · rw [if_neg hlt, if_neg hlt, show j - (fmI (fun p : Pr => [p.1]) pv i).length = 0 by omega]
              rfl
          refine Chk.mk (show InK .i64 ((i : Int) + 1) from ⟨by omega, by omega⟩) ⟨⟨i + 1, by omega⟩, (fun j => if j = 7 then 9 else j), ?_, (by show pv.length - (i + 1) < pv.length - i; omega)⟩
          refine ⟨?_, ?_, rfl, rfl, rfl, rfl, trivial⟩
          · repeat' (first | exact trivial | exact rfl | refine And.intro ?_ ?_)
          · repeat' (first | exact trivial | exact rfl | (intro i hi; exact ⟨rfl, rfl⟩) | refine And.intro ?_ ?_)
            show (fmI (fun p : Pr => [p.1]) pv i).length + 1 = (fmI (fun p : Pr => [p.1]) pv (i + 1)).length
            rw [hs, List.length_append]
            rfl
        · have h2 : ¬ (i : Int) < (pv.length : Int) := of_decide_eq_false h2
          obtain rfl : i = pv.length := by omega
          have hall : fmI (fun p : Pr => [p.1]) pv pv.length = pv.flatMap (fun p : Pr => [p.1]) := fmI_all _ _
          have hlen : (fmI (fun p : Pr => [p.1]) pv pv.length).length = pv.length := by
            rw [hall]
            exact sng_len _ _
          have hbd : ∀ x ∈ fmI (fun p : Pr => [p.1]) pv pv.length, -1000000000 ≤ x ∧ x ≤ 1000000000 := fun x hx => by
            rw [hall] at hx
            obtain ⟨p, hp, hx⟩ := List.mem_flatMap.1 hx
            have := hpb p hp
            have hx : x = p.1 := by simpa using hx
            omega
          refine Chk.mk ⟨lC_ints _ _, (show 0 < (fmI (fun p : Pr => [p.1]) pv pv.length).length by omega), (show (fmI (fun p : Pr => [p.1]) pv pv.length).length ≤ 1000000 by omega), lC_b hbd⟩ ?_
          have hil : intL (fmI (fun p : Pr => [p.1]) pv pv.length).length (lC (fmI (fun p : Pr => [p.1]) pv pv.length)) = pv.flatMap (fun p : Pr => [p.1]) := by rw [intL_lC rfl, hall]
          refine hR _ _ ⟨⟨⟨rfl, ?_⟩, ⟨rfl, ?_⟩, trivial⟩, ⟨rfl, rfl⟩, trivial⟩ rfl
          · show (endsV (intL (fmI (fun p : Pr => [p.1]) pv pv.length).length (lC (fmI (fun p : Pr => [p.1]) pv pv.length)))).1 = _
            rw [hil]
          · show (endsV (intL (fmI (fun p : Pr => [p.1]) pv pv.length).length (lC (fmI (fun p : Pr => [p.1]) pv pv.length)))).2 = _
            rw [hil]
  · cases hk
theorem g25 {l : List (Nat × Ct)} (g : Good P T l) : Good P T ((25, c19) :: l) := g.add (k25 g) (wmCt_mono _) (body_of Try.func25 (c := code Try.f25) rfl (by decide))
theorem k27 {l : List (Nat × Ct)} (g0 : Good P T l) : COk P 27 c26 := by
  have g := g71 (g72 g0)
  refine cok (C := tabC _) g.ok Try.func27 (c := code Try.f27) rfl fun fr args H out h hp => wmWalk h hp fun mk l1 l2 c1 c2 n rd r p v Rv Rp hk hp hR => ?_
  split at hk
  · cases hk
    refine ⟨Nat.le_of_ble_eq_true rfl, fun G hG => ?_⟩
    obtain ⟨B, hBe⟩ : ∃ B : Blk, (⟨mk, l1, l2, c1, c2, (List.range n).map rd⟩ : Blk) = B := ⟨_, rfl⟩
    have hB' : (⟨mk, l1, l2, c1, c2, rdL n fun i => rdC (rd i)⟩ : Blk) = B := hBe
    rw [hBe] at hR
    refine Chk.mk ⟨rds_rd _ _, rfl, trivial⟩ ?_
    refine Br.mk (fun h => ?_) (fun h => ?_)
    · have h : (!decide (tellE ⟨mk, l1, l2, c1, c2, rdL n fun i => rdC (rd i)⟩ 0 true = 0)) = true := h
      rw [hB'] at h
      have h : ¬ tellE B 0 true = 0 := by simpa using h
      have hw : hullE B true (fun p : Pr => [p.2]) = ((0, 0), tellE B 0 true) := by rw [hullE, if_neg h]
      rw [hw] at hR
      exact hR _ _ ⟨⟨⟨rfl, rfl⟩, ⟨rfl, rfl⟩, trivial⟩, ⟨rfl, (by show tellE ⟨mk, l1, l2, c1, c2, rdL n fun i => rdC (rd i)⟩ 0 true = tellE B 0 true; rw [hB'])⟩, trivial⟩ rfl
    · have h : (!decide (tellE ⟨mk, l1, l2, c1, c2, rdL n fun i => rdC (rd i)⟩ 0 true = 0)) = false := h
      rw [hB'] at h
      have h : tellE B 0 true = 0 := by simpa using h
      obtain ⟨hok, _, hL, hpos, hle⟩ := tell_some h
      have hw : hullE B true (fun p : Pr => [p.2]) = (hullV B (fun p : Pr => [p.2]), 0) := by rw [hullE, if_pos h]
      rw [hw] at hR
      obtain ⟨pv, hpv⟩ : ∃ pv, pairsV B = pv := ⟨_, rfl⟩
      have hL' : tellL ⟨mk, l1, l2, c1, c2, rdL n fun i => rdC (rd i)⟩ 0 true = pv := by rw [hB', hL, hpv]
      have hpb : ∀ p ∈ pv, -1000 ≤ p.1 ∧ p.1 ≤ 1000 ∧ 0 ≤ p.2 ∧ p.2 ≤ 20 := fun p hp => pair_b hok (by rw [hpv]; exact hp)
      have hhv : hullV B (fun p : Pr => [p.2]) = endsV (pv.flatMap fun p => [p.2]) := by rw [hullV, hpv]
      rw [hhv] at hR
      rw [hpv] at hpos hle
      have hfl := fmI_len (L := fun p : Pr => [p.2]) (pv := pv) (m := 1) (fun p _ => Nat.le_refl _)
      refine nil_slot 6 3 1 (lC []) rfl ?_
      refine loop_okR (g.ok _ _ _) 7 (fun x : {i : Nat // i ≤ pv.length} => ⟨[(2, ⟨[], .sp 2 0⟩), (3, ⟨[], .si .i64 0⟩), (4, ⟨[], .sl 3⟩), (6, ⟨[], .sl 7⟩), (7, ⟨[], .si .i64 (x.1 : Nat)⟩)], [],
        [(7, .vec 3 1 (fmI (fun p : Pr => [p.2]) pv x.1).length (lC (fmI (fun p : Pr => [p.2]) pv x.1))), (3, .vec 39 2 pv.length (pC pv)), (2, .cells 24 [.si .i64 0, .si .i64 0]), (1, .cells 36 (bC mk l1 l2 c1 c2 0)), (0, .ro 4 n fun i => rdC (rd i))], 8, []⟩) (fun x => pv.length - x.1) (fun j hj => hG j (by omega)) ⟨0, Nat.zero_le _⟩ (fun j => j) ?_ ?_
      · refine ⟨?_, ?_, rfl, rfl, rfl, rfl, trivial⟩
        · repeat' (first | exact trivial | exact rfl | refine And.intro ?_ ?_)
        · repeat' (first | exact trivial | exact rfl | (intro i hi; exact ⟨rfl, rfl⟩) | (show (tellL ⟨mk, l1, l2, c1, c2, rdL n fun i => rdC (rd i)⟩ 0 true).length = pv.length; rw [hL']) | (intro i hi; exact ⟨(by show pC (tellL ⟨mk, l1, l2, c1, c2, rdL n fun i => rdC (rd i)⟩ 0 true) i = pC pv i; rw [hL']), rfl⟩) | refine And.intro ?_ ?_)
      · rintro ⟨i, hi⟩
        refine Br.mk (fun h2 => ?_) (fun h2 => ?_)
        · have h2 : (i : Int) < (pv.length : Int) := of_decide_eq_true h2
          have hs := fmI_succ (L := fun p : Pr => [p.2]) (pv := pv) (i := i) (by omega)
          have hl1 := hfl i
          refine Chk.mk (show (0 : Int) ≤ (i : Int) ∧ (i : Int) < (pv.length : Int) from ⟨by omega, h2⟩) ?_
          refine fb_append (Te := 0) 7 8 (fmI (fun p : Pr => [p.2]) pv i).length 1 _ _ (lC (fmI (fun p : Pr => [p.2]) pv (i + 1))) (g.ok _ _ _) cont_std rfl rfl rfl rfl rfl rfl rfl rfl rfl rfl rfl rfl (by decide) (by decide) rfl rfl rfl rfl (by omega) ?_ ?_
          · intro j hj
            rw [hs, lC_app _ _ _ hj]
            by_cases hlt : j < (fmI (fun p : Pr => [p.2]) pv i).length
            · rw [if_pos hlt, if_pos hlt]
            · rw [if_neg hlt, if_neg hlt, show j - (fmI (fun p : Pr => [p.2]) pv i).length = 0 by omega]
              rfl
          refine Chk.mk (show InK .i64 ((i : Int) + 1) from ⟨by omega, by omega⟩) ⟨⟨i + 1, by omega⟩, (fun j => if j = 7 then 9 else j), ?_, (by show pv.length - (i + 1) < pv.length - i; omega)⟩
          refine ⟨?_, ?_, rfl, rfl, rfl, rfl, trivial⟩
          · repeat' (first | exact trivial | exact rfl | refine And.intro ?_ ?_)
          · repeat' (first | exact trivial | exact rfl | (intro i hi; exact ⟨rfl, rfl⟩) | refine And.intro ?_ ?_)
            show (fmI (fun p : Pr => [p.2]) pv i).length + 1 = (fmI (fun p : Pr => [p.2]) pv (i + 1)).length
            rw [hs, List.length_append]
            rfl
        · have h2 : ¬ (i : Int) < (pv.length : Int) := of_decide_eq_false h2
          obtain rfl : i = pv.length := by omega
          have hall : fmI (fun p : Pr => [p.2]) pv pv.length = pv.flatMap (fun p : Pr => [p.2]) := fmI_all _ _
          have hlen : (fmI (fun p : Pr => [p.2]) pv pv.length).length = pv.length := by
            rw [hall]
            exact sng_len _ _
          have hbd : ∀ x ∈ fmI (fun p : Pr => [p.2]) pv pv.length, -1000000000 ≤ x ∧ x ≤ 1000000000 := fun x hx => by
            rw [hall] at hx
            obtain ⟨p, hp, hx⟩ := List.mem_flatMap.1 hx
            have := hpb p hp
            have hx : x = p.2 := by simpa using hx
            omega
          refine Chk.mk ⟨lC_ints _ _, (show 0 < (fmI (fun p : Pr => [p.2]) pv pv.length).length by omega), (show (fmI (fun p : Pr => [p.2]) pv pv.length).length ≤ 1000000 by omega), lC_b hbd⟩ ?_
          have hil : intL (fmI (fun p : Pr => [p.2]) pv pv.length).length (lC (fmI (fun p : Pr => [p.2]) pv pv.length)) = pv.flatMap (fun p : Pr => [p.2]) := by rw [intL_lC rfl, hall]
          refine hR _ _ ⟨⟨⟨rfl, ?_⟩, ⟨rfl, ?_⟩, trivial⟩, ⟨rfl, rfl⟩, trivial⟩ rfl
          · show (endsV (intL (fmI (fun p : Pr => [p.2]) pv pv.length).length (lC (fmI (fun p : Pr => [p.2]) pv pv.length)))).1 = _
            rw [hil]
          · show (endsV (intL (fmI (fun p : Pr => [p.2]) pv pv.length).length (lC (fmI (fun p : Pr => [p.2]) pv pv.length)))).2 = _
            rw [hil]
  · cases hk
theorem g27 {l : List (Nat × Ct)} (g : Good P T l) : Good P T ((27, c26) :: l) := g.add (k27 g) (wmCt_mono _) (body_of Try.func27 (c := code Try.f27) rfl (by decide))
end Go.X.W
end

section
set_option linter.unusedVariables false
set_option linter.unusedSimpArgs false
set_option linter.unusedSectionVars false
/- Warm: Held of the document. -/
set_option linter.unusedVariables false
set_option linter.unusedSimpArgs false
set_option maxRecDepth 10000
set_option maxHeartbeats 4000000
namespace Go.X.W
open Go Go.Proofs Go.X

theorem warmV_len (mk : Int) (p : Pr) (r : Rd) (h : r.2.1 - r.1 ≤ 4) : (warmV mk p r).length ≤ 5 := by
  unfold warmV
  refine Nat.le_trans (List.length_filter_le _ _) ?_
  rw [iota_len]
  omega
theorem warmV_b {mk : Int} {p : Pr} {r : Rd} {t : Int} (h : t ∈ warmV mk p r) : r.1 ≤ t ∧ t ≤ r.2.1 := by
  unfold warmV at h
  exact mem_iota.1 (List.mem_filter.1 h).1
theorem flat_pos {L : Pr → List Int} {pv : List Pr} (h0 : 0 < pv.length) (h : ∀ p ∈ pv, 0 < (L p).length) : 0 < (pv.flatMap L).length := by
  cases pv with
  | nil => cases h0
  | cons p r =>
    rw [List.flatMap_cons, List.length_append]
    have := h p List.mem_cons_self
    omega
theorem k29 {l : List (Nat × Ct)} (g0 : Good P T l) : COk P 29 c28 := by
  have g := g78 (g77 (g71 (g72 g0)))
  refine cok (C := tabC _) g.ok Try.func29 (c := code Try.f29) rfl fun fr args H out h hp => wmWalk h hp fun mk l1 l2 c1 c2 n rd r p v Rv Rp hk hp hR => ?_
  split at hk
  · rename_i q
    cases hk
    have hp : ((List.range n).map rd).length ≤ 40 := hp
    refine ⟨Nat.le_of_ble_eq_true rfl, fun G hG => ?_⟩
    obtain ⟨B, hBe⟩ : ∃ B : Blk, (⟨mk, l1, l2, c1, c2, (List.range n).map rd⟩ : Blk) = B := ⟨_, rfl⟩
    have hB' : (⟨mk, l1, l2, c1, c2, rdL n fun i => rdC (rd i)⟩ : Blk) = B := hBe
    have hmk : mk = B.mark := by rw [← hBe]
    have hrs : (List.range n).map rd = B.rs := by rw [← hBe]
    have hlr : (rdL n fun i => rdC (rd i)).length ≤ 40 := hp
    rw [hBe] at hR
    rw [← hmk] at hR
    obtain ⟨is, his⟩ : ∃ is : Bool, inB q 0 ((B.rs.length : Int) - 1) = is := ⟨_, rfl⟩
    have his' : inB q 0 (((rdL n fun i => rdC (rd i)).length : Int) - 1) = is := by rw [← his, ← hrs]; rfl
    rw [his] at hR
    obtain ⟨L, hLd⟩ : ∃ L : Pr → List Int, (fun p => warmV mk p (rdGet B.rs q)) = L := ⟨_, rfl⟩
    rw [hLd] at hR
    refine drawn_ok (g.ok _ _ _) fol [0,0,0,6,15,31,63,63,127,511] [] 10 (by kernel_rfl) ?_
    refine Chk.mk ⟨rds_rd _ _, rfl, hlr⟩ ?_
    refine Chk.mk ⟨rds_rd _ _, rfl, trivial⟩ ?_
    refine Br.mk (fun h => ?_) (fun h => ?_)
    · have h : (!decide (tellE ⟨mk, l1, l2, c1, c2, rdL n fun i => rdC (rd i)⟩ 0 (inB q 0 (((rdL n fun i => rdC (rd i)).length : Int) - 1)) = 0)) = true := h
      rw [hB', his'] at h
      have h : ¬ tellE B 0 is = 0 := by simpa using h
      have hw : hullE B is L = ((0, 0), tellE B 0 is) := by rw [hullE, if_neg h]
      rw [hw] at hR
      exact hR _ _ ⟨⟨⟨rfl, rfl⟩, ⟨rfl, rfl⟩, trivial⟩, ⟨rfl, (by show tellE ⟨mk, l1, l2, c1, c2, rdL n fun i => rdC (rd i)⟩ 0 (inB q 0 (((rdL n fun i => rdC (rd i)).length : Int) - 1)) = tellE B 0 is; rw [hB', his'])⟩, trivial⟩ rfl
    · have h : (!decide (tellE ⟨mk, l1, l2, c1, c2, rdL n fun i => rdC (rd i)⟩ 0 (inB q 0 (((rdL n fun i => rdC (rd i)).length : Int) - 1)) = 0)) = false := h
      rw [hB', his'] at h
      have h : tellE B 0 is = 0 := by simpa using h
      obtain ⟨hok, hist, hLL, hpos, hle⟩ := tell_some h
      have hw : hullE B is L = (hullV B L, 0) := by rw [hullE, if_pos h]
      rw [hw] at hR
      rw [hist] at his
      have hq : 0 ≤ q ∧ q ≤ (B.rs.length : Int) - 1 := by simpa only [inB, Bool.and_eq_true, decide_eq_true_eq] using his
      obtain ⟨pv, hpv⟩ : ∃ pv, pairsV B = pv := ⟨_, rfl⟩
      have hL' : tellL ⟨mk, l1, l2, c1, c2, rdL n fun i => rdC (rd i)⟩ 0 (inB q 0 (((rdL n fun i => rdC (rd i)).length : Int) - 1)) = pv := by rw [hB', his', hLL, hpv]
      have hpb : ∀ p ∈ pv, -1000 ≤ p.1 ∧ p.1 ≤ 1000 ∧ 0 ≤ p.2 ∧ p.2 ≤ 20 := fun p hp => pair_b hok (by rw [hpv]; exact hp)
      have hhv : hullV B L = endsV (pv.flatMap L) := by rw [hullV, hpv]
      rw [hhv] at hR
      rw [hpv] at hpos hle
      have hmem : rdGet B.rs q ∈ B.rs := by
        unfold rdGet
        rw [List.getD_eq_getElem?_getD, List.getElem?_eq_getElem (by omega)]
        exact List.getElem_mem _
      have hrb := rdOk_b ((blk_b hok).2.2.2.2 _ hmem)
      have hL5 : ∀ p, (L p).length ≤ 5 := fun p => by rw [← hLd]; exact warmV_len _ _ _ (by omega)
      have hfl := fmI_len (L := L) (pv := pv) (m := 5) (fun p _ => hL5 p)
      have hLp : ∀ p ∈ pv, 0 < (L p).length := fun p hp => by
        have h1 := (pairs_mem.1 (by rw [hpv]; exact hp : p ∈ pairsV B)).2
        unfold okP at h1
        have h2 := List.all_eq_true.1 h1 _ hmem
        rw [← canV_len, decide_eq_true_eq] at h2
        rw [← hLd]
        simp only
        rw [hmk]
        omega
      refine nil_slot 8 3 1 (lC []) rfl ?_
      refine loop_okR (g.ok _ _ _) 43 (fun x : {i : Nat // i ≤ pv.length} => ⟨[(1, ⟨[], .si .i64 q⟩), (2, ⟨[], .sp 1 0⟩), (4, ⟨[], .sp 2 0⟩), (5, ⟨[], .si .i64 0⟩), (6, ⟨[], .sl 19⟩), (8, ⟨[], .sl 43⟩), (9, ⟨[], .si .i64 (x.1 : Nat)⟩)], [],
        [(43, .vec 3 1 (fmI L pv x.1).length (lC (fmI L pv x.1))), (19, .vec 39 2 pv.length (pC pv)), (2, .cells 24 [.si .i64 0, .si .i64 0]), (1, .cells 36 (bC mk l1 l2 c1 c2 0)), (0, .ro 4 n fun i => rdC (rd i))], 44, []⟩) (fun x => pv.length - x.1) (fun j hj => hG j (by omega)) ⟨0, Nat.zero_le _⟩ (fun j => j) ?_ ?_
      · refine ⟨?_, ?_, rfl, rfl, rfl, rfl, trivial⟩
        · repeat' (first | exact trivial | exact rfl | refine And.intro ?_ ?_)
        · repeat' (first | exact trivial | exact rfl | (intro i hi; exact ⟨rfl, rfl⟩) | (show (tellL ⟨mk, l1, l2, c1, c2, rdL n fun i => rdC (rd i)⟩ 0 (inB q 0 (((rdL n fun i => rdC (rd i)).length : Int) - 1))).length = pv.length; rw [hL']) | (intro i hi; exact ⟨(by show pC (tellL ⟨mk, l1, l2, c1, c2, rdL n fun i => rdC (rd i)⟩ 0 (inB q 0 (((rdL n fun i => rdC (rd i)).length : Int) - 1))) i = pC pv i; rw [hL']), rfl⟩) | refine And.intro ?_ ?_)
      · rintro ⟨i, hi⟩
        refine Br.mk (fun h2 => ?_) (fun h2 => ?_)
        · have h2 : (i : Int) < (pv.length : Int) := of_decide_eq_true h2
          have hs := fmI_succ (L := L) (pv := pv) (i := i) (by omega)
          have hl1 := hfl i
          have hpi := hpb _ (getD_mem (pv := pv) (i := i) (by omega))
          have hl5 := hL5 (pv.getD i (0, 0))
          have hLe : warmV mk (pv.getD i (0, 0)) (rdGet (rdL n fun i => rdC (rd i)) q) = L (pv.getD i (0, 0)) := by rw [← hLd, ← hrs]; rfl
          have hlq : (rdL n fun i => rdC (rd i)).length = B.rs.length := by rw [← hrs]; rfl
          have hpre : (Rds n fun i => rdC (rd i)) ∧ knL 0 [] [SV.agg [.si .i64 (pv.getD i (0, 0)).1, .si .i64 (pv.getD i (0, 0)).2], .si .i64 q] = true ∧ PreH (some (blkOk ⟨mk, l1, l2, c1, c2, rdL n fun i => rdC (rd i)⟩ = true ∧ smB 1000000 (pv.getD i (0, 0)).1 ∧ smB 1000 (pv.getD i (0, 0)).2 ∧ 0 ≤ q ∧ q < ((rdL n fun i => rdC (rd i)).length : Int))) :=
            ⟨rds_rd _ _, rfl, by rw [hB']; exact hok, ⟨by omega, by omega⟩, ⟨by omega, by omega⟩, hq.1, by rw [hlq]; omega⟩
          refine any_region (by kernel_rfl) ?_
          show AnyS _ _ 10 _ _ _
          refine any_take 0 (g.ok _ _ _) rfl rfl rfl rfl rfl rfl rfl (by kernel_rfl) (by kernel_rfl) (by kernel_rfl) ?_
          refine any_take 2 (g.ok _ _ _) rfl rfl rfl rfl rfl rfl rfl (by kernel_rfl) (by kernel_rfl) (by kernel_rfl) ?_
          refine any_take 3 (g.ok _ _ _) rfl rfl rfl rfl rfl rfl rfl (by kernel_rfl) (by kernel_rfl) (by kernel_rfl) ?_
          refine any_take 6 (g.ok _ _ _) rfl rfl rfl rfl rfl rfl rfl (by kernel_rfl) (by kernel_rfl) (by kernel_rfl) ?_
          refine any_step [1, 4] (g.ok _ _ _) (by kernel_rfl) (by decide) ⟨?_, ?_, trivial⟩
          · skip
            refine any_step [4] (g.ok _ _ _) (by kernel_rfl) (by decide) ⟨?_, trivial⟩
            refine Chk.mk (show (0 : Int) ≤ (i : Int) ∧ (i : Int) < (pv.length : Int) from ⟨by omega, h2⟩) ?_
            refine any_step [5] (g.ok _ _ _) (by kernel_rfl) (by decide) ⟨?_, trivial⟩
            refine any_step [7] (g.ok _ _ _) (by kernel_rfl) (by decide) ⟨?_, trivial⟩
            refine Chk.mk hpre ?_
            refine any_step [8] (g.ok _ _ _) (by kernel_rfl) (by decide) ⟨?_, trivial⟩
            refine fb_append (Te := 0) 43 44 (fmI L pv i).length (warmV mk (pv.getD i (0, 0)) (rdGet (rdL n fun i => rdC (rd i)) q)).length _ _ (lC (fmI L pv (i + 1))) (g.ok _ _ _) cont_any rfl rfl rfl rfl rfl rfl rfl rfl rfl rfl rfl rfl (by decide) (by decide) rfl rfl rfl rfl (by rw [hLe]; omega) ?_ ?_
            · intro j hj
              show lC (fmI L pv (i + 1)) j = if j < (fmI L pv i).length then lC (fmI L pv i) j else lC (warmV mk (pv.getD i (0, 0)) (rdGet (rdL n fun i => rdC (rd i)) q)) (j - (fmI L pv i).length)
              rw [hLe] at hj ⊢
              rw [hs]
              exact lC_app _ _ _ hj
            refine any_step [9] (g.ok _ _ _) (by kernel_rfl) (by decide) ⟨?_, trivial⟩
            refine any_done (by kernel_rfl) ?_
            refine Chk.mk (show InK .i64 ((i : Int) + 1) from ⟨by omega, by omega⟩) ⟨⟨i + 1, by omega⟩, (fun j => if j = 43 then 48 else j), ?_, (by show pv.length - (i + 1) < pv.length - i; omega)⟩
            refine ⟨?_, ?_, rfl, rfl, rfl, rfl, trivial⟩
            · repeat' (first | exact trivial | exact rfl | refine And.intro ?_ ?_)
            · repeat' (first | exact trivial | exact rfl | (intro i hi; exact ⟨rfl, rfl⟩) | refine And.intro ?_ ?_)
              show (fmI L pv i).length + (warmV mk (pv.getD i (0, 0)) (rdGet (rdL n fun i => rdC (rd i)) q)).length = (fmI L pv (i + 1)).length
              rw [hs, List.length_append, hLe]
          · refine Chk.mk (show (0 : Int) ≤ (i : Int) ∧ (i : Int) < (pv.length : Int) from ⟨by omega, h2⟩) ?_
            refine any_step [1, 5] (g.ok _ _ _) (by kernel_rfl) (by decide) ⟨?_, ?_, trivial⟩
            · skip
              refine any_step [5] (g.ok _ _ _) (by kernel_rfl) (by decide) ⟨?_, trivial⟩
              refine any_step [7] (g.ok _ _ _) (by kernel_rfl) (by decide) ⟨?_, trivial⟩
              refine Chk.mk hpre ?_
              refine any_step [8] (g.ok _ _ _) (by kernel_rfl) (by decide) ⟨?_, trivial⟩
              refine fb_append (Te := 0) 43 44 (fmI L pv i).length (warmV mk (pv.getD i (0, 0)) (rdGet (rdL n fun i => rdC (rd i)) q)).length _ _ (lC (fmI L pv (i + 1))) (g.ok _ _ _) cont_any rfl rfl rfl rfl rfl rfl rfl rfl rfl rfl rfl rfl (by decide) (by decide) rfl rfl rfl rfl (by rw [hLe]; omega) ?_ ?_
              · intro j hj
                show lC (fmI L pv (i + 1)) j = if j < (fmI L pv i).length then lC (fmI L pv i) j else lC (warmV mk (pv.getD i (0, 0)) (rdGet (rdL n fun i => rdC (rd i)) q)) (j - (fmI L pv i).length)
                rw [hLe] at hj ⊢
                rw [hs]
                exact lC_app _ _ _ hj
              refine any_step [9] (g.ok _ _ _) (by kernel_rfl) (by decide) ⟨?_, trivial⟩
              refine any_done (by kernel_rfl) ?_
              refine Chk.mk (show InK .i64 ((i : Int) + 1) from ⟨by omega, by omega⟩) ⟨⟨i + 1, by omega⟩, (fun j => if j = 43 then 48 else j), ?_, (by show pv.length - (i + 1) < pv.length - i; omega)⟩
              refine ⟨?_, ?_, rfl, rfl, rfl, rfl, trivial⟩
              · repeat' (first | exact trivial | exact rfl | refine And.intro ?_ ?_)
              · repeat' (first | exact trivial | exact rfl | (intro i hi; exact ⟨rfl, rfl⟩) | refine And.intro ?_ ?_)
                show (fmI L pv i).length + (warmV mk (pv.getD i (0, 0)) (rdGet (rdL n fun i => rdC (rd i)) q)).length = (fmI L pv (i + 1)).length
                rw [hs, List.length_append, hLe]
            · skip
              refine any_step [1] (g.ok _ _ _) (by kernel_rfl) (by decide) ⟨?_, trivial⟩
              refine any_step [7] (g.ok _ _ _) (by kernel_rfl) (by decide) ⟨?_, trivial⟩
              refine Chk.mk hpre ?_
              refine any_step [8] (g.ok _ _ _) (by kernel_rfl) (by decide) ⟨?_, trivial⟩
              refine fb_append (Te := 0) 43 44 (fmI L pv i).length (warmV mk (pv.getD i (0, 0)) (rdGet (rdL n fun i => rdC (rd i)) q)).length _ _ (lC (fmI L pv (i + 1))) (g.ok _ _ _) cont_any rfl rfl rfl rfl rfl rfl rfl rfl rfl rfl rfl rfl (by decide) (by decide) rfl rfl rfl rfl (by rw [hLe]; omega) ?_ ?_
              · intro j hj
                show lC (fmI L pv (i + 1)) j = if j < (fmI L pv i).length then lC (fmI L pv i) j else lC (warmV mk (pv.getD i (0, 0)) (rdGet (rdL n fun i => rdC (rd i)) q)) (j - (fmI L pv i).length)
                rw [hLe] at hj ⊢
                rw [hs]
                exact lC_app _ _ _ hj
              refine any_step [9] (g.ok _ _ _) (by kernel_rfl) (by decide) ⟨?_, trivial⟩
              refine any_done (by kernel_rfl) ?_
              refine Chk.mk (show InK .i64 ((i : Int) + 1) from ⟨by omega, by omega⟩) ⟨⟨i + 1, by omega⟩, (fun j => if j = 43 then 48 else j), ?_, (by show pv.length - (i + 1) < pv.length - i; omega)⟩
              refine ⟨?_, ?_, rfl, rfl, rfl, rfl, trivial⟩
              · repeat' (first | exact trivial | exact rfl | refine And.intro ?_ ?_)
              · repeat' (first | exact trivial | exact rfl | (intro i hi; exact ⟨rfl, rfl⟩) | refine And.intro ?_ ?_)
                show (fmI L pv i).length + (warmV mk (pv.getD i (0, 0)) (rdGet (rdL n fun i => rdC (rd i)) q)).length = (fmI L pv (i + 1)).length
                rw [hs, List.length_append, hLe]
        · have h2 : ¬ (i : Int) < (pv.length : Int) := of_decide_eq_false h2
          obtain rfl : i = pv.length := by omega
          have hall : fmI L pv pv.length = pv.flatMap L := fmI_all _ _
          have hlen := flat_pos hpos hLp
          rw [← hall] at hlen
          have hl1 := hfl pv.length
          have hbd : ∀ x ∈ fmI L pv pv.length, -1000000000 ≤ x ∧ x ≤ 1000000000 := fun x hx => by
            rw [hall] at hx
            obtain ⟨p, hp, hx⟩ := List.mem_flatMap.1 hx
            rw [← hLd] at hx
            have := warmV_b hx
            omega
          refine Chk.mk ⟨lC_ints _ _, (show 0 < (fmI L pv pv.length).length by omega), (show (fmI L pv pv.length).length ≤ 1000000 by omega), lC_b hbd⟩ ?_
          have hil : intL (fmI L pv pv.length).length (lC (fmI L pv pv.length)) = pv.flatMap L := by rw [intL_lC rfl, hall]
          refine hR _ _ ⟨⟨⟨rfl, ?_⟩, ⟨rfl, ?_⟩, trivial⟩, ⟨rfl, rfl⟩, trivial⟩ rfl
          · show (endsV (intL (fmI L pv pv.length).length (lC (fmI L pv pv.length)))).1 = _
            rw [hil]
          · show (endsV (intL (fmI L pv pv.length).length (lC (fmI L pv pv.length)))).2 = _
            rw [hil]
  · cases hk
theorem g29 {l : List (Nat × Ct)} (g : Good P T l) : Good P T ((29, c28) :: l) := g.add (k29 g) (wmCt_mono _) (body_of Try.func29 (c := code Try.f29) rfl (by decide))
end Go.X.W
end

section
set_option linter.unusedVariables false
set_option linter.unusedSimpArgs false
set_option linter.unusedSectionVars false
/- Warm: Shows of the document. -/
set_option linter.unusedVariables false
set_option linter.unusedSimpArgs false
set_option maxRecDepth 10000
set_option maxHeartbeats 4000000
namespace Go.X.W
open Go Go.Proofs Go.X

/-- What is shown at all warmths from one to another one. -/
def shL (mk lo t : Int) (p : Pr) : List Int := (iota lo (t - 1)).map (showV mk p)
theorem shL_first (mk lo : Int) (p : Pr) : shL mk lo lo p = [] := by
  unfold shL
  rw [iota_nil (by omega)]
  rfl
theorem shL_next {mk lo t : Int} (p : Pr) (h : lo ≤ t) : shL mk lo (t + 1) p = shL mk lo t p ++ [showV mk p t] := by
  unfold shL
  rw [show t + 1 - 1 = t by omega, iota_snoc h, List.map_append]
  rfl
theorem shL_len (mk lo t : Int) (p : Pr) : (shL mk lo t p).length = (t - lo).toNat := by
  unfold shL
  rw [List.length_map, iota_len]
  omega
theorem show_mono {mk : Int} {p : Pr} {s t : Int} (h0 : 0 ≤ mk) (h1 : 0 ≤ p.2) (h : s ≤ t) : showV mk p s ≤ showV mk p t := by
  have : mk * p.2 * s ≤ mk * p.2 * t := Int.mul_le_mul_of_nonneg_left h (Int.mul_nonneg h0 h1)
  show p.1 + mk * p.2 * s / 10 ≤ p.1 + mk * p.2 * t / 10
  omega
theorem ends_mono {mk : Int} {p : Pr} {lo : Int} (h0 : 0 ≤ mk) (h1 : 0 ≤ p.2) (s : Int × Int) : ∀ k : Nat, (shL mk lo (lo + k + 1) p).foldl endF s = (showL mk lo (lo + k) p).foldl endF s
  | 0 => by
    rw [show lo + ((0 : Nat) : Int) + 1 = lo + 1 by omega, shL_next p (by omega), shL_first]
    simp only [List.nil_append, showL, List.foldl_cons, List.foldl_nil, endF, show lo + ((0 : Nat) : Int) = lo by omega, Prod.mk.injEq]
    omega
  | k + 1 => by
    have ih := ends_mono (mk := mk) (p := p) (lo := lo) h0 h1 s k
    rw [show lo + ((k + 1 : Nat) : Int) + 1 = (lo + k + 1) + 1 by push_cast; omega, shL_next p (by omega), List.foldl_append, ih]
    have h2 := show_mono (mk := mk) (p := p) (s := lo) (t := lo + k) h0 h1 (by omega)
    have h3 := show_mono (mk := mk) (p := p) (s := lo + k) (t := lo + k + 1) h0 h1 (by omega)
    rw [show lo + ((k + 1 : Nat) : Int) = lo + k + 1 by push_cast; omega]
    simp only [showL, List.foldl_cons, List.foldl_nil, endF, Prod.mk.injEq]
    omega
theorem ends_flat {mk lo hi : Int} (h0 : 0 ≤ mk) (hl : lo ≤ hi) : ∀ {pv : List Pr}, (∀ p ∈ pv, 0 ≤ p.2) → ∀ s, (pv.flatMap (shL mk lo (hi + 1))).foldl endF s = (pv.flatMap (showL mk lo hi)).foldl endF s
  | [], _, s => rfl
  | p :: r, h, s => by
    rw [List.flatMap_cons, List.flatMap_cons, List.foldl_append, List.foldl_append, ends_flat h0 hl (fun q hq => h q (List.mem_cons_of_mem _ hq))]
    have := ends_mono (lo := lo) h0 (h p List.mem_cons_self) s (hi - lo).toNat
    rw [show lo + (((hi - lo).toNat : Nat) : Int) = hi by omega] at this
    rw [this]
theorem show_b {mk : Int} {p : Pr} {t : Int} (h0 : 0 ≤ mk ∧ mk ≤ 100) (h1 : -1000 ≤ p.1 ∧ p.1 ≤ 1000 ∧ 0 ≤ p.2 ∧ p.2 ≤ 20) (ht : -100 ≤ t ∧ t ≤ 100) : -1000000 ≤ showV mk p t ∧ showV mk p t ≤ 1000000 := by
  have h2 : 0 ≤ mk * p.2 := Int.mul_nonneg h0.1 h1.2.2.1
  have h3 : mk * p.2 ≤ 100 * 20 := Int.mul_le_mul h0.2 h1.2.2.2 h1.2.2.1 (by decide)
  have h4 : mk * p.2 * t ≤ mk * p.2 * 100 := Int.mul_le_mul_of_nonneg_left ht.2 h2
  have h5 : mk * p.2 * (-100) ≤ mk * p.2 * t := Int.mul_le_mul_of_nonneg_left ht.1 h2
  show -1000000 ≤ p.1 + mk * p.2 * t / 10 ∧ p.1 + mk * p.2 * t / 10 ≤ 1000000
  omega
theorem k31 {l : List (Nat × Ct)} (g0 : Good P T l) : COk P 31 c30 := by
  have g := g17 (g83 (g71 (g72 g0)))
  refine cok (C := tabC _) g.ok Try.func31 (c := code Try.f31) rfl fun fr args H out h hp => wmWalk h hp fun mk l1 l2 c1 c2 n rd r p v Rv Rp hk hp hR => ?_
  split at hk
  · rename_i lo hi
    cases hk
    refine ⟨Nat.le_of_ble_eq_true rfl, fun G hG => ?_⟩
    obtain ⟨B, hBe⟩ : ∃ B : Blk, (⟨mk, l1, l2, c1, c2, (List.range n).map rd⟩ : Blk) = B := ⟨_, rfl⟩
    have hB' : (⟨mk, l1, l2, c1, c2, rdL n fun i => rdC (rd i)⟩ : Blk) = B := hBe
    have hmk : mk = B.mark := by rw [← hBe]
    rw [hBe] at hR
    rw [← hmk] at hR
    refine drawn_ok (g.ok _ _ _) fol [0,0,2,7,15,31,31,63,255] [] 9 (by kernel_rfl) ?_
    refine Chk.mk ⟨rds_rd _ _, rfl, trivial⟩ ?_
    obtain ⟨is, his⟩ : ∃ is : Bool, spanB lo hi (-100) 100 200 = is := ⟨_, rfl⟩
    refine Br.mk (fun h => ?_) (fun h => ?_)
    · have h : (!decide (tellE ⟨mk, l1, l2, c1, c2, rdL n fun i => rdC (rd i)⟩ 0 (spanB lo hi (-100) 100 200) = 0)) = true := h
      rw [hB', his] at h
      rw [his] at hR
      have h : ¬ tellE B 0 is = 0 := by simpa using h
      have hw : hullE B is (showL mk lo hi) = ((0, 0), tellE B 0 is) := by rw [hullE, if_neg h]
      rw [hw] at hR
      exact hR _ _ ⟨⟨⟨rfl, rfl⟩, ⟨rfl, rfl⟩, trivial⟩, ⟨rfl, (by show tellE ⟨mk, l1, l2, c1, c2, rdL n fun i => rdC (rd i)⟩ 0 (spanB lo hi (-100) 100 200) = tellE B 0 is; rw [hB', his])⟩, trivial⟩ rfl
    · have h : (!decide (tellE ⟨mk, l1, l2, c1, c2, rdL n fun i => rdC (rd i)⟩ 0 (spanB lo hi (-100) 100 200) = 0)) = false := h
      rw [hB', his] at h
      rw [his] at hR
      have h : tellE B 0 is = 0 := by simpa using h
      obtain ⟨hok, hist, hLL, hpos, hle⟩ := tell_some h
      have hw : hullE B is (showL mk lo hi) = (hullV B (showL mk lo hi), 0) := by rw [hullE, if_pos h]
      rw [hw] at hR
      have hsp : -100 ≤ lo ∧ lo ≤ hi ∧ hi ≤ 100 := by
        rw [hist] at his
        simp only [spanB, Bool.and_eq_true, decide_eq_true_eq] at his
        omega
      obtain ⟨pv, hpv⟩ : ∃ pv, pairsV B = pv := ⟨_, rfl⟩
      have hL' : tellL ⟨mk, l1, l2, c1, c2, rdL n fun i => rdC (rd i)⟩ 0 (spanB lo hi (-100) 100 200) = pv := by rw [hB', his, hLL, hpv]
      have hpb : ∀ p ∈ pv, -1000 ≤ p.1 ∧ p.1 ≤ 1000 ∧ 0 ≤ p.2 ∧ p.2 ≤ 20 := fun p hp => pair_b hok (by rw [hpv]; exact hp)
      have hmb := (blk_b hok).1
      rw [← hmk] at hmb
      have hhv : hullV B (showL mk lo hi) = endsV (pv.flatMap (shL mk lo (hi + 1))) := by
        rw [hullV, hpv]
        exact (ends_flat (by omega) hsp.2.1 (fun p hp => (hpb p hp).2.2.1) _).symm
      rw [hhv] at hR
      rw [hpv] at hpos hle
      have hm201 : ∀ p, (shL mk lo (hi + 1) p).length ≤ 201 := fun p => by rw [shL_len]; omega
      have hfl := fmI_len (L := shL mk lo (hi + 1)) (pv := pv) (m := 201) (fun p _ => hm201 p)
      have hLp : ∀ p ∈ pv, 0 < (shL mk lo (hi + 1) p).length := fun p hp => by rw [shL_len]; omega
      refine nil_slot 8 3 1 (lC []) rfl ?_
      refine loop_okR (g.ok _ _ _) 40 (fun x : {i : Nat // i ≤ pv.length} => ⟨[(2, ⟨[], .sp 1 0⟩), (3, ⟨[], .sp 2 0⟩), (4, ⟨[], .sp 3 0⟩), (5, ⟨[], .si .i64 0⟩), (6, ⟨[], .sl 16⟩), (8, ⟨[], .sl 40⟩), (9, ⟨[], .si .i64 (x.1 : Nat)⟩)], [],
        [(40, .vec 3 1 (fmI (shL mk lo (hi + 1)) pv x.1).length (lC (fmI (shL mk lo (hi + 1)) pv x.1))), (16, .vec 39 2 pv.length (pC pv)), (3, .cells 24 [.si .i64 0, .si .i64 0]), (2, .cells 24 [.si .i64 lo, .si .i64 hi]), (1, .cells 36 (bC mk l1 l2 c1 c2 0)), (0, .ro 4 n fun i => rdC (rd i))], 41, []⟩) (fun x => pv.length - x.1) (fun j hj => hG j (by omega)) ⟨0, Nat.zero_le _⟩ (fun j => j) ?_ ?_
      · refine ⟨?_, ?_, rfl, rfl, rfl, rfl, trivial⟩
        · repeat' (first | exact trivial | exact rfl | refine And.intro ?_ ?_)
        · repeat' (first | exact trivial | exact rfl | (intro i hj; exact ⟨rfl, rfl⟩) | (show (tellL ⟨mk, l1, l2, c1, c2, rdL n fun i => rdC (rd i)⟩ 0 (spanB lo hi (-100) 100 200)).length = pv.length; rw [hL']) | (intro i hj; exact ⟨(by show pC (tellL ⟨mk, l1, l2, c1, c2, rdL n fun i => rdC (rd i)⟩ 0 (spanB lo hi (-100) 100 200)) i = pC pv i; rw [hL']), rfl⟩) | refine And.intro ?_ ?_)
      · rintro ⟨i, hiv⟩
        refine Br.mk (fun h2 => ?_) (fun h2 => ?_)
        · have h2 : (i : Int) < (pv.length : Int) := of_decide_eq_true h2
          have hs := fmI_succ (L := shL mk lo (hi + 1)) (pv := pv) (i := i) (by omega)
          have hl1 := hfl i
          have hpi := hpb _ (getD_mem (pv := pv) (i := i) (by omega))
          refine loop_okR (g.ok _ _ _) 40 (fun z : {t : Int // lo ≤ t ∧ t ≤ hi + 1} => ⟨[(2, ⟨[], .sp 1 0⟩), (3, ⟨[], .sp 2 0⟩), (4, ⟨[], .sp 3 0⟩), (5, ⟨[], .si .i64 0⟩), (6, ⟨[], .sl 16⟩), (8, ⟨[], .sl 40⟩), (9, ⟨[], .si .i64 (i : Nat)⟩), (10, ⟨[], .si .i64 z.1⟩)], [],
            [(40, .vec 3 1 (fmI (shL mk lo (hi + 1)) pv i ++ shL mk lo z.1 (pv.getD i (0, 0))).length (lC (fmI (shL mk lo (hi + 1)) pv i ++ shL mk lo z.1 (pv.getD i (0, 0))))), (16, .vec 39 2 pv.length (pC pv)), (3, .cells 24 [.si .i64 0, .si .i64 0]), (2, .cells 24 [.si .i64 lo, .si .i64 hi]), (1, .cells 36 (bC mk l1 l2 c1 c2 0)), (0, .ro 4 n fun i => rdC (rd i))], 41, []⟩) (fun z => (hi + 1 - z.1).toNat) (fun j hj => hG j (by omega)) ⟨lo, by omega, by omega⟩ (fun j => j) ?_ ?_
          · refine ⟨?_, ?_, rfl, rfl, rfl, rfl, trivial⟩
            · repeat' (first | exact trivial | exact rfl | refine And.intro ?_ ?_)
            · rw [shL_first, List.append_nil]
              repeat' (first | exact trivial | exact rfl | (intro i hj; exact ⟨rfl, rfl⟩) | refine And.intro ?_ ?_)
          · rintro ⟨t, ht1, ht2⟩
            have hl2 := shL_len mk lo t (pv.getD i (0, 0))
            refine Br.mk (fun h3 => ?_) (fun h3 => ?_)
            · have h3 : t ≤ hi := of_decide_eq_true h3
              have hn := shL_next (mk := mk) (pv.getD i (0, 0)) ht1
              have hpre : (Rds n fun i => rdC (rd i)) ∧ knL 0 [] [SV.agg [.si .i64 (pv.getD i (0, 0)).1, .si .i64 (pv.getD i (0, 0)).2], .si .i64 t] = true ∧ PreH (some (smB 1000000 (pv.getD i (0, 0)).1 ∧ smB 1000 mk ∧ smB 1000 (pv.getD i (0, 0)).2 ∧ smB 1000 t)) :=
                ⟨rds_rd _ _, rfl, ⟨by omega, by omega⟩, ⟨by omega, by omega⟩, ⟨by omega, by omega⟩, ⟨by omega, by omega⟩⟩
              have hll : (fmI (shL mk lo (hi + 1)) pv i ++ shL mk lo t (pv.getD i (0, 0))).length + 1 ≤ 1000000 := by
                rw [List.length_append]
                omega
              refine any_region (by kernel_rfl) ?_
              show AnyS _ _ 11 _ _ _
              refine any_take 0 (g.ok _ _ _) rfl rfl rfl rfl rfl rfl rfl (by kernel_rfl) (by kernel_rfl) (by kernel_rfl) ?_
              refine any_take 2 (g.ok _ _ _) rfl rfl rfl rfl rfl rfl rfl (by kernel_rfl) (by kernel_rfl) (by kernel_rfl) ?_
              refine any_take 3 (g.ok _ _ _) rfl rfl rfl rfl rfl rfl rfl (by kernel_rfl) (by kernel_rfl) (by kernel_rfl) ?_
              refine any_take 6 (g.ok _ _ _) rfl rfl rfl rfl rfl rfl rfl (by kernel_rfl) (by kernel_rfl) (by kernel_rfl) ?_
              refine any_step [1, 4] (g.ok _ _ _) (by kernel_rfl) (by decide) ⟨?_, ?_, trivial⟩
              · skip
                refine any_step [4] (g.ok _ _ _) (by kernel_rfl) (by decide) ⟨?_, trivial⟩
                refine Chk.mk (show (0 : Int) ≤ (i : Int) ∧ (i : Int) < (pv.length : Int) from ⟨by omega, h2⟩) ?_
                refine any_step [5] (g.ok _ _ _) (by kernel_rfl) (by decide) ⟨?_, trivial⟩
                refine any_step [7] (g.ok _ _ _) (by kernel_rfl) (by decide) ⟨?_, trivial⟩
                refine Chk.mk hpre ?_
                refine any_step [8] (g.ok _ _ _) (by kernel_rfl) (by decide) ⟨?_, trivial⟩
                refine any_step [9] (g.ok _ _ _) (by kernel_rfl) (by decide) ⟨?_, trivial⟩
                refine fb_append (Te := 0) 40 41 (fmI (shL mk lo (hi + 1)) pv i ++ shL mk lo t (pv.getD i (0, 0))).length 1 _ _ (lC (fmI (shL mk lo (hi + 1)) pv i ++ shL mk lo (t + 1) (pv.getD i (0, 0)))) (g.ok _ _ _) cont_any rfl rfl rfl rfl rfl rfl rfl rfl rfl rfl rfl rfl (by decide) (by decide) rfl rfl rfl rfl hll ?_ ?_
                · intro j hj
                  rw [hn, ← List.append_assoc, lC_snoc _ _ _ hj]
                  by_cases hlt : j < (fmI (shL mk lo (hi + 1)) pv i ++ shL mk lo t (pv.getD i (0, 0))).length
                  · rw [if_pos hlt, if_pos hlt]
                  · rw [if_neg hlt, if_neg hlt, show j - (fmI (shL mk lo (hi + 1)) pv i ++ shL mk lo t (pv.getD i (0, 0))).length = 0 by omega]
                    rfl
                refine any_step [10] (g.ok _ _ _) (by kernel_rfl) (by decide) ⟨?_, trivial⟩
                refine any_done (by kernel_rfl) ?_
                refine Chk.mk (show InK .i64 (t + 1) from ⟨by omega, by omega⟩) ⟨⟨t + 1, by omega, by omega⟩, (fun j => if j = 40 then 42 else j), ?_, (by show (hi + 1 - (t + 1)).toNat < (hi + 1 - t).toNat; omega)⟩
                refine ⟨?_, ?_, rfl, rfl, rfl, rfl, trivial⟩
                · repeat' (first | exact trivial | exact rfl | refine And.intro ?_ ?_)
                · repeat' (first | exact trivial | exact rfl | (intro i hj; exact ⟨rfl, rfl⟩) | refine And.intro ?_ ?_)
                  show (fmI (shL mk lo (hi + 1)) pv i ++ shL mk lo t (pv.getD i (0, 0))).length + 1 = (fmI (shL mk lo (hi + 1)) pv i ++ shL mk lo (t + 1) (pv.getD i (0, 0))).length
                  rw [hn, ← List.append_assoc]
                  simp only [List.length_append, List.length_cons, List.length_nil]
              · refine Chk.mk (show (0 : Int) ≤ (i : Int) ∧ (i : Int) < (pv.length : Int) from ⟨by omega, h2⟩) ?_
                refine any_step [1, 5] (g.ok _ _ _) (by kernel_rfl) (by decide) ⟨?_, ?_, trivial⟩
                · skip
                  refine any_step [5] (g.ok _ _ _) (by kernel_rfl) (by decide) ⟨?_, trivial⟩
                  refine any_step [7] (g.ok _ _ _) (by kernel_rfl) (by decide) ⟨?_, trivial⟩
                  refine Chk.mk hpre ?_
                  refine any_step [8] (g.ok _ _ _) (by kernel_rfl) (by decide) ⟨?_, trivial⟩
                  refine any_step [9] (g.ok _ _ _) (by kernel_rfl) (by decide) ⟨?_, trivial⟩
                  refine fb_append (Te := 0) 40 41 (fmI (shL mk lo (hi + 1)) pv i ++ shL mk lo t (pv.getD i (0, 0))).length 1 _ _ (lC (fmI (shL mk lo (hi + 1)) pv i ++ shL mk lo (t + 1) (pv.getD i (0, 0)))) (g.ok _ _ _) cont_any rfl rfl rfl rfl rfl rfl rfl rfl rfl rfl rfl rfl (by decide) (by decide) rfl rfl rfl rfl hll ?_ ?_
                  · intro j hj
                    rw [hn, ← List.append_assoc, lC_snoc _ _ _ hj]
                    by_cases hlt : j < (fmI (shL mk lo (hi + 1)) pv i ++ shL mk lo t (pv.getD i (0, 0))).length
                    · rw [if_pos hlt, if_pos hlt]
                    · rw [if_neg hlt, if_neg hlt, show j - (fmI (shL mk lo (hi + 1)) pv i ++ shL mk lo t (pv.getD i (0, 0))).length = 0 by omega]
                      rfl
                  refine any_step [10] (g.ok _ _ _) (by kernel_rfl) (by decide) ⟨?_, trivial⟩
                  refine any_done (by kernel_rfl) ?_
                  refine Chk.mk (show InK .i64 (t + 1) from ⟨by omega, by omega⟩) ⟨⟨t + 1, by omega, by omega⟩, (fun j => if j = 40 then 42 else j), ?_, (by show (hi + 1 - (t + 1)).toNat < (hi + 1 - t).toNat; omega)⟩
                  refine ⟨?_, ?_, rfl, rfl, rfl, rfl, trivial⟩
                  · repeat' (first | exact trivial | exact rfl | refine And.intro ?_ ?_)
                  · repeat' (first | exact trivial | exact rfl | (intro i hj; exact ⟨rfl, rfl⟩) | refine And.intro ?_ ?_)
                    show (fmI (shL mk lo (hi + 1)) pv i ++ shL mk lo t (pv.getD i (0, 0))).length + 1 = (fmI (shL mk lo (hi + 1)) pv i ++ shL mk lo (t + 1) (pv.getD i (0, 0))).length
                    rw [hn, ← List.append_assoc]
                    simp only [List.length_append, List.length_cons, List.length_nil]
                · skip
                  refine any_step [1] (g.ok _ _ _) (by kernel_rfl) (by decide) ⟨?_, trivial⟩
                  refine any_step [7] (g.ok _ _ _) (by kernel_rfl) (by decide) ⟨?_, trivial⟩
                  refine Chk.mk hpre ?_
                  refine any_step [8] (g.ok _ _ _) (by kernel_rfl) (by decide) ⟨?_, trivial⟩
                  refine any_step [9] (g.ok _ _ _) (by kernel_rfl) (by decide) ⟨?_, trivial⟩
                  refine fb_append (Te := 0) 40 41 (fmI (shL mk lo (hi + 1)) pv i ++ shL mk lo t (pv.getD i (0, 0))).length 1 _ _ (lC (fmI (shL mk lo (hi + 1)) pv i ++ shL mk lo (t + 1) (pv.getD i (0, 0)))) (g.ok _ _ _) cont_any rfl rfl rfl rfl rfl rfl rfl rfl rfl rfl rfl rfl (by decide) (by decide) rfl rfl rfl rfl hll ?_ ?_
                  · intro j hj
                    rw [hn, ← List.append_assoc, lC_snoc _ _ _ hj]
                    by_cases hlt : j < (fmI (shL mk lo (hi + 1)) pv i ++ shL mk lo t (pv.getD i (0, 0))).length
                    · rw [if_pos hlt, if_pos hlt]
                    · rw [if_neg hlt, if_neg hlt, show j - (fmI (shL mk lo (hi + 1)) pv i ++ shL mk lo t (pv.getD i (0, 0))).length = 0 by omega]
                      rfl
                  refine any_step [10] (g.ok _ _ _) (by kernel_rfl) (by decide) ⟨?_, trivial⟩
                  refine any_done (by kernel_rfl) ?_
                  refine Chk.mk (show InK .i64 (t + 1) from ⟨by omega, by omega⟩) ⟨⟨t + 1, by omega, by omega⟩, (fun j => if j = 40 then 42 else j), ?_, (by show (hi + 1 - (t + 1)).toNat < (hi + 1 - t).toNat; omega)⟩
                  refine ⟨?_, ?_, rfl, rfl, rfl, rfl, trivial⟩
                  · repeat' (first | exact trivial | exact rfl | refine And.intro ?_ ?_)
                  · repeat' (first | exact trivial | exact rfl | (intro i hj; exact ⟨rfl, rfl⟩) | refine And.intro ?_ ?_)
                    show (fmI (shL mk lo (hi + 1)) pv i ++ shL mk lo t (pv.getD i (0, 0))).length + 1 = (fmI (shL mk lo (hi + 1)) pv i ++ shL mk lo (t + 1) (pv.getD i (0, 0))).length
                    rw [hn, ← List.append_assoc]
                    simp only [List.length_append, List.length_cons, List.length_nil]
            · have h3 : ¬ t ≤ hi := of_decide_eq_false h3
              obtain rfl : t = hi + 1 := by omega
              refine Chk.mk (show InK .i64 ((i : Int) + 1) from ⟨by omega, by omega⟩) ⟨⟨i + 1, by omega⟩, (fun j => j), ?_, (by show pv.length - (i + 1) < pv.length - i; omega)⟩
              refine ⟨?_, ?_, rfl, rfl, rfl, rfl, trivial⟩
              · repeat' (first | exact trivial | exact rfl | refine And.intro ?_ ?_)
              · rw [← hs]
                repeat' (first | exact trivial | exact rfl | (intro i hj; exact ⟨rfl, rfl⟩) | refine And.intro ?_ ?_)
        · have h2 : ¬ (i : Int) < (pv.length : Int) := of_decide_eq_false h2
          obtain rfl : i = pv.length := by omega
          have hall : fmI (shL mk lo (hi + 1)) pv pv.length = pv.flatMap (shL mk lo (hi + 1)) := fmI_all _ _
          have hlen := flat_pos hpos hLp
          rw [← hall] at hlen
          have hl1 := hfl pv.length
          have hbd : ∀ x ∈ fmI (shL mk lo (hi + 1)) pv pv.length, -1000000000 ≤ x ∧ x ≤ 1000000000 := fun x hx => by
            rw [hall] at hx
            obtain ⟨p, hp, hx⟩ := List.mem_flatMap.1 hx
            obtain ⟨t, ht, rfl⟩ := List.mem_map.1 hx
            have ht := mem_iota.1 ht
            have := show_b (mk := mk) (p := p) (t := t) (by omega) (hpb p hp) (by omega)
            omega
          refine Chk.mk ⟨lC_ints _ _, (show 0 < (fmI (shL mk lo (hi + 1)) pv pv.length).length by omega), (show (fmI (shL mk lo (hi + 1)) pv pv.length).length ≤ 1000000 by omega), lC_b hbd⟩ ?_
          have hil : intL (fmI (shL mk lo (hi + 1)) pv pv.length).length (lC (fmI (shL mk lo (hi + 1)) pv pv.length)) = pv.flatMap (shL mk lo (hi + 1)) := by rw [intL_lC rfl, hall]
          refine hR _ _ ⟨⟨⟨rfl, ?_⟩, ⟨rfl, ?_⟩, trivial⟩, ⟨rfl, rfl⟩, trivial⟩ rfl
          · show (endsV (intL (fmI (shL mk lo (hi + 1)) pv pv.length).length (lC (fmI (shL mk lo (hi + 1)) pv pv.length)))).1 = _
            rw [hil]
          · show (endsV (intL (fmI (shL mk lo (hi + 1)) pv pv.length).length (lC (fmI (shL mk lo (hi + 1)) pv pv.length)))).2 = _
            rw [hil]
  · cases hk
theorem g31 {l : List (Nat × Ct)} (g : Good P T l) : Good P T ((31, c30) :: l) := g.add (k31 g) (wmCt_mono _) (body_of Try.func31 (c := code Try.f31) rfl (by decide))
end Go.X.W
end
