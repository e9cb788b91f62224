/- The walk of WarmNext. -/
import Derived.Test.YtipjgdkaocfapaaNI
import Derived.Test.YtipjgdkaocfapaaNO

section
set_option linter.unusedVariables false
set_option linter.unusedSimpArgs false
set_option linter.unusedSectionVars false
/- Branches that come together at an operation. -/
set_option linter.unusedVariables false
set_option linter.unusedSimpArgs false
set_option maxRecDepth 10000
namespace Go.X
open Go

theorem br_joinF {p : Bool} {a b : Prop} {X : Cx} {ops : List Oper} {Q : Exit → Act → World → Prop} {Kn : St → Prop} {Kp : List PanicEntry → St → Prop} {i : Nat} {o : Oper} {r : List Oper} {st1 st2 : St} (n0 : Nat) (hn : ∀ j, n0 ≤ j → X.G.ρ j = none) (stC : St) (s1 s2 : Nat → Nat)
    (ha : p = true → FbO X ops Q Kn Kp i o r st1 → a) (hb : p = false → FbO X ops Q Kn Kp i o r st2 → b)
    (w1 : p = true → WeakR n0 s1 st1 stC) (w2 : p = false → WeakR n0 s2 st2 stC) (h : FbO X ops Q Kn Kp i o r stC) : Br p a b :=
  ⟨fun hp => ha hp ⟨fun ρ a w hm => h.h _ a w (hm.ren (w1 hp) hn)⟩, fun hp => hb hp ⟨fun ρ a w hm => h.h _ a w (hm.ren (w2 hp) hn)⟩⟩
end Go.X
end

section
set_option linter.unusedVariables false
set_option linter.unusedSimpArgs false
set_option linter.unusedSectionVars false
/- Warm: WarmNext answers true. -/
set_option linter.unusedVariables false
set_option linter.unusedSimpArgs false
set_option maxRecDepth 10000
set_option maxHeartbeats 8000000
namespace Go.X.W
open Go Go.Proofs Go.X

theorem leastV_min (f : Nat → Int) : ∀ {i : Nat}, 0 < i → ∃ b : Nat, b < i ∧ leastV f i = ((b : Int), f b) ∧ ∀ j, j < i → f b ≤ f j ∧ (f j = f b → b ≤ j)
  | 1, _ => ⟨0, by omega, by simp [leastV], fun j hj => by obtain rfl : j = 0 := by omega
                                                           exact ⟨Int.le_refl _, fun _ => Nat.le_refl _⟩⟩
  | i + 2, _ => by
    obtain ⟨b, h1, h2, h3⟩ := leastV_min f (i := i + 1) (by omega)
    rw [leastV, h2]
    by_cases h : f (i + 1) < f b
    · rw [if_pos (.inr h)]
      refine ⟨i + 1, by omega, rfl, fun j hj => ?_⟩
      by_cases e : j = i + 1
      · subst e; exact ⟨Int.le_refl _, fun _ => Nat.le_refl _⟩
      · have := (h3 j (by omega)).1
        exact ⟨by omega, fun h => by omega⟩
    · rw [if_neg (by simp only [not_or]; exact ⟨by omega, h⟩)]
      refine ⟨b, by omega, rfl, fun j hj => ?_⟩
      by_cases e : j = i + 1
      · subst e; exact ⟨by omega, fun h => by omega⟩
      · exact h3 j (by omega)
def u8At (get : Nat → List SV) (i : Nat) : Int := match get i with
  | [.si .u8 x] => x
  | _ => 0
def U8s (n : Nat) (get : Nat → List SV) : Prop := ∀ i, i < n → get i = [.si .u8 (u8At get i)] ∧ 0 ≤ u8At get i ∧ u8At get i < 256
def offI (v : Nat → Int) (i : Nat) : List Int := (List.range (min i 6)).map fun j => (v j).tmod 201 - 100
theorem offI_next {v : Nat → Int} {i : Nat} (h : i < 6) : offI v (i + 1) = offI v i ++ [(v i).tmod 201 - 100] := by
  unfold offI
  rw [show min (i + 1) 6 = i + 1 by omega, show min i 6 = i by omega, List.range_succ, List.map_append]
  rfl
theorem offI_same {v : Nat → Int} {i : Nat} (h : 6 ≤ i) : offI v (i + 1) = offI v i := by
  unfold offI
  rw [show min (i + 1) 6 = 6 by omega, show min i 6 = 6 by omega]
theorem offI_len (v : Nat → Int) (i : Nat) : (offI v i).length = min i 6 := by simp [offI]
theorem offI_b {v : Nat → Int} {i : Nat} (hv : ∀ j, j < i → 0 ≤ v j) {x : Int} (hx : x ∈ offI v i) : -100 ≤ x ∧ x ≤ 100 := by
  obtain ⟨j, hj, rfl⟩ := List.mem_map.1 hx
  have hj := List.mem_range.1 hj
  have h := hv j (by omega)
  rw [Int.tmod_eq_emod_of_nonneg h]
  omega
theorem getD_b {l : List Int} (hl : ∀ x ∈ l, -100 ≤ x ∧ x ≤ 100) {i : Nat} (h : i < l.length) : -100 ≤ l.getD i 0 ∧ l.getD i 0 ≤ 100 := by
  rw [List.getD_eq_getElem?_getD, List.getElem?_eq_getElem h]
  exact hl _ (List.getElem_mem h)

def c11 : Ct := fun fr args H =>
  match args with
  | [.agg [.si .i64 mk, .si .i64 l1, .si .i64 l2, .si .i64 c1, .si .i64 c2, .sl id], .sl oid, .si .u8 y] => (match sliceOf 4 H id, sliceOf 1 H oid with
    | some (n, get), some (m, og) => some ⟨some ((Rds n get ∧ U8s m og ∧ m ≤ maxLen) ∧ 0 ≤ y ∧ y < 256), none, .sb true, []⟩
    | _, _ => none)
  | _ => none
theorem k11 {l : List (Nat × Ct)} (g0 : Good P T l) : COk P 11 c11 := by
  have g := g39 (g24 (g30 (g33 (g42 (g46 good0)))))
  refine cok (C := tabC _) g.ok Try.func11 (c := code Try.f11) rfl fun fr args H out h hp => ?_
  unfold c11 at h
  split at h
  · rename_i mk l1 l2 c1 c2 id oid y
    split at h
    · rename_i n get m og e e2
      cases h
      obtain ⟨⟨hs, hs2, hml⟩, hy⟩ : (Rds n get ∧ U8s m og ∧ m ≤ maxLen) ∧ 0 ≤ y ∧ y < 256 := hp
      have hml : m ≤ 9223372036854775807 := Nat.le_trans hml (by decide)
      have hh : Hand H [(id, .ro 4 n fun i => rdC (rdAt get i)), (oid, .ro 1 m fun i => [.si .u8 (u8At og i)])] := hand_mk ⟨sliceOf_piece e fun i hi => by rw [hs i hi]; rfl, sliceOf_piece e2 fun i hj => by rw [(hs2 i hj).1]; rfl, trivial⟩
        (by repeat' (first | exact trivial | (intro i hi; exact ⟨trivial, trivial, trivial, trivial, trivial⟩) | (intro i hi; exact ⟨trivial, trivial⟩) | refine And.intro ?_ ?_ | exact (by decide : (1 : Nat) < 4) | exact (by decide : (2 : Nat) < 4))) rfl
      refine ⟨_, [wA mk l1 l2 c1 c2 0, .sl 1, .si .u8 y], [(0, .ro 4 n fun i => rdC (rdAt get i)), (1, .ro 1 m fun i => [.si .u8 (u8At og i)])], 2, [], rfl, rfl, Nat.le_of_ble_eq_true rfl, hh, rfl, rfl, fun G hG => ?_⟩
      have hv : ∀ i, i < m → 0 ≤ u8At og i ∧ u8At og i < 256 := fun i hi => (hs2 i hi).2
      generalize rdAt get = rd
      generalize u8At og = v at hv ⊢
      clear hs hs2 hh
      refine Chk.mk ⟨rds_rd _ _, rfl, trivial⟩ ?_
      refine Br.mk (fun h => ?_) (fun h => ?_)
      · exact ⟨.inl rfl, end_noid rfl rfl rfl ⟨trivial, trivial, trivial⟩⟩
      obtain ⟨B, hB⟩ : ∃ B : Blk, Blk.mk mk l1 l2 c1 c2 (rdL n fun i => rdC (rd i)) = B := ⟨_, rfl⟩
      have h : (!fineB ⟨mk, l1, l2, c1, c2, rdL n fun i => rdC (rd i)⟩ || decide ((5 : Int) ≤ (n : Int))) = false := h
      rw [hB, Bool.or_eq_false_iff] at h
      have hok : blkOk B = true := fine_blk (by simpa using h.1)
      have hn5 : n < 5 := by
        have := of_decide_eq_false h.2
        omega
      clear h
      have hBn : B.rs.length = n := by rw [← hB]; simp [rdL]
      obtain ⟨hmk, hl, hc, hn, hr⟩ := blk_b hok
      refine nil_slot 7 3 1 (lC []) rfl ?_
      refine loop_okR (g.ok _ _ _) 2 (fun z : {i : Nat // i ≤ m} => ⟨[(2, ⟨[], .si .u8 y⟩), (3, ⟨[], .sp 2 0⟩), (7, ⟨[], .sl 3⟩), (36, ⟨[], .sl 1⟩), (37, ⟨[], .si .i64 m⟩), (38, ⟨[], .si .i64 (z.1 : Nat)⟩)], [],
        [(3, .vec 3 1 (offI v z.1).length (lC (offI v z.1))), (2, .cells 36 (bC mk l1 l2 c1 c2 0)), (1, .ro 1 m fun i => [.si .u8 (v i)]), (0, .ro 4 n fun i => rdC (rd i))], 4, []⟩)
        (fun z => m - z.1) (fun j hj => hG j (by omega)) ⟨0, Nat.zero_le _⟩ (fun j => j) ?_ ?_
      · refine ⟨?_, ?_, rfl, rfl, rfl, rfl, trivial⟩
        · repeat' (first | exact trivial | exact rfl | refine And.intro ?_ ?_)
        · repeat' (first | exact trivial | exact rfl | (intro i hi; exact ⟨rfl, rfl⟩) | refine And.intro ?_ ?_)
      rintro ⟨i, hi⟩
      have hol := offI_len v i
      refine Br.mk (fun h => ?_) (fun h => ?_)
      · have h : (i : Int) < (m : Int) := of_decide_eq_true h
        have hvi := hv i (by omega)
        have hin : InK .i64 ((i : Int) + 1) := ⟨by omega, by omega⟩
        refine Chk.mk (show (0 : Int) ≤ (i : Int) ∧ (i : Int) < (m : Int) from ⟨by omega, h⟩) ?_
        refine Br.mk (fun h2 => ?_) (fun h2 => ?_)
        · have h2 : (i : Int) < 6 := of_decide_eq_true h2
          have e1 : (v i).tmod 201 = v i % 201 := Int.tmod_eq_emod_of_nonneg (by omega)
          have hnx := offI_next (v := v) (i := i) (by omega)
          have hpl : (offI v i).length + 1 = (offI v (i + 1)).length := by rw [hnx, List.length_append]; rfl
          refine Chk.mk (show InK .i64 (v i) from ⟨by omega, by omega⟩) (Chk.mk (show (201 : Int) ≠ 0 by decide) (Chk.mk (show InK .i64 ((v i).tmod 201 - 100) from ⟨by omega, by omega⟩) ?_))
          refine fb_append (Te := 0) 3 4 (offI v i).length 1 _ _ (lC (offI v (i + 1))) (g.ok _ _ _) cont_std rfl rfl rfl rfl rfl rfl rfl rfl rfl rfl rfl rfl (by decide) (by decide) rfl rfl rfl rfl (by omega) (fun j hj => lC_push hnx hj fun e => by rw [e]; rfl) ?_
          refine Chk.mk hin ⟨⟨i + 1, by omega⟩, (fun j => match j with | 3 => 5 | j => j), ?_, by show m - (i + 1) < m - i; omega⟩
          refine ⟨?_, ?_, rfl, rfl, rfl, rfl, trivial⟩
          · repeat' (first | exact trivial | exact rfl | refine And.intro ?_ ?_)
          · repeat' (first | exact trivial | exact hpl | exact rfl | (intro i hi; exact ⟨rfl, rfl⟩) | refine And.intro ?_ ?_)
        · have h2 : ¬ (i : Int) < 6 := of_decide_eq_false h2
          have hnx := offI_same (v := v) (i := i) (by omega)
          refine Chk.mk hin ⟨⟨i + 1, by omega⟩, (fun j => j), ?_, by show m - (i + 1) < m - i; omega⟩
          refine ⟨?_, ?_, rfl, rfl, rfl, rfl, trivial⟩
          · repeat' (first | exact trivial | exact rfl | refine And.intro ?_ ?_)
          · show weakRH _ _ _ [(3, .vec 3 1 (offI v (i + 1)).length (lC (offI v (i + 1)))), _, _, _]
            rw [hnx]
            repeat' (first | exact trivial | exact rfl | (intro i hi; exact ⟨rfl, rfl⟩) | refine And.intro ?_ ?_)
      have h : ¬ (i : Int) < (m : Int) := of_decide_eq_false h
      obtain rfl : i = m := by omega
      obtain ⟨OL, hOL⟩ : ∃ OL : List Int, OL = if (offI v i).length = 0 then [1] else offI v i := ⟨_, rfl⟩
      refine br_joinF 2 (fun j hj => hG j (by omega)) ⟨[(58, ⟨[], wA mk l1 l2 c1 c2 0⟩), (59, ⟨[], .sl 3⟩), (2, ⟨[], .si .u8 y⟩), (3, ⟨[], .sp 2 0⟩), (7, ⟨[], .sl 3⟩)], [],
        [(3, .vec 3 1 OL.length (lC OL)), (2, .cells 36 (bC mk l1 l2 c1 c2 0)), (0, .ro 4 n fun i => rdC (rd i))], 4, []⟩ (fun j => match j with | 3 => 4 | j => j) (fun j => j) (fun hp hS => hS) (fun hp hS => hS) (fun hp => ?_) (fun hp => ?_) ?_
      · have hp : ((offI v i).length : Int) = 0 := of_decide_eq_true hp
        rw [if_pos (by omega)] at hOL
        subst hOL
        refine ⟨?_, ?_, rfl, rfl, rfl, rfl, trivial⟩
        · repeat' (first | exact trivial | exact rfl | refine And.intro ?_ ?_)
        · refine ⟨⟨⟨rfl, rfl, rfl, fun j hj => ?_⟩, rfl⟩, ?_⟩
          · obtain rfl : j = 0 := by omega
            exact ⟨rfl, rfl⟩
          · repeat' (first | exact trivial | exact rfl | (intro i hi; exact ⟨rfl, rfl⟩) | refine And.intro ?_ ?_)
      · have hp : ¬ ((offI v i).length : Int) = 0 := of_decide_eq_false hp
        rw [if_neg (by omega)] at hOL
        subst hOL
        refine ⟨?_, ?_, rfl, rfl, rfl, rfl, trivial⟩
        · repeat' (first | exact trivial | exact rfl | refine And.intro ?_ ?_)
        · repeat' (first | exact trivial | exact rfl | (intro i hi; exact ⟨rfl, rfl⟩) | refine And.intro ?_ ?_)
      refine fb_call (g.ok _ _ _) cont_std rfl rfl rfl rfl ?_
      refine ⟨b35, ?_⟩
      have hOLl : 0 < OL.length ∧ OL.length ≤ 6 := by
        rw [hOL]
        split
        · exact ⟨by decide, by decide⟩
        · omega
      have hOLb : ∀ x ∈ OL, -100 ≤ x ∧ x ≤ 100 := by
        rw [hOL]
        split
        · intro x hx
          obtain rfl := List.mem_singleton.1 hx
          exact ⟨by decide, by decide⟩
        · exact fun x hx => offI_b (fun j hj => (hv j hj).1) hx
      clear hOL
      have hoB : offsB OL = true := by
        unfold offsB
        rw [Bool.and_eq_true]
        refine ⟨decide_eq_true (by omega), List.all_eq_true.2 fun x hx => ?_⟩
        have := hOLb x hx
        simp only [inB, Bool.and_eq_true, decide_eq_true_eq]; omega
      have herr : errV B OL.length (offsB OL) = 0 := by
        unfold errV
        rw [if_pos hok, if_pos (by omega), if_pos hoB]
      refine callS_ct (k35 good0) rfl ⟨rds_rd _ _, fun i hi => rfl, by omega⟩ (fun _ => ?_) (fun ch h => by cases h)
      rw [hB, intL_lC rfl]
      refine Chk.mk ⟨rds_rd _ _, rfl, trivial⟩ ?_
      rw [hB, cnt_ok hok]
      by_cases h0 : (pairsV B).length = 0
      · rw [nextV_clash herr h0, h0]
        refine Br.mk (fun h => absurd h (by simp)) (fun _ => ?_)
        refine Br.mk (fun _ => ?_) (fun h => absurd h (by simp))
        exact ⟨.inl rfl, end_noid rfl rfl rfl ⟨trivial, trivial, trivial⟩⟩
      obtain ⟨b, hb1, hb2, hb3⟩ := leastV_min (fun i => ((leftV B.mark (pairsV B) (OL.getD i 0) : Nat) : Int)) (i := OL.length) hOLl.1
      rw [nextV_ok herr h0, hb2]
      have hb3 : ∀ j, j < OL.length → ((leftV B.mark (pairsV B) (OL.getD b 0) : Nat) : Int) ≤ ((leftV B.mark (pairsV B) (OL.getD j 0) : Nat) : Int) ∧ (((leftV B.mark (pairsV B) (OL.getD j 0) : Nat) : Int) = ((leftV B.mark (pairsV B) (OL.getD b 0) : Nat) : Int) → b ≤ j) := hb3
      have hO : ∀ t, -100 ≤ t → t ≤ 100 → hullE B (spanB t t (-100) 100 200) (showL B.mark t t) = (oneV B.mark (pairsV B) t, 0) := fun t h1 h2 => by
        rw [hullE_tell hok, if_pos (by simp only [spanB, Bool.and_eq_true, decide_eq_true_eq]; omega), if_neg h0, hull_show hok h0 h1 h2 (Int.le_refl _)]
      refine Br.mk (fun h => absurd h (by simpa using h0)) (fun _ => ?_)
      refine Br.mk (fun h => absurd h (by simp)) (fun _ => ?_)
      refine Br.mk (fun h => absurd h (by simp; omega)) (fun _ => ?_)
      refine Chk.mk (show InK .i64 y from ⟨by omega, by omega⟩) (Chk.mk (show (OL.length : Int) ≠ 0 by omega) ?_)
      obtain ⟨o, ho⟩ : ∃ o : Nat, y.tmod (OL.length : Int) = (o : Int) := ⟨(y.tmod (OL.length : Int)).toNat, by
        have := Int.tmod_nonneg (b := (OL.length : Int)) hy.1 
        omega⟩
      have ho1 : o < OL.length := by
        have h1 : y.tmod (OL.length : Int) < (OL.length : Int) := Int.tmod_lt_of_pos _ (by omega)
        omega
      have hT0 := getD_b hOLb hb1
      have hT1 := getD_b hOLb ho1
      refine (show SemC _ _ _ _ from ?_)
      rw [ho]
      refine drawn_ok (g.ok _ _ _) fol [0,0,3,7,0,0,48,112,255,511,0] [] 11 (by kernel_rfl) ?_
      refine Chk.mk (show (0 : Int) ≤ (b : Int) ∧ (b : Int) < (OL.length : Int) from ⟨by omega, by omega⟩) ?_
      refine Chk.mk (show (0 : Int) ≤ (o : Int) ∧ (o : Int) < (OL.length : Int) from ⟨by omega, by omega⟩) ?_
      have hlC : ∀ j : Nat, lC OL ((j : Int)).toNat = [.si .i64 (OL.getD j 0)] := fun j => by
        rw [show ((j : Int)).toNat = j by omega]; rfl
      obtain ⟨T0, hT0e⟩ : ∃ T, OL.getD b 0 = T := ⟨_, rfl⟩
      obtain ⟨T1, hT1e⟩ : ∃ T, OL.getD o 0 = T := ⟨_, rfl⟩
      have hb3o := hb3 o ho1
      rw [hT0e] at hT0 hb3o
      rw [hT1e] at hT1 hb3o
      refine loop_okR (g.ok _ _ _) 2 (fun z : {i : Nat // i ≤ 2} => ⟨[(3, ⟨[], .sp 2 0⟩), (7, ⟨[], .sl 3⟩), (10, ⟨[], .si .i64 (b : Nat)⟩), (11, ⟨[], .si .i64 (leftV B.mark (pairsV B) T0 : Nat)⟩), (13, ⟨[], .si .i64 ((pairsV B).length : Nat)⟩), (15, ⟨[], .si .i64 (o : Nat)⟩), (118, ⟨[], .sl 4⟩), (119, ⟨[], .si .i64 2⟩), (120, ⟨[], .si .i64 (z.1 : Nat)⟩)], [],
        [(4, .row 3 1 2 [.si .i64 T0, .si .i64 T1]), (3, .vec 3 1 OL.length (lC OL)), (2, .cells 36 (bC mk l1 l2 c1 c2 0)), (0, .ro 4 n fun i => rdC (rd i))], 5, []⟩)
        (fun z => 2 - z.1) (fun j hj => hG j (by omega)) ⟨0, by omega⟩ (fun j => match j with | 4 => 40 | j => j) ?_ ?_
      · subst hT0e
        subst hT1e
        refine ⟨?_, ?_, rfl, rfl, rfl, rfl, trivial⟩
        · repeat' (first | exact trivial | exact rfl | refine And.intro ?_ ?_)
        · repeat' (first | exact trivial | exact rfl | (intro i hi; exact ⟨rfl, rfl⟩) | refine And.intro ?_ ?_)
      rintro ⟨i, hi⟩
      rcases (show i = 0 ∨ i = 1 ∨ i = 2 by omega) with rfl | rfl | rfl
      · refine Br.mk (fun _ => ?_) (fun h => absurd h (by simp))
        refine Chk.mk ⟨by simp, by simp⟩ ?_
        refine drawn_ok (g.ok _ _ _) fol [0,0,0,6,15,31,63,63,0,383,1023] [(9, 37)] 11 (by kernel_rfl) ?_
        refine Chk.mk ⟨rds_rd _ _, rfl, trivial⟩ ?_
        rw [hB, hO T0 (by omega) (by omega)]
        have hT := one_tight hok h0 (t := T0) ⟨by omega, by omega⟩
        refine Br.mk (fun h => absurd h (by simp)) (fun _ => ?_)
        refine Chk.mk (show InK .i64 (_ - _) from ⟨by simp only; omega, by simp only; omega⟩) ?_
        refine Br.mk (fun h => ?_) (fun h => ?_)
        · exact ⟨.inl rfl, end_noid rfl rfl rfl ⟨trivial, trivial, trivial⟩⟩
        refine Chk.mk ⟨by simp, by simp⟩ ⟨⟨1, by omega⟩, (fun j => j), ?_, by simp⟩
        refine ⟨?_, ?_, rfl, rfl, rfl, rfl, trivial⟩
        · repeat' (first | exact trivial | exact rfl | refine And.intro ?_ ?_)
        · repeat' (first | exact trivial | exact rfl | (intro i hi; exact ⟨rfl, rfl⟩) | refine And.intro ?_ ?_)
      · refine Br.mk (fun _ => ?_) (fun h => absurd h (by simp))
        refine Chk.mk ⟨by simp, by simp⟩ ?_
        refine drawn_ok (g.ok _ _ _) fol [0,0,0,6,15,31,63,63,0,383,1023] [(9, 37)] 11 (by kernel_rfl) ?_
        refine Chk.mk ⟨rds_rd _ _, rfl, trivial⟩ ?_
        rw [hB, hO T1 (by omega) (by omega)]
        have hT := one_tight hok h0 (t := T1) ⟨by omega, by omega⟩
        refine Br.mk (fun h => absurd h (by simp)) (fun _ => ?_)
        refine Chk.mk (show InK .i64 (_ - _) from ⟨by simp only; omega, by simp only; omega⟩) ?_
        refine Br.mk (fun h => ?_) (fun h => ?_)
        · exact ⟨.inl rfl, end_noid rfl rfl rfl ⟨trivial, trivial, trivial⟩⟩
        refine Chk.mk ⟨by simp, by simp⟩ ⟨⟨2, by omega⟩, (fun j => j), ?_, by simp⟩
        refine ⟨?_, ?_, rfl, rfl, rfl, rfl, trivial⟩
        · repeat' (first | exact trivial | exact rfl | refine And.intro ?_ ?_)
        · repeat' (first | exact trivial | exact rfl | (intro i hi; exact ⟨rfl, rfl⟩) | refine And.intro ?_ ?_)
      refine Br.mk (fun h => absurd h (by simp)) (fun _ => ?_)
      have hp46 : ∀ T : Int, (-100 ≤ T ∧ T ≤ 100) → blkOk ⟨mk, l1, l2, c1, c2, rdL n fun i => rdC (rd i)⟩ = true ∧ ¬ (pairsV ⟨mk, l1, l2, c1, c2, rdL n fun i => rdC (rd i)⟩).length = 0 ∧ (Blk.mk mk l1 l2 c1 c2 (rdL n fun i => rdC (rd i))).rs.length < 5 ∧ -100 ≤ T ∧ T ≤ 100 := fun T hT => by
        rw [hB]
        exact ⟨hok, h0, by omega, hT⟩
      refine drawn_ok (g.ok _ _ _) fol [0,0,0,6,14,31,63,127,127,127,255,1535,4095] [] 13 (by kernel_rfl) ?_
      refine Chk.mk (show (0 : Int) ≤ (b : Int) ∧ (b : Int) < (OL.length : Int) from ⟨by omega, by omega⟩) ?_
      refine Chk.mk ⟨rds_rd _ _, rfl, hp46 _ (by rw [show ((b : Int)).toNat = b by omega, hT0e]; exact hT0)⟩ ?_
      rw [hB]
      refine drawn_ok (g.ok _ _ _) fol [0,0,0,6,14,31,63,127,127,127,255,1535,4095] [] 13 (by kernel_rfl) ?_
      refine Chk.mk (show (0 : Int) ≤ (o : Int) ∧ (o : Int) < (OL.length : Int) from ⟨by omega, by omega⟩) ?_
      refine Chk.mk ⟨rds_rd _ _, rfl, hp46 _ (by rw [show ((o : Int)).toNat = o by omega, hT1e]; exact hT1)⟩ ?_
      rw [hB]
      refine ⟨.inl rfl, end_noid ?_ rfl rfl ?_⟩
      · show (_ : Bool) = true
        rw [show ((b : Int)).toNat = b by omega, hT0e, show ((o : Int)).toNat = o by omega, hT1e]
        obtain ⟨k1, k2⟩ := hb3o
        simp only [Bool.true_and, decide_true, Bool.and_true, Bool.or_eq_true, Bool.and_eq_true, decide_eq_true_eq]
        omega
      · exact ⟨trivial, trivial, trivial⟩
    · cases h
  · cases h
end Go.X.W
end
