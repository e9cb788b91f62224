/- Contracts of functions of the package warm, continued. -/
import Derived.Test.YtipjgdkaocfapaaNA
import Derived.Test.YtipjgdkaocfapaaMD

section
set_option linter.unusedVariables false
set_option linter.unusedSimpArgs false
set_option linter.unusedSectionVars false
/- Warm: the span of the numbers that a closure yields of all pairs: lengths, coefficients. -/
set_option linter.unusedVariables false
set_option linter.unusedSimpArgs false
set_option maxRecDepth 10000
set_option maxHeartbeats 4000000
namespace Go.X.W
open Go Go.Proofs Go.X

theorem endF_b {l : List Int} (h : ∀ x ∈ l, smB 1000000000 x) : (endsV l).1 ≤ 1099511627776 ∧ -1000000000 ≤ (endsV l).1 ∧ (endsV l).2 ≤ 1000000000 ∧ -1099511627776 ≤ (endsV l).2 := by
  have key : ∀ (l : List Int) (s : Int × Int), (∀ x ∈ l, smB 1000000000 x) → (s.1 ≤ 1099511627776 ∧ -1000000000 ≤ s.1 ∧ s.2 ≤ 1000000000 ∧ -1099511627776 ≤ s.2) →
      ((l.foldl endF s).1 ≤ 1099511627776 ∧ -1000000000 ≤ (l.foldl endF s).1 ∧ (l.foldl endF s).2 ≤ 1000000000 ∧ -1099511627776 ≤ (l.foldl endF s).2) := by
    intro l
    induction l with
    | nil => intro s _ h; exact h
    | cons x r ih =>
      intro s hl hs
      rw [List.foldl_cons]
      refine ih _ (fun y hy => hl y (List.mem_cons_of_mem _ hy)) ?_
      have hx := hl x List.mem_cons_self
      unfold smB at hx
      simp only [endF]
      omega
  exact key l _ h (by decide)

def spanCt (k : Nat) (L : Blk → Pr → List Int) : Ct := fun fr args H =>
  match args with
  | [.sp bid 0, .fn (.func k') [] []] => (match Nat.beq k' k, H bid with
    | true, some (.cells 138 [.si .i64 mk, .si .i64 l1, .si .i64 l2, .si .i64 c1, .si .i64 c2, .sl id]) => (match sliceOf 4 H id with
      | some (n, get) => some ⟨some (Rds n get ∧ blkOk ⟨mk, l1, l2, c1, c2, rdL n get⟩ = true), some (!decide ((0 : Int) < ((pairsV ⟨mk, l1, l2, c1, c2, rdL n get⟩).length : Int)), refP 10),
          .agg [.si .i64 (hullV ⟨mk, l1, l2, c1, c2, rdL n get⟩ (L ⟨mk, l1, l2, c1, c2, rdL n get⟩)).1, .si .i64 (hullV ⟨mk, l1, l2, c1, c2, rdL n get⟩ (L ⟨mk, l1, l2, c1, c2, rdL n get⟩)).2], []⟩
      | none => none)
    | _, _ => none)
  | _ => none
theorem spanCt_mono (k : Nat) (L : Blk → Pr → List Int) : CtMono (spanCt k L) := by
  intro fr args H H' out hH h
  unfold spanCt at h ⊢
  split at h
  · split at h
    · rename_i e0 e1
      split at h
      · rename_i e
        simp only [e0, hH _ _ e1, sliceOf_mono hH e]
        exact h
      · cases h
    · cases h
  · cases h
theorem pairs_len {B : Blk} (h : blkOk B = true) : (pairsV B).length ≤ 100 := by
  obtain ⟨-, hl, hc, -, -⟩ := blk_b h
  unfold pairsV
  obtain ⟨k, hk⟩ : ∃ k : Nat, B.l2 + 1 = B.l1 + k := ⟨(B.l2 + 1 - B.l1).toNat, by omega⟩
  rw [hk]
  have := rows_len (okP B.mark B.rs) B.l1 B.c1 B.c2 (by omega) k
  omega
theorem b59 : Body P 59 := body_of Try.func59 (c := code Try.f59) rfl (by decide)
theorem k58a : COk P 58 (spanCt 59 fun _ p => [p.1]) := by
  have g := g67 (g59 (g100 good0))
  refine cokB (C := tabC _) g.ok Try.func58 (c := code Try.f58) rfl fun fr args H out h hp => ?_
  unfold spanCt at h
  split at h
  · rename_i bid k'
    split at h
    · rename_i mk l1 l2 c1 c2 id e0 e1
      split at h
      · rename_i n get e
        cases h
        have e0 : k' = 59 := by simpa using e0
        subst e0
        obtain ⟨hs, hok⟩ : Rds n get ∧ blkOk ⟨mk, l1, l2, c1, c2, rdL n get⟩ = true := hp
        have hh := bkHand e1 e hs
        refine ⟨bkP bid id n mk l1 l2 c1 c2 (rdAt get), [.sp 0 0, .fn (.func 59) [] []], bkH n mk l1 l2 c1 c2 (rdAt get), 2, [], rfl, rfl, Nat.le_of_ble_eq_true rfl, hh, rfl, rfl, fun G hG => ?_⟩
        rw [show rdL n get = (List.range n).map (rdAt get) from rfl] at hok ⊢
        generalize rdAt get = rd at hok ⊢
        obtain ⟨hmk, hl, hc, hn, hr⟩ := blk_b hok
        simp only at hmk hl hc
        have hok' : blkOk ⟨mk, l1, l2, c1, c2, rdL n fun i => rdC (rd i)⟩ = true := hok
        have hG' : ∀ j, 10 ≤ j → G.ρ j = none := fun j hj => hG j (by omega)
        refine Chk.mk ⟨rds_rd _ _, hok'⟩ ?_
        obtain ⟨B, hB⟩ : ∃ B : Blk, B = ⟨mk, l1, l2, c1, c2, (List.range n).map rd⟩ := ⟨_, rfl⟩
        refine Br.mk (fun h => ?_) (fun h => ?_)
        · have h : (!decide ((0 : Int) < ((pairsV ⟨mk, l1, l2, c1, c2, (List.range n).map rd⟩).length : Int))) = true := h
          exact FinB.mk ⟨by rw [h], ⟨rfl, ⟨rfl, rfl⟩, ⟨rfl, rfl⟩, ⟨rfl, rfl⟩, ⟨rfl, rfl⟩, ⟨rfl, rfl⟩, rfl, trivial⟩, trivial, trivial⟩
        · have hne : (!decide ((0 : Int) < ((pairsV ⟨mk, l1, l2, c1, c2, (List.range n).map rd⟩).length : Int))) = false := h
          have hmem : ∀ p ∈ pairsV B, (-1000 ≤ p.1 ∧ p.1 ≤ 1000) ∧ (0 ≤ p.2 ∧ p.2 ≤ 20) := fun p hp => by
            have := (pairs_mem.1 hp).1
            subst hB
            simp only at this
            omega
          refine fb_range encP encB (tellM (pairsV B)) 5 (g.ok _ _ _) cont_std rfl rfl rfl rfl rfl rfl rfl encP_key encB_cl rfl (by rw [hB]; rfl) ?_
          intro hnd ts clock hts
          have hlen : ts.length ≤ 100 := by
            have h1 := hts.length_eq
            rw [List.length_map] at h1
            rw [h1, tellM_len]
            exact pairs_len (by rw [hB]; exact hok)
          refine loop_okM (g.ok _ _ _) 10 (fun x : {p : List ((Pr × Bool) × Nat) × List ((Pr × Bool) × Nat) // ts.Perm (p.1 ++ p.2)} => ⟨[(0, ⟨[], .sp 0 0⟩), (1, ⟨[], .fn (.func 59) [] []⟩), (4, ⟨[], .sp 2 0⟩), (5, ⟨[], .sp 3 0⟩), (6, ⟨[], .sp 4 0⟩), (12, ⟨[], .sp 9 0⟩)], [],
            [(9, .it 5 clock (x.1.1.map (·.2)) clock), (5, .map (encS encP encB ts) clock), (4, .cells 146 [.fn (.func 100) [] []]), (3, .cells 145 [.si .i64 (endsV (x.1.1.flatMap fun y => [y.1.1.1])).1, .si .i64 (endsV (x.1.1.flatMap fun y => [y.1.1.1])).2]), (2, .cells 24 [.si .i64 0, .si .i64 0])] ++ bkH n mk l1 l2 c1 c2 rd, 10, []⟩)
            (fun x => x.1.1.length) (fun x => x.1.2.length) hG' ⟨([], ts), by simp⟩ (fun j => j) ?_ rfl (show (10 : Nat) ≤ 1000 by decide) rfl ?_
          · refine ⟨?_, ?_, rfl, rfl, rfl, rfl, trivial⟩
            · repeat' (first | exact trivial | exact rfl | refine And.intro ?_ ?_)
            · repeat' (first | exact trivial | exact rfl | (intro i hi; exact ⟨rfl, rfl⟩) | refine allV_find ?_ | refine And.intro ?_ ?_)
          · rintro ⟨⟨vis, rest⟩, hp⟩
            have hvl : vis.length ≤ ts.length := by rw [hp.length_eq]; simp
            refine fb_next encP encB 5 9 clock ts vis rest (g.ok _ _ _) cont_std rfl rfl rfl rfl rfl encP_key encB_cl rfl rfl rfl hp ⟨fun hr => ?_, ?_⟩
            · replace hr : rest = [] := hr
              subst hr
              have hv : ts.Perm vis := by simpa using hp
              refine Br.mk (fun h => by cases h) (fun _ => ?_)
              have hend := hull_end (L := fun p => [p.1]) hts hv
              refine Chk.mk ⟨by decide, by decide⟩ (Chk.mk ⟨by decide, by decide⟩ ?_)
              refine FinB.mk (finM_ret vis.length rfl (by omega) (fun t t1 t2 => ?_) rfl (fun H' hH' => ?_))
              · repeat' (first | exact rfl | refine (findH_out rfl t1 t2).trans ?_)
              · subst hB
                refine ⟨.inr ⟨_, by rw [hne]⟩, end_noid ⟨⟨rfl, ?_⟩, ⟨rfl, ?_⟩, trivial⟩ rfl rfl (keepP_same hH' rfl ⟨⟨rfl, ⟨rfl, rfl⟩, ⟨rfl, rfl⟩, ⟨rfl, rfl⟩, ⟨rfl, rfl⟩, ⟨rfl, rfl⟩, rfl, trivial⟩, trivial, trivial⟩)⟩
                · show (endsV (vis.flatMap fun y => [y.1.1.1])).1 = _
                  rw [hend]
                · show (endsV (vis.flatMap fun y => [y.1.1.1])).2 = _
                  rw [hend]
            · rintro ⟨⟨⟨x, y⟩, bb⟩, b⟩ rest' hrest
              refine Br.mk (fun _ => ?_) (fun h => by cases h)
              have hpts : (((x, y), bb), b) ∈ ts := hp.mem_iff.2 (List.mem_append_right _ (hrest.mem_iff.2 List.mem_cons_self))
              refine fb_entry encP encB 5 9 clock ts vis (((x, y), bb), b) (g.ok _ _ _) cont_std rfl rfl rfl rfl rfl encP_key encB_cl rfl rfl rfl hpts ?_
              refine rangeFunc_ok (g.ok _ _ _) rfl rfl rfl b114 ?_
              intro fn
              refine callS_exec g.ok Try.func114 (c := code Try.f114) rfl (Nat.le_of_ble_eq_true rfl) fun G2 hG2 => ?_
              obtain ⟨S, hS⟩ : ∃ S : Int × Int, endsV (vis.flatMap fun y => [y.1.1.1]) = S := ⟨_, rfl⟩
              obtain ⟨D0, hD0⟩ : ∃ m : Nat, vis.length = m := ⟨_, rfl⟩
              have hx := (hmem (x, y) (by
                have h1 := hts.mem_iff.1 (List.mem_map_of_mem (f := fun x => x.1) hpts)
                rw [tellM_eq (pairs_nodup B)] at h1
                obtain ⟨p, h2, h3⟩ := List.mem_map.1 h1
                cases h3
                exact h2)).1
              refine loop_okR (g.ok _ _ _) 2007 (fun z : {i : Nat // i ≤ 1} => ⟨[(0, ⟨[], .fy 2006⟩), (1, ⟨[], .sp 2001 0⟩), (3, ⟨[], .si .i64 (x + (z.1 : Int))⟩)], [],
                [(2006, .loop [(5, .sp 3 0), (6, .sp 4 0)] Try.f58.ntmps fn [20] (rfA (code Try.f58)) (rfB (code Try.f58)) 2005 .ready none), (2005, .dfr), (2001, .cells 116 [.si .i64 x, .si .i64 x]),
                 (9, .it 5 clock ((vis ++ [(((x, y), bb), b)]).map (·.2)) clock), (5, .map (encS encP encB ts) clock), (4, .cells 146 [.fn (.func 100) [] []]), (3, .cells 145 [.si .i64 (if z.1 = 0 then S else endF S x).1, .si .i64 (if z.1 = 0 then S else endF S x).2]), (2, .cells 24 [.si .i64 0, .si .i64 0])] ++ bkH n mk l1 l2 c1 c2 rd ++ dfrL D0, 2007, []⟩)
                (fun z => 1 - z.1) hG2 ⟨0, by omega⟩ (fun j => j) ?_ ?_
              · subst hD0
                refine ⟨?_, ?_, injI_id _, fixI_id _, rfl, rfl, trivial⟩
                · repeat' (first | exact trivial | exact rfl | refine And.intro ?_ ?_)
                  show x = x + ((0 : Nat) : Int)
                  omega
                · repeat' (first | exact trivial | exact rfl | (intro i hi; exact ⟨rfl, rfl⟩) | refine allV_find ?_ | refine And.intro ?_ ?_)
                  · show (endsV (vis.flatMap fun y => [y.1.1.1])).1 = S.1
                    rw [hS]
                  · show (endsV (vis.flatMap fun y => [y.1.1.1])).2 = S.2
                    rw [hS]
                  · refine weakRH_tail (by omega) (Nat.le_of_ble_eq_true rfl) (fun t t1 t2 => ?_)
                    repeat' (first | exact dfrL_some t1 t2 | refine (findH_out rfl t1 (by omega)).trans ?_)
              · rintro ⟨i, hi⟩
                refine Br.mk (fun h => ?_) (fun h => ?_)
                · have h : x + (i : Int) ≤ x := of_decide_eq_true h
                  obtain rfl : i = 0 := by omega
                  refine fb_yield 2006 g.ok (g.ok _ _ _) cont_std rfl rfl rfl rfl rfl rfl rfl rfl rfl (by decide) ?_
                  intro G4 r hG4
                  refine Br.mk (fun h => by cases h) (fun _ => ?_)
                  refine Chk.mk (show InK .i64 (x + ((0 : Nat) : Int) + 1) from ⟨by omega, by omega⟩) ⟨⟨1, by omega⟩, (fun j => j), ?_, (by show 1 - 1 < 1 - 0; omega)⟩
                  refine ⟨?_, ?_, injI_id _, fixI_id _, rfl, rfl, trivial⟩
                  · repeat' (first | exact trivial | exact rfl | refine And.intro ?_ ?_)
                    show x + ((0 : Nat) : Int) + 1 = x + ((1 : Nat) : Int)
                    omega
                  · repeat' (first | exact trivial | exact rfl | (intro i hi; exact ⟨rfl, rfl⟩) | refine allV_find ?_ | refine And.intro ?_ ?_)
                    · show (endF S (x + ((0 : Nat) : Int))).1 = (endF S x).1
                      rw [Int.natCast_zero, Int.add_zero]
                    · show (endF S (x + ((0 : Nat) : Int))).2 = (endF S x).2
                      rw [Int.natCast_zero, Int.add_zero]
                    · refine weakRH_tail (by omega) (Nat.le_of_ble_eq_true rfl) (fun t t1 t2 => ?_)
                      repeat' (first | exact dfrL_some t1 t2 | refine (findH_out rfl t1 (by omega)).trans ?_)
                · have h : ¬ x + (i : Int) ≤ x := of_decide_eq_false h
                  obtain rfl : i = 1 := by omega
                  have hpm : ts.Perm ((vis ++ [(((x, y), bb), b)]) ++ rest') := by
                    rw [List.append_assoc]
                    exact hp.trans (List.Perm.append_left _ hrest)
                  have hst := hull_step (fun p => [p.1]) vis (((x, y), bb), b)
                  rw [hS] at hst
                  have hst : endsV ((vis ++ [(((x, y), bb), b)]).flatMap fun y => [y.1.1.1]) = endF S x := hst
                  subst hD0
                  refine ⟨⟨(vis ++ [(((x, y), bb), b)], rest'), hpm⟩, (fun j => j), 2005, ?_, (show (10 : Nat) ≤ 1000 by decide), (by show (vis ++ [(((x, y), bb), b)]).length = vis.length + 1; simp), (by show vis.length < 900; omega), rfl, rfl, rfl, ?_, rfl, (by show rest'.length < rest.length; rw [hrest.length_eq]; simp)⟩
                  · refine ⟨?_, ?_, rfl, rfl, rfl, rfl, trivial⟩
                    · repeat' (first | exact trivial | exact rfl | refine And.intro ?_ ?_)
                    · repeat' (first | exact trivial | exact rfl | (intro i hi; exact ⟨rfl, rfl⟩) | refine allV_find ?_ | refine And.intro ?_ ?_)
                      · show (endF S x).1 = (endsV ((vis ++ [(((x, y), bb), b)]).flatMap fun y => [y.1.1.1])).1
                        rw [hst]
                      · show (endF S x).2 = (endsV ((vis ++ [(((x, y), bb), b)]).flatMap fun y => [y.1.1.1])).2
                        rw [hst]
                  · intro t t1 t2
                    repeat' (first | exact rfl | refine (findH_out rfl t1 (by omega)).trans ?_)
      · cases h
    · cases h
  · cases h
end Go.X.W
end

section
set_option linter.unusedVariables false
set_option linter.unusedSimpArgs false
set_option linter.unusedSectionVars false
/- Warm: the span of coefficients. -/
set_option linter.unusedVariables false
set_option linter.unusedSimpArgs false
set_option maxRecDepth 10000
set_option maxHeartbeats 4000000
namespace Go.X.W
open Go Go.Proofs Go.X

theorem b73 : Body P 73 := body_of Try.func73 (c := code Try.f73) rfl (by decide)
theorem k58b : COk P 58 (spanCt 73 fun _ p => [p.2]) := by
  have g := g67 (g73 (g100 good0))
  refine cokB (C := tabC _) g.ok Try.func58 (c := code Try.f58) rfl fun fr args H out h hp => ?_
  unfold spanCt at h
  split at h
  · rename_i bid k'
    split at h
    · rename_i mk l1 l2 c1 c2 id e0 e1
      split at h
      · rename_i n get e
        cases h
        have e0 : k' = 73 := by simpa using e0
        subst e0
        obtain ⟨hs, hok⟩ : Rds n get ∧ blkOk ⟨mk, l1, l2, c1, c2, rdL n get⟩ = true := hp
        have hh := bkHand e1 e hs
        refine ⟨bkP bid id n mk l1 l2 c1 c2 (rdAt get), [.sp 0 0, .fn (.func 73) [] []], bkH n mk l1 l2 c1 c2 (rdAt get), 2, [], rfl, rfl, Nat.le_of_ble_eq_true rfl, hh, rfl, rfl, fun G hG => ?_⟩
        rw [show rdL n get = (List.range n).map (rdAt get) from rfl] at hok ⊢
        generalize rdAt get = rd at hok ⊢
        obtain ⟨hmk, hl, hc, hn, hr⟩ := blk_b hok
        simp only at hmk hl hc
        have hok' : blkOk ⟨mk, l1, l2, c1, c2, rdL n fun i => rdC (rd i)⟩ = true := hok
        have hG' : ∀ j, 10 ≤ j → G.ρ j = none := fun j hj => hG j (by omega)
        refine Chk.mk ⟨rds_rd _ _, hok'⟩ ?_
        obtain ⟨B, hB⟩ : ∃ B : Blk, B = ⟨mk, l1, l2, c1, c2, (List.range n).map rd⟩ := ⟨_, rfl⟩
        refine Br.mk (fun h => ?_) (fun h => ?_)
        · have h : (!decide ((0 : Int) < ((pairsV ⟨mk, l1, l2, c1, c2, (List.range n).map rd⟩).length : Int))) = true := h
          exact FinB.mk ⟨by rw [h], ⟨rfl, ⟨rfl, rfl⟩, ⟨rfl, rfl⟩, ⟨rfl, rfl⟩, ⟨rfl, rfl⟩, ⟨rfl, rfl⟩, rfl, trivial⟩, trivial, trivial⟩
        · have hne : (!decide ((0 : Int) < ((pairsV ⟨mk, l1, l2, c1, c2, (List.range n).map rd⟩).length : Int))) = false := h
          have hmem : ∀ p ∈ pairsV B, (-1000 ≤ p.1 ∧ p.1 ≤ 1000) ∧ (0 ≤ p.2 ∧ p.2 ≤ 20) := fun p hp => by
            have := (pairs_mem.1 hp).1
            subst hB
            simp only at this
            omega
          refine fb_range encP encB (tellM (pairsV B)) 5 (g.ok _ _ _) cont_std rfl rfl rfl rfl rfl rfl rfl encP_key encB_cl rfl (by rw [hB]; rfl) ?_
          intro hnd ts clock hts
          have hlen : ts.length ≤ 100 := by
            have h1 := hts.length_eq
            rw [List.length_map] at h1
            rw [h1, tellM_len]
            exact pairs_len (by rw [hB]; exact hok)
          refine loop_okM (g.ok _ _ _) 10 (fun x : {p : List ((Pr × Bool) × Nat) × List ((Pr × Bool) × Nat) // ts.Perm (p.1 ++ p.2)} => ⟨[(0, ⟨[], .sp 0 0⟩), (1, ⟨[], .fn (.func 73) [] []⟩), (4, ⟨[], .sp 2 0⟩), (5, ⟨[], .sp 3 0⟩), (6, ⟨[], .sp 4 0⟩), (12, ⟨[], .sp 9 0⟩)], [],
            [(9, .it 5 clock (x.1.1.map (·.2)) clock), (5, .map (encS encP encB ts) clock), (4, .cells 146 [.fn (.func 100) [] []]), (3, .cells 145 [.si .i64 (endsV (x.1.1.flatMap fun y => [y.1.1.2])).1, .si .i64 (endsV (x.1.1.flatMap fun y => [y.1.1.2])).2]), (2, .cells 24 [.si .i64 0, .si .i64 0])] ++ bkH n mk l1 l2 c1 c2 rd, 10, []⟩)
            (fun x => x.1.1.length) (fun x => x.1.2.length) hG' ⟨([], ts), by simp⟩ (fun j => j) ?_ rfl (show (10 : Nat) ≤ 1000 by decide) rfl ?_
          · refine ⟨?_, ?_, rfl, rfl, rfl, rfl, trivial⟩
            · repeat' (first | exact trivial | exact rfl | refine And.intro ?_ ?_)
            · repeat' (first | exact trivial | exact rfl | (intro i hi; exact ⟨rfl, rfl⟩) | refine allV_find ?_ | refine And.intro ?_ ?_)
          · rintro ⟨⟨vis, rest⟩, hp⟩
            have hvl : vis.length ≤ ts.length := by rw [hp.length_eq]; simp
            refine fb_next encP encB 5 9 clock ts vis rest (g.ok _ _ _) cont_std rfl rfl rfl rfl rfl encP_key encB_cl rfl rfl rfl hp ⟨fun hr => ?_, ?_⟩
            · replace hr : rest = [] := hr
              subst hr
              have hv : ts.Perm vis := by simpa using hp
              refine Br.mk (fun h => by cases h) (fun _ => ?_)
              have hend := hull_end (L := fun p => [p.2]) hts hv
              refine Chk.mk ⟨by decide, by decide⟩ (Chk.mk ⟨by decide, by decide⟩ ?_)
              refine FinB.mk (finM_ret vis.length rfl (by omega) (fun t t1 t2 => ?_) rfl (fun H' hH' => ?_))
              · repeat' (first | exact rfl | refine (findH_out rfl t1 t2).trans ?_)
              · subst hB
                refine ⟨.inr ⟨_, by rw [hne]⟩, end_noid ⟨⟨rfl, ?_⟩, ⟨rfl, ?_⟩, trivial⟩ rfl rfl (keepP_same hH' rfl ⟨⟨rfl, ⟨rfl, rfl⟩, ⟨rfl, rfl⟩, ⟨rfl, rfl⟩, ⟨rfl, rfl⟩, ⟨rfl, rfl⟩, rfl, trivial⟩, trivial, trivial⟩)⟩
                · show (endsV (vis.flatMap fun y => [y.1.1.2])).1 = _
                  rw [hend]
                · show (endsV (vis.flatMap fun y => [y.1.1.2])).2 = _
                  rw [hend]
            · rintro ⟨⟨⟨x, y⟩, bb⟩, b⟩ rest' hrest
              refine Br.mk (fun _ => ?_) (fun h => by cases h)
              have hpts : (((x, y), bb), b) ∈ ts := hp.mem_iff.2 (List.mem_append_right _ (hrest.mem_iff.2 List.mem_cons_self))
              refine fb_entry encP encB 5 9 clock ts vis (((x, y), bb), b) (g.ok _ _ _) cont_std rfl rfl rfl rfl rfl encP_key encB_cl rfl rfl rfl hpts ?_
              refine rangeFunc_ok (g.ok _ _ _) rfl rfl rfl b114 ?_
              intro fn
              refine callS_exec g.ok Try.func114 (c := code Try.f114) rfl (Nat.le_of_ble_eq_true rfl) fun G2 hG2 => ?_
              obtain ⟨S, hS⟩ : ∃ S : Int × Int, endsV (vis.flatMap fun y => [y.1.1.2]) = S := ⟨_, rfl⟩
              obtain ⟨D0, hD0⟩ : ∃ m : Nat, vis.length = m := ⟨_, rfl⟩
              have hx := (hmem (x, y) (by
                have h1 := hts.mem_iff.1 (List.mem_map_of_mem (f := fun x => x.1) hpts)
                rw [tellM_eq (pairs_nodup B)] at h1
                obtain ⟨p, h2, h3⟩ := List.mem_map.1 h1
                cases h3
                exact h2)).2
              refine loop_okR (g.ok _ _ _) 2007 (fun z : {i : Nat // i ≤ 1} => ⟨[(0, ⟨[], .fy 2006⟩), (1, ⟨[], .sp 2001 0⟩), (3, ⟨[], .si .i64 (y + (z.1 : Int))⟩)], [],
                [(2006, .loop [(5, .sp 3 0), (6, .sp 4 0)] Try.f58.ntmps fn [20] (rfA (code Try.f58)) (rfB (code Try.f58)) 2005 .ready none), (2005, .dfr), (2001, .cells 116 [.si .i64 y, .si .i64 y]),
                 (9, .it 5 clock ((vis ++ [(((x, y), bb), b)]).map (·.2)) clock), (5, .map (encS encP encB ts) clock), (4, .cells 146 [.fn (.func 100) [] []]), (3, .cells 145 [.si .i64 (if z.1 = 0 then S else endF S y).1, .si .i64 (if z.1 = 0 then S else endF S y).2]), (2, .cells 24 [.si .i64 0, .si .i64 0])] ++ bkH n mk l1 l2 c1 c2 rd ++ dfrL D0, 2007, []⟩)
                (fun z => 1 - z.1) hG2 ⟨0, by omega⟩ (fun j => j) ?_ ?_
              · subst hD0
                refine ⟨?_, ?_, injI_id _, fixI_id _, rfl, rfl, trivial⟩
                · repeat' (first | exact trivial | exact rfl | refine And.intro ?_ ?_)
                  show y = y + ((0 : Nat) : Int)
                  omega
                · repeat' (first | exact trivial | exact rfl | (intro i hi; exact ⟨rfl, rfl⟩) | refine allV_find ?_ | refine And.intro ?_ ?_)
                  · show (endsV (vis.flatMap fun y => [y.1.1.2])).1 = S.1
                    rw [hS]
                  · show (endsV (vis.flatMap fun y => [y.1.1.2])).2 = S.2
                    rw [hS]
                  · refine weakRH_tail (by omega) (Nat.le_of_ble_eq_true rfl) (fun t t1 t2 => ?_)
                    repeat' (first | exact dfrL_some t1 t2 | refine (findH_out rfl t1 (by omega)).trans ?_)
              · rintro ⟨i, hi⟩
                refine Br.mk (fun h => ?_) (fun h => ?_)
                · have h : y + (i : Int) ≤ y := of_decide_eq_true h
                  obtain rfl : i = 0 := by omega
                  refine fb_yield 2006 g.ok (g.ok _ _ _) cont_std rfl rfl rfl rfl rfl rfl rfl rfl rfl (by decide) ?_
                  intro G4 r hG4
                  refine Br.mk (fun h => by cases h) (fun _ => ?_)
                  refine Chk.mk (show InK .i64 (y + ((0 : Nat) : Int) + 1) from ⟨by omega, by omega⟩) ⟨⟨1, by omega⟩, (fun j => j), ?_, (by show 1 - 1 < 1 - 0; omega)⟩
                  refine ⟨?_, ?_, injI_id _, fixI_id _, rfl, rfl, trivial⟩
                  · repeat' (first | exact trivial | exact rfl | refine And.intro ?_ ?_)
                    show y + ((0 : Nat) : Int) + 1 = y + ((1 : Nat) : Int)
                    omega
                  · repeat' (first | exact trivial | exact rfl | (intro i hi; exact ⟨rfl, rfl⟩) | refine allV_find ?_ | refine And.intro ?_ ?_)
                    · show (endF S (y + ((0 : Nat) : Int))).1 = (endF S y).1
                      rw [Int.natCast_zero, Int.add_zero]
                    · show (endF S (y + ((0 : Nat) : Int))).2 = (endF S y).2
                      rw [Int.natCast_zero, Int.add_zero]
                    · refine weakRH_tail (by omega) (Nat.le_of_ble_eq_true rfl) (fun t t1 t2 => ?_)
                      repeat' (first | exact dfrL_some t1 t2 | refine (findH_out rfl t1 (by omega)).trans ?_)
                · have h : ¬ y + (i : Int) ≤ y := of_decide_eq_false h
                  obtain rfl : i = 1 := by omega
                  have hpm : ts.Perm ((vis ++ [(((x, y), bb), b)]) ++ rest') := by
                    rw [List.append_assoc]
                    exact hp.trans (List.Perm.append_left _ hrest)
                  have hst := hull_step (fun p => [p.2]) vis (((x, y), bb), b)
                  rw [hS] at hst
                  have hst : endsV ((vis ++ [(((x, y), bb), b)]).flatMap fun y => [y.1.1.2]) = endF S y := hst
                  subst hD0
                  refine ⟨⟨(vis ++ [(((x, y), bb), b)], rest'), hpm⟩, (fun j => j), 2005, ?_, (show (10 : Nat) ≤ 1000 by decide), (by show (vis ++ [(((x, y), bb), b)]).length = vis.length + 1; simp), (by show vis.length < 900; omega), rfl, rfl, rfl, ?_, rfl, (by show rest'.length < rest.length; rw [hrest.length_eq]; simp)⟩
                  · refine ⟨?_, ?_, rfl, rfl, rfl, rfl, trivial⟩
                    · repeat' (first | exact trivial | exact rfl | refine And.intro ?_ ?_)
                    · repeat' (first | exact trivial | exact rfl | (intro i hi; exact ⟨rfl, rfl⟩) | refine allV_find ?_ | refine And.intro ?_ ?_)
                      · show (endF S y).1 = (endsV ((vis ++ [(((x, y), bb), b)]).flatMap fun y => [y.1.1.2])).1
                        rw [hst]
                      · show (endF S y).2 = (endsV ((vis ++ [(((x, y), bb), b)]).flatMap fun y => [y.1.1.2])).2
                        rw [hst]
                  · intro t t1 t2
                    repeat' (first | exact rfl | refine (findH_out rfl t1 (by omega)).trans ?_)
      · cases h
    · cases h
  · cases h
end Go.X.W
end

section
set_option linter.unusedVariables false
set_option linter.unusedSimpArgs false
set_option linter.unusedSectionVars false
/- Warm: the span of how warm a block was at a reading. -/
set_option linter.unusedVariables false
set_option linter.unusedSimpArgs false
set_option maxRecDepth 10000
set_option maxHeartbeats 4000000
namespace Go.X.W
open Go Go.Proofs Go.X

def heldP (bid id rx wx id2 n n2 : Nat) (mk l1 l2 c1 c2 m2 k1 k2 d1 d2 : Int) (r : Rd) (rd rd2 : Nat → Rd) : List (Nat × HB) :=
  [(bid, .cells 138 (bC mk l1 l2 c1 c2 1)), (id, .ro 4 n fun i => rdC (rd i)), (rx, .cells 118 (rdC r)), (wx, .cells 36 (bC m2 k1 k2 d1 d2 4)), (id2, .ro 4 n2 fun i => rdC (rd2 i))]
def heldH (n n2 : Nat) (mk l1 l2 c1 c2 m2 k1 k2 d1 d2 : Int) (r : Rd) (rd rd2 : Nat → Rd) : List (Nat × HB) :=
  [(0, .cells 138 (bC mk l1 l2 c1 c2 1)), (1, .ro 4 n fun i => rdC (rd i)), (2, .cells 118 (rdC r)), (3, .cells 36 (bC m2 k1 k2 d1 d2 4)), (4, .ro 4 n2 fun i => rdC (rd2 i))]
def c75 : Ct := fun fr args H =>
  match args with
  | [.agg [.si .i64 x, .si .i64 y], .sp rx 0, .sp wx 0] => (match H rx, H wx with
    | some (.cells 118 [.si .i64 a, .si .i64 b, .si .i64 c, .si .i64 d]), some (.cells 36 [.si .i64 m2, .si .i64 k1, .si .i64 k2, .si .i64 d1, .si .i64 d2, .sl id2]) => (match sliceOf 4 H id2 with
      | some (n2, get2) => some ⟨some (Rds n2 get2), none, .fn (.func 105) [] [.sp fr 0, .sp (fr + 1) 0, .sp (fr + 2) 0],
          [(fr, .cells 118 (rdC (a, b, c, d))), (fr + 1, .cells 3 [.si .i64 m2]), (fr + 2, .cells 90 [.si .i64 x, .si .i64 y])]⟩
      | none => none)
    | _, _ => none)
  | _ => none
theorem c75_mono : CtMono c75 := by
  intro fr args H H' out hH h
  unfold c75 at h ⊢
  split at h
  · split at h
    · rename_i e1 e2
      split at h
      · rename_i e
        simp only [hH _ _ e1, hH _ _ e2, sliceOf_mono hH e]
        exact h
      · cases h
    · cases h
  · cases h
theorem k75 {l : List (Nat × Ct)} (g0 : Good P T l) : COk P 75 c75 := by
  have g := g76 g0
  refine cok (C := tabC _) g.ok Try.func75 (c := code Try.f75) rfl fun fr args H out h hp => ?_
  unfold c75 at h
  split at h
  · rename_i x y rx wx
    split at h
    · rename_i a b c d m2 k1 k2 d1 d2 id2 e1 e2
      split at h
      · rename_i n2 get2 e
        cases h
        have hs : Rds n2 get2 := hp
        have hh : Hand H [(rx, .cells 118 (rdC (a, b, c, d))), (wx, .cells 36 (bC m2 k1 k2 d1 d2 2)), (id2, .ro 4 n2 fun i => rdC (rdAt get2 i))] := hand_mk ⟨e1, e2, sliceOf_piece e fun i hi => by rw [hs i hi]; rfl, trivial⟩
          (by repeat' (first | exact trivial | (intro i hi; exact ⟨trivial, trivial, trivial, trivial, trivial⟩) | refine And.intro ?_ ?_ | exact (by decide : (2 : Nat) < 3))) rfl
        refine ⟨_, [.agg [.si .i64 x, .si .i64 y], .sp 0 0, .sp 1 0], _, 3, [4, 5, 6], rfl, rfl, Nat.le_of_ble_eq_true rfl, hh, rfl, rfl, fun G hG => ?_⟩
        generalize rdAt get2 = rd
        refine ⟨.inl rfl, ⟨rfl, rfl, ⟨rfl, ⟨⟨rfl, ⟨rfl, rfl⟩, ⟨rfl, rfl⟩, ⟨rfl, rfl⟩, ⟨rfl, rfl⟩, trivial⟩, rfl⟩, rfl, ⟨⟨rfl, ⟨rfl, rfl⟩, trivial⟩, rfl⟩, rfl, ⟨⟨rfl, ⟨rfl, rfl⟩, ⟨rfl, rfl⟩, trivial⟩, rfl⟩, trivial⟩, ?_, rfl, rfl⟩⟩
        exact ⟨⟨rfl, ⟨rfl, rfl⟩, ⟨rfl, rfl⟩, ⟨rfl, rfl⟩, ⟨rfl, rfl⟩, trivial⟩, ⟨rfl, ⟨rfl, rfl⟩, ⟨rfl, rfl⟩, ⟨rfl, rfl⟩, ⟨rfl, rfl⟩, ⟨rfl, rfl⟩, rfl, trivial⟩, trivial, trivial⟩
      · cases h
    · cases h
  · cases h
theorem g75 {l : List (Nat × Ct)} (g : Good P T l) : Good P T ((75, c75) :: l) := g.add (k75 g) c75_mono (body_of Try.func75 (c := code Try.f75) rfl (by decide))
theorem b75 : Body P 75 := body_of Try.func75 (c := code Try.f75) rfl (by decide)

/-- The span of what a closure yields that holds a reading and a block. -/
def heldQ (n : Nat) (get : Nat → List SV) (n2 : Nat) (get2 : Nat → List SV) (B : Blk) (m2 : Int) (r : Rd) : Prop := Rds n get ∧ Rds n2 get2 ∧ blkOk B = true ∧ smB 1000 m2 ∧ rdOk r = true
def heldCt : Ct := fun fr args H =>
  match args with
  | [.sp bid 0, .fn (.func 75) [] [.sp rx 0, .sp wx 0]] => (match H bid, H rx, H wx with
    | some (.cells 138 [.si .i64 mk, .si .i64 l1, .si .i64 l2, .si .i64 c1, .si .i64 c2, .sl id]), some (.cells 118 [.si .i64 a, .si .i64 b, .si .i64 c, .si .i64 d]), some (.cells 36 [.si .i64 m2, .si .i64 k1, .si .i64 k2, .si .i64 d1, .si .i64 d2, .sl id2]) =>
        (match sliceOf 4 H id, sliceOf 4 H id2 with
      | some (n, get), some (n2, get2) => some ⟨some (heldQ n get n2 get2 ⟨mk, l1, l2, c1, c2, rdL n get⟩ m2 (a, b, c, d)), some (!decide ((0 : Int) < ((pairsV ⟨mk, l1, l2, c1, c2, rdL n get⟩).length : Int)), refP 10),
          .agg [.si .i64 (hullV ⟨mk, l1, l2, c1, c2, rdL n get⟩ fun p => warmV m2 p (a, b, c, d)).1, .si .i64 (hullV ⟨mk, l1, l2, c1, c2, rdL n get⟩ fun p => warmV m2 p (a, b, c, d)).2], []⟩
      | _, _ => none)
    | _, _, _ => none)
  | _ => none
theorem heldCt_mono : CtMono heldCt := by
  intro fr args H H' out hH h
  unfold heldCt at h ⊢
  split at h
  · split at h
    · rename_i e0 e1 e2
      split at h
      · rename_i e e'
        simp only [hH _ _ e0, hH _ _ e1, hH _ _ e2, sliceOf_mono hH e, sliceOf_mono hH e']
        exact h
      · cases h
    · cases h
  · cases h
theorem k58c : COk P 58 heldCt := by
  have g := g67 (g75 (g100 (g101 (g81 (g66 good0)))))
  refine cokB (C := tabC _) g.ok Try.func58 (c := code Try.f58) rfl fun fr args H out h hp => ?_
  unfold heldCt at h
  split at h
  · rename_i bid rx wx
    split at h
    · rename_i mk l1 l2 c1 c2 id ra rb rc re m2 k1 k2 d1 d2 id2 e0 e1 e2
      split at h
      · rename_i n get n2 get2 e e'
        cases h
        obtain ⟨hs, hs2, hok, hm2, hro⟩ : heldQ n get n2 get2 ⟨mk, l1, l2, c1, c2, rdL n get⟩ m2 (ra, rb, rc, re) := hp
        have hh : Hand H (heldP bid id rx wx id2 n n2 mk l1 l2 c1 c2 m2 k1 k2 d1 d2 (ra, rb, rc, re) (rdAt get) (rdAt get2)) := hand_mk ⟨e0, sliceOf_piece e fun i hi => by rw [hs i hi]; rfl, e1, e2, sliceOf_piece e' fun i hi => by rw [hs2 i hi]; rfl, trivial⟩
          (by repeat' (first | exact trivial | (intro i hi; exact ⟨trivial, trivial, trivial, trivial, trivial⟩) | refine And.intro ?_ ?_ | exact (by decide : (1 : Nat) < 5) | exact (by decide : (4 : Nat) < 5))) rfl
        refine ⟨_, [.sp 0 0, .fn (.func 75) [] [.sp 2 0, .sp 3 0]], heldH n n2 mk l1 l2 c1 c2 m2 k1 k2 d1 d2 (ra, rb, rc, re) (rdAt get) (rdAt get2), 5, [], rfl, rfl, Nat.le_of_ble_eq_true rfl, hh, rfl, rfl, fun G hG => ?_⟩
        rw [show rdL n get = (List.range n).map (rdAt get) from rfl] at hok ⊢
        generalize rdAt get = rd at hok ⊢
        generalize rdAt get2 = rd2
        obtain ⟨hmk, hl, hc, hn, hr⟩ := blk_b hok
        simp only at hmk hl hc
        have hrb := rdOk_b hro
        simp only at hrb
        have hok' : blkOk ⟨mk, l1, l2, c1, c2, rdL n fun i => rdC (rd i)⟩ = true := hok
        have hG' : ∀ j, 13 ≤ j → G.ρ j = none := fun j hj => hG j (by omega)
        refine Chk.mk ⟨rds_rd _ _, hok'⟩ ?_
        obtain ⟨B, hB⟩ : ∃ B : Blk, B = ⟨mk, l1, l2, c1, c2, (List.range n).map rd⟩ := ⟨_, rfl⟩
        refine Br.mk (fun h => ?_) (fun h => ?_)
        · have h : (!decide ((0 : Int) < ((pairsV ⟨mk, l1, l2, c1, c2, (List.range n).map rd⟩).length : Int))) = true := h
          refine FinB.mk ⟨by rw [h], ?_⟩
          exact ⟨⟨rfl, ⟨rfl, rfl⟩, ⟨rfl, rfl⟩, ⟨rfl, rfl⟩, ⟨rfl, rfl⟩, ⟨rfl, rfl⟩, rfl, trivial⟩, trivial, ⟨rfl, ⟨rfl, rfl⟩, ⟨rfl, rfl⟩, ⟨rfl, rfl⟩, ⟨rfl, rfl⟩, trivial⟩, ⟨rfl, ⟨rfl, rfl⟩, ⟨rfl, rfl⟩, ⟨rfl, rfl⟩, ⟨rfl, rfl⟩, ⟨rfl, rfl⟩, rfl, trivial⟩, trivial, trivial⟩
        · have hne : (!decide ((0 : Int) < ((pairsV ⟨mk, l1, l2, c1, c2, (List.range n).map rd⟩).length : Int))) = false := h
          have hmem : ∀ p ∈ pairsV B, (-1000 ≤ p.1 ∧ p.1 ≤ 1000) ∧ (0 ≤ p.2 ∧ p.2 ≤ 20) := fun p hp => by
            have := (pairs_mem.1 hp).1
            subst hB
            simp only at this
            omega
          refine fb_range encP encB (tellM (pairsV B)) 8 (g.ok _ _ _) cont_std rfl rfl rfl rfl rfl rfl rfl encP_key encB_cl rfl (by rw [hB]; rfl) ?_
          intro hnd ts clock hts
          have hlen : ts.length ≤ 100 := by
            have h1 := hts.length_eq
            rw [List.length_map] at h1
            rw [h1, tellM_len]
            exact pairs_len (by rw [hB]; exact hok)
          obtain ⟨L, hL⟩ : ∃ L : Pr → List Int, (fun p => warmV m2 p (ra, rb, rc, re)) = L := ⟨_, rfl⟩
          refine loop_okM (g.ok _ _ _) 13 (fun x : {p : List ((Pr × Bool) × Nat) × List ((Pr × Bool) × Nat) // ts.Perm (p.1 ++ p.2)} => ⟨[(0, ⟨[], .sp 0 0⟩), (1, ⟨[], .fn (.func 75) [] [.sp 2 0, .sp 3 0]⟩), (4, ⟨[], .sp 5 0⟩), (5, ⟨[], .sp 6 0⟩), (6, ⟨[], .sp 7 0⟩), (12, ⟨[], .sp 12 0⟩)], [],
            [(12, .it 8 clock (x.1.1.map (·.2)) clock), (8, .map (encS encP encB ts) clock), (7, .cells 146 [.fn (.func 100) [] []]), (6, .cells 145 [.si .i64 (endsV (x.1.1.flatMap fun y => L y.1.1)).1, .si .i64 (endsV (x.1.1.flatMap fun y => L y.1.1)).2]), (5, .cells 24 [.si .i64 0, .si .i64 0])] ++ heldH n n2 mk l1 l2 c1 c2 m2 k1 k2 d1 d2 (ra, rb, rc, re) rd rd2, 13, []⟩)
            (fun x => x.1.1.length) (fun x => x.1.2.length) hG' ⟨([], ts), by simp⟩ (fun j => j) ?_ rfl (show (13 : Nat) ≤ 1000 by decide) rfl ?_
          · refine ⟨?_, ?_, rfl, rfl, rfl, rfl, trivial⟩
            · repeat' (first | exact trivial | exact rfl | refine And.intro ?_ ?_)
            · repeat' (first | exact trivial | exact rfl | (intro i hi; exact ⟨rfl, rfl⟩) | refine allV_find ?_ | refine And.intro ?_ ?_)
          · rintro ⟨⟨vis, rest⟩, hp⟩
            have hvl : vis.length ≤ ts.length := by rw [hp.length_eq]; simp
            refine fb_next encP encB 8 12 clock ts vis rest (g.ok _ _ _) cont_std rfl rfl rfl rfl rfl encP_key encB_cl rfl rfl rfl hp ⟨fun hr => ?_, ?_⟩
            · replace hr : rest = [] := hr
              subst hr
              have hv : ts.Perm vis := by simpa using hp
              refine Br.mk (fun h => by cases h) (fun _ => ?_)
              have hend := hull_end (L := L) hts hv
              refine Chk.mk ⟨by decide, by decide⟩ (Chk.mk ⟨by decide, by decide⟩ ?_)
              refine FinB.mk (finM_ret vis.length rfl (by omega) (fun t t1 t2 => ?_) rfl (fun H' hH' => ?_))
              · repeat' (first | exact rfl | refine (findH_out rfl t1 t2).trans ?_)
              · subst hB
                refine ⟨.inr ⟨_, by rw [hne]⟩, end_noid ⟨⟨rfl, ?_⟩, ⟨rfl, ?_⟩, trivial⟩ rfl rfl (keepP_same hH' rfl ?_)⟩
                · show (endsV (vis.flatMap fun y => L y.1.1)).1 = _
                  rw [hend, hL]
                · show (endsV (vis.flatMap fun y => L y.1.1)).2 = _
                  rw [hend, hL]
                · exact ⟨⟨rfl, ⟨rfl, rfl⟩, ⟨rfl, rfl⟩, ⟨rfl, rfl⟩, ⟨rfl, rfl⟩, ⟨rfl, rfl⟩, rfl, trivial⟩, trivial, ⟨rfl, ⟨rfl, rfl⟩, ⟨rfl, rfl⟩, ⟨rfl, rfl⟩, ⟨rfl, rfl⟩, trivial⟩, ⟨rfl, ⟨rfl, rfl⟩, ⟨rfl, rfl⟩, ⟨rfl, rfl⟩, ⟨rfl, rfl⟩, ⟨rfl, rfl⟩, rfl, trivial⟩, trivial, trivial⟩
            · rintro ⟨⟨⟨x, y⟩, bb⟩, b⟩ rest' hrest
              refine Br.mk (fun _ => ?_) (fun h => by cases h)
              have hpts : (((x, y), bb), b) ∈ ts := hp.mem_iff.2 (List.mem_append_right _ (hrest.mem_iff.2 List.mem_cons_self))
              refine fb_entry encP encB 8 12 clock ts vis (((x, y), bb), b) (g.ok _ _ _) cont_std rfl rfl rfl rfl rfl encP_key encB_cl rfl rfl rfl hpts ?_
              refine Chk.mk (rds_rd _ _) ?_
              refine rangeFunc_ok (g.ok _ _ _) rfl rfl rfl b105 ?_
              intro fn
              refine callS_frame [_, _, _, _, _, _, _, _, _, _, _, _, _, _, _, _, _, _] vis.length rfl (by omega) rfl ?_
              refine callS_execM g.ok Try.func105 (c := code Try.f105) rfl (Nat.le_of_ble_eq_true rfl) fun G2 hG2 => ?_
              refine rangeFunc_ok (g.ok _ _ _) rfl rfl rfl b114 ?_
              intro fn2
              refine callS_exec g.ok Try.func114 (c := code Try.f114) rfl (Nat.le_of_ble_eq_true rfl) fun G3 hG3 => ?_
              obtain ⟨S, hS⟩ : ∃ S : Int × Int, endsV (vis.flatMap fun y => L y.1.1) = S := ⟨_, rfl⟩
              obtain ⟨D0, hD0⟩ : ∃ m : Nat, vis.length = m := ⟨_, rfl⟩
              have hx := hmem (x, y) (by
                have h1 := hts.mem_iff.1 (List.mem_map_of_mem (f := fun x => x.1) hpts)
                rw [tellM_eq (pairs_nodup B)] at h1
                obtain ⟨p, h2, h3⟩ := List.mem_map.1 h1
                cases h3
                exact h2)
              simp only at hx
              have hit : ∀ t, hitB m2 (x, y) (ra, rb, rc, re) t = inB (showV m2 (x, y) t) rc re := fun t => rfl
              let pre : Int → List Int := fun t => (iota ra (t - 1)).filter (hitB m2 (x, y) (ra, rb, rc, re))
              have hpre : ∀ t, ra ≤ t → pre (t + 1) = pre t ++ (if hitB m2 (x, y) (ra, rb, rc, re) t = true then [t] else []) := fun t ht => by
                show (iota ra (t + 1 - 1)).filter _ = (iota ra (t - 1)).filter _ ++ _
                rw [show t + 1 - 1 = t by omega, iota_snoc ht, List.filter_append]
                congr 1
                simp only [List.filter_cons, List.filter_nil]
              have hpre0 : pre ra = [] := by
                show (iota ra (ra - 1)).filter _ = []
                rw [iota_nil (by omega)]; rfl
              refine loop_okR (g.ok _ _ _) 2014 (fun z : {t : Int // ra ≤ t ∧ t ≤ rb + 1} => ⟨[(0, ⟨[], .fy 2013⟩), (1, ⟨[], .sp 2008 0⟩), (3, ⟨[], .si .i64 z.1⟩)], [],
                [(2013, .loop [(1, .sp 2001 0), (2, .sp 2002 0), (3, .sp 2003 0), (4, .sp 2007 0)] Try.f105.ntmps fn2 [11] (rfA (code Try.f105)) (rfB (code Try.f105)) 2012 .ready none), (2012, .dfr), (2008, .cells 116 [.si .i64 ra, .si .i64 rb]), (2007, .cells 75 [.fy 2006]),
                 (2006, .loop [(5, .sp 6 0), (6, .sp 7 0)] Try.f58.ntmps fn [20] (rfA (code Try.f58)) (rfB (code Try.f58)) 2005 .ready none), (2005, .dfr), (2001, .cells 118 (rdC (ra, rb, rc, re))), (2002, .cells 3 [.si .i64 m2]), (2003, .cells 90 [.si .i64 x, .si .i64 y]),
                 (12, .it 8 clock ((vis ++ [(((x, y), bb), b)]).map (·.2)) clock), (8, .map (encS encP encB ts) clock), (7, .cells 146 [.fn (.func 100) [] []]), (6, .cells 145 [.si .i64 ((pre z.1).foldl endF S).1, .si .i64 ((pre z.1).foldl endF S).2]), (5, .cells 24 [.si .i64 0, .si .i64 0])] ++ heldH n n2 mk l1 l2 c1 c2 m2 k1 k2 d1 d2 (ra, rb, rc, re) rd rd2, 2014, []⟩)
                (fun z => (rb + 1 - z.1).toNat) hG3 ⟨ra, by omega, by omega⟩ (fun j => j) ?_ ?_
              · subst hD0
                refine ⟨?_, ?_, injI_id _, fixI_id _, rfl, rfl, trivial⟩
                · repeat' (first | exact trivial | exact rfl | refine And.intro ?_ ?_)
                · repeat' (first | exact trivial | exact rfl | (intro i hi; exact ⟨rfl, rfl⟩) | refine allV_find ?_ | refine And.intro ?_ ?_)
                  · show (endsV (vis.flatMap fun y => L y.1.1)).1 = ((pre ra).foldl endF S).1
                    rw [hS, hpre0]; rfl
                  · show (endsV (vis.flatMap fun y => L y.1.1)).2 = ((pre ra).foldl endF S).2
                    rw [hS, hpre0]; rfl
              · rintro ⟨t, ht1, ht2⟩
                refine Br.mk (fun h => ?_) (fun h => ?_)
                · replace h : t ≤ rb := of_decide_eq_true h
                  refine fb_yield 2013 g.ok (g.ok _ _ _) cont_std rfl rfl rfl rfl rfl rfl rfl rfl rfl (by decide) ?_
                  intro G4 r hG4
                  refine drawn_ok (g.ok _ _ _) fol [0,0,0,7,0,16,48,0,128,384,1023,2047] [] 12 (by kernel_rfl) ?_
                  refine Chk.mk ⟨⟨(show -1000000 ≤ x by omega), (show x ≤ 1000000 by omega)⟩, hm2, ⟨(show -1000 ≤ y by omega), (show y ≤ 1000 by omega)⟩, ⟨(show -1000 ≤ t by omega), (show t ≤ 1000 by omega)⟩⟩ ?_
                  have hpt := hpre t ht1
                  refine Br.mk (fun hq => ?_) (fun hq => ?_)
                  · have hq : (!hitB m2 (x, y) (ra, rb, rc, re) t) = true := hq
                    have hq : hitB m2 (x, y) (ra, rb, rc, re) t = false := by simpa using hq
                    rw [hq] at hpt
                    refine Br.mk (fun h => by cases h) (fun _ => ?_)
                    refine Chk.mk (show InK .i64 (t + 1) from ⟨by omega, by omega⟩) ⟨⟨t + 1, by omega, by omega⟩, (fun j => j), ?_, (by show (rb + 1 - (t + 1)).toNat < (rb + 1 - t).toNat; omega)⟩
                    refine ⟨?_, ?_, injI_id _, fixI_id _, rfl, rfl, trivial⟩
                    · repeat' (first | exact trivial | exact rfl | refine And.intro ?_ ?_)
                    · repeat' (first | exact trivial | exact rfl | (intro i hi; exact ⟨rfl, rfl⟩) | refine allV_find ?_ | refine And.intro ?_ ?_)
                      · show ((pre t).foldl endF S).1 = ((pre (t + 1)).foldl endF S).1
                        rw [hpt]; simp
                      · show ((pre t).foldl endF S).2 = ((pre (t + 1)).foldl endF S).2
                        rw [hpt]; simp
                  · have hq : (!hitB m2 (x, y) (ra, rb, rc, re) t) = false := hq
                    have hq : hitB m2 (x, y) (ra, rb, rc, re) t = true := by simpa using hq
                    rw [hq, if_pos rfl] at hpt
                    refine fb_yield 2006 g.ok (g.ok _ _ _) cont_std rfl rfl rfl rfl rfl rfl rfl rfl rfl (by decide) ?_
                    intro G5 r5 hG5
                    refine Br.mk (fun h => by cases h) (fun _ => ?_)
                    refine Br.mk (fun h => by cases h) (fun _ => ?_)
                    refine Chk.mk (show InK .i64 (t + 1) from ⟨by omega, by omega⟩) ⟨⟨t + 1, by omega, by omega⟩, (fun j => j), ?_, (by show (rb + 1 - (t + 1)).toNat < (rb + 1 - t).toNat; omega)⟩
                    have hf : (pre (t + 1)).foldl endF S = endF ((pre t).foldl endF S) t := by rw [hpt, List.foldl_append]; rfl
                    refine ⟨?_, ?_, injI_id _, fixI_id _, rfl, rfl, trivial⟩
                    · repeat' (first | exact trivial | exact rfl | refine And.intro ?_ ?_)
                    · repeat' (first | exact trivial | exact rfl | (intro i hi; exact ⟨rfl, rfl⟩) | refine allV_find ?_ | refine And.intro ?_ ?_)
                      · show (endF ((pre t).foldl endF S) t).1 = ((pre (t + 1)).foldl endF S).1
                        rw [hf]
                      · show (endF ((pre t).foldl endF S) t).2 = ((pre (t + 1)).foldl endF S).2
                        rw [hf]
                · replace h : ¬ t ≤ rb := of_decide_eq_false h
                  obtain rfl : t = rb + 1 := by omega
                  have hpm : ts.Perm ((vis ++ [(((x, y), bb), b)]) ++ rest') := by
                    rw [List.append_assoc]
                    exact hp.trans (List.Perm.append_left _ hrest)
                  have hst := hull_step L vis (((x, y), bb), b)
                  rw [hS] at hst
                  have hlp : L (x, y) = pre (rb + 1) := by
                    rw [← hL]
                    show (iota ra rb).filter _ = (iota ra (rb + 1 - 1)).filter _
                    rw [show rb + 1 - 1 = rb by omega]
                  have hst : endsV ((vis ++ [(((x, y), bb), b)]).flatMap fun y => L y.1.1) = (pre (rb + 1)).foldl endF S := by rw [← hlp]; exact hst
                  subst hD0
                  refine ⟨rfl, ?_⟩
                  refine ⟨⟨(vis ++ [(((x, y), bb), b)], rest'), hpm⟩, (fun j => j), 2005, ?_, (show (13 : Nat) ≤ 1000 by decide), (by show (vis ++ [(((x, y), bb), b)]).length = vis.length + 1; simp), (by show vis.length < 900; omega), rfl, rfl, rfl, ?_, rfl, (by show rest'.length < rest.length; rw [hrest.length_eq]; simp)⟩
                  · refine ⟨?_, ?_, rfl, rfl, rfl, rfl, trivial⟩
                    · repeat' (first | exact trivial | exact rfl | refine And.intro ?_ ?_)
                    · repeat' (first | exact trivial | exact rfl | (intro i hi; exact ⟨rfl, rfl⟩) | refine allV_find ?_ | refine And.intro ?_ ?_)
                      · show ((pre (rb + 1)).foldl endF S).1 = (endsV ((vis ++ [(((x, y), bb), b)]).flatMap fun y => L y.1.1)).1
                        rw [hst]
                      · show ((pre (rb + 1)).foldl endF S).2 = (endsV ((vis ++ [(((x, y), bb), b)]).flatMap fun y => L y.1.1)).2
                        rw [hst]
                  · intro t t1 t2
                    repeat' (first | exact rfl | refine (findH_out rfl t1 (by omega)).trans ?_)
      · cases h
    · cases h
  · cases h
end Go.X.W
end

section
set_option linter.unusedVariables false
set_option linter.unusedSimpArgs false
set_option linter.unusedSectionVars false
/- Warm: the span of what a block will show. -/
set_option linter.unusedVariables false
set_option linter.unusedSimpArgs false
set_option maxRecDepth 10000
set_option maxHeartbeats 4000000
namespace Go.X.W
open Go Go.Proofs Go.X

def showP (bid id wx id2 sx n n2 : Nat) (mk l1 l2 c1 c2 m2 k1 k2 d1 d2 lo hi : Int) (rd rd2 : Nat → Rd) : List (Nat × HB) :=
  [(bid, .cells 138 (bC mk l1 l2 c1 c2 1)), (id, .ro 4 n fun i => rdC (rd i)), (wx, .cells 36 (bC m2 k1 k2 d1 d2 3)), (id2, .ro 4 n2 fun i => rdC (rd2 i)), (sx, .cells 24 [.si .i64 lo, .si .i64 hi])]
def showH (n n2 : Nat) (mk l1 l2 c1 c2 m2 k1 k2 d1 d2 lo hi : Int) (rd rd2 : Nat → Rd) : List (Nat × HB) :=
  [(0, .cells 138 (bC mk l1 l2 c1 c2 1)), (1, .ro 4 n fun i => rdC (rd i)), (2, .cells 36 (bC m2 k1 k2 d1 d2 3)), (3, .ro 4 n2 fun i => rdC (rd2 i)), (4, .cells 24 [.si .i64 lo, .si .i64 hi])]
def c80 : Ct := fun fr args H =>
  match args with
  | [.agg [.si .i64 x, .si .i64 y], .sp wx 0, .sp sx 0] => (match H wx, H sx with
    | some (.cells 36 [.si .i64 m2, .si .i64 k1, .si .i64 k2, .si .i64 d1, .si .i64 d2, .sl id2]), some (.cells 24 [.si .i64 lo, .si .i64 hi]) => (match sliceOf 4 H id2 with
      | some (n2, get2) => some ⟨some (Rds n2 get2), none, .fn (.func 82) [] [.sp fr 0, .sp wx 0, .sp sx 0], [(fr, .cells 109 [.fn (.func 81) [.agg [.si .i64 x, .si .i64 y]] []])]⟩
      | none => none)
    | _, _ => none)
  | _ => none
theorem c80_mono : CtMono c80 := by
  intro fr args H H' out hH h
  unfold c80 at h ⊢
  split at h
  · split at h
    · rename_i e1 e2
      split at h
      · rename_i e
        simp only [hH _ _ e1, hH _ _ e2, sliceOf_mono hH e]
        exact h
      · cases h
    · cases h
  · cases h
theorem k80 {l : List (Nat × Ct)} (g : Good P T l) : COk P 80 c80 := by
  refine cok (C := tabC _) g.ok Try.func80 (c := code Try.f80) rfl fun fr args H out h hp => ?_
  unfold c80 at h
  split at h
  · rename_i x y wx sx
    split at h
    · rename_i m2 k1 k2 d1 d2 id2 lo hi e1 e2
      split at h
      · rename_i n2 get2 e
        cases h
        have hs : Rds n2 get2 := hp
        have hh : Hand H [(wx, .cells 36 (bC m2 k1 k2 d1 d2 1)), (id2, .ro 4 n2 fun i => rdC (rdAt get2 i)), (sx, .cells 24 [.si .i64 lo, .si .i64 hi])] := hand_mk ⟨e1, sliceOf_piece e fun i hi => by rw [hs i hi]; rfl, e2, trivial⟩
          (by repeat' (first | exact trivial | (intro i hi; exact ⟨trivial, trivial, trivial, trivial, trivial⟩) | refine And.intro ?_ ?_ | exact (by decide : (1 : Nat) < 3))) rfl
        refine ⟨_, [.agg [.si .i64 x, .si .i64 y], .sp 0 0, .sp 2 0], _, 3, [4], rfl, rfl, Nat.le_of_ble_eq_true rfl, hh, rfl, rfl, fun G hG => ?_⟩
        generalize rdAt get2 = rd
        refine ⟨.inl rfl, ⟨rfl, rfl, ⟨rfl, ⟨⟨rfl, ?_, trivial⟩, rfl⟩, trivial⟩, ?_, rfl, rfl⟩⟩
        · exact rfl
        · exact ⟨⟨rfl, ⟨rfl, rfl⟩, ⟨rfl, rfl⟩, ⟨rfl, rfl⟩, ⟨rfl, rfl⟩, ⟨rfl, rfl⟩, rfl, trivial⟩, trivial, ⟨rfl, ⟨rfl, rfl⟩, ⟨rfl, rfl⟩, trivial⟩, trivial⟩
      · cases h
    · cases h
  · cases h
theorem g80 {l : List (Nat × Ct)} (g : Good P T l) : Good P T ((80, c80) :: l) := g.add (k80 g) c80_mono (body_of Try.func80 (c := code Try.f80) rfl (by decide))
theorem b82 : Body P 82 := body_of Try.func82 (c := code Try.f82) rfl (by decide)

def showQ (n : Nat) (get : Nat → List SV) (n2 : Nat) (get2 : Nat → List SV) (B : Blk) (m2 lo hi : Int) : Prop := Rds n get ∧ Rds n2 get2 ∧ blkOk B = true ∧ smB 1000 m2 ∧ smB 1000 lo ∧ smB 1000 hi
def showL (m2 lo hi : Int) (p : Pr) : List Int := [showV m2 p lo, showV m2 p hi]
def showCt : Ct := fun fr args H =>
  match args with
  | [.sp bid 0, .fn (.func 80) [] [.sp wx 0, .sp sx 0]] => (match H bid, H wx, H sx with
    | some (.cells 138 [.si .i64 mk, .si .i64 l1, .si .i64 l2, .si .i64 c1, .si .i64 c2, .sl id]), some (.cells 36 [.si .i64 m2, .si .i64 k1, .si .i64 k2, .si .i64 d1, .si .i64 d2, .sl id2]), some (.cells 24 [.si .i64 lo, .si .i64 hi]) =>
        (match sliceOf 4 H id, sliceOf 4 H id2 with
      | some (n, get), some (n2, get2) => some ⟨some (showQ n get n2 get2 ⟨mk, l1, l2, c1, c2, rdL n get⟩ m2 lo hi), some (!decide ((0 : Int) < ((pairsV ⟨mk, l1, l2, c1, c2, rdL n get⟩).length : Int)), refP 10),
          .agg [.si .i64 (hullV ⟨mk, l1, l2, c1, c2, rdL n get⟩ (showL m2 lo hi)).1, .si .i64 (hullV ⟨mk, l1, l2, c1, c2, rdL n get⟩ (showL m2 lo hi)).2], []⟩
      | _, _ => none)
    | _, _, _ => none)
  | _ => none
theorem showCt_mono : CtMono showCt := by
  intro fr args H H' out hH h
  unfold showCt at h ⊢
  split at h
  · split at h
    · rename_i e0 e1 e2
      split at h
      · rename_i e e'
        simp only [hH _ _ e0, hH _ _ e1, hH _ _ e2, sliceOf_mono hH e, sliceOf_mono hH e']
        exact h
      · cases h
    · cases h
  · cases h
theorem k58d : COk P 58 showCt := by
  have g := g67 (g80 (g100 (g81 good0)))
  refine cokB (C := tabC _) g.ok Try.func58 (c := code Try.f58) rfl fun fr args H out h hp => ?_
  unfold showCt at h
  split at h
  · rename_i bid wx sx
    split at h
    · rename_i mk l1 l2 c1 c2 id m2 k1 k2 d1 d2 id2 lo hi e0 e1 e2
      split at h
      · rename_i n get n2 get2 e e'
        cases h
        obtain ⟨hs, hs2, hok, hm2, hlo, hhi⟩ : showQ n get n2 get2 ⟨mk, l1, l2, c1, c2, rdL n get⟩ m2 lo hi := hp
        have hh : Hand H (showP bid id wx id2 sx n n2 mk l1 l2 c1 c2 m2 k1 k2 d1 d2 lo hi (rdAt get) (rdAt get2)) := hand_mk ⟨e0, sliceOf_piece e fun i hi => by rw [hs i hi]; rfl, e1, sliceOf_piece e' fun i hi => by rw [hs2 i hi]; rfl, e2, trivial⟩
          (by repeat' (first | exact trivial | (intro i hi; exact ⟨trivial, trivial, trivial, trivial, trivial⟩) | refine And.intro ?_ ?_ | exact (by decide : (1 : Nat) < 5) | exact (by decide : (3 : Nat) < 5))) rfl
        refine ⟨_, [.sp 0 0, .fn (.func 80) [] [.sp 2 0, .sp 4 0]], showH n n2 mk l1 l2 c1 c2 m2 k1 k2 d1 d2 lo hi (rdAt get) (rdAt get2), 5, [], rfl, rfl, Nat.le_of_ble_eq_true rfl, hh, rfl, rfl, fun G hG => ?_⟩
        rw [show rdL n get = (List.range n).map (rdAt get) from rfl] at hok ⊢
        generalize rdAt get = rd at hok ⊢
        generalize rdAt get2 = rd2
        obtain ⟨hmk, hl, hc, hn, hr⟩ := blk_b hok
        simp only at hmk hl hc
        have hok' : blkOk ⟨mk, l1, l2, c1, c2, rdL n fun i => rdC (rd i)⟩ = true := hok
        have hG' : ∀ j, 13 ≤ j → G.ρ j = none := fun j hj => hG j (by omega)
        refine Chk.mk ⟨rds_rd _ _, hok'⟩ ?_
        obtain ⟨B, hB⟩ : ∃ B : Blk, B = ⟨mk, l1, l2, c1, c2, (List.range n).map rd⟩ := ⟨_, rfl⟩
        refine Br.mk (fun h => ?_) (fun h => ?_)
        · have h : (!decide ((0 : Int) < ((pairsV ⟨mk, l1, l2, c1, c2, (List.range n).map rd⟩).length : Int))) = true := h
          refine FinB.mk ⟨by rw [h], ?_⟩
          exact ⟨⟨rfl, ⟨rfl, rfl⟩, ⟨rfl, rfl⟩, ⟨rfl, rfl⟩, ⟨rfl, rfl⟩, ⟨rfl, rfl⟩, rfl, trivial⟩, trivial, ⟨rfl, ⟨rfl, rfl⟩, ⟨rfl, rfl⟩, ⟨rfl, rfl⟩, ⟨rfl, rfl⟩, ⟨rfl, rfl⟩, rfl, trivial⟩, trivial, ⟨rfl, ⟨rfl, rfl⟩, ⟨rfl, rfl⟩, trivial⟩, trivial⟩
        · have hne : (!decide ((0 : Int) < ((pairsV ⟨mk, l1, l2, c1, c2, (List.range n).map rd⟩).length : Int))) = false := h
          have hmem : ∀ p ∈ pairsV B, (-1000 ≤ p.1 ∧ p.1 ≤ 1000) ∧ (0 ≤ p.2 ∧ p.2 ≤ 20) := fun p hp => by
            have := (pairs_mem.1 hp).1
            subst hB
            simp only at this
            omega
          refine fb_range encP encB (tellM (pairsV B)) 8 (g.ok _ _ _) cont_std rfl rfl rfl rfl rfl rfl rfl encP_key encB_cl rfl (by rw [hB]; rfl) ?_
          intro hnd ts clock hts
          have hlen : ts.length ≤ 100 := by
            have h1 := hts.length_eq
            rw [List.length_map] at h1
            rw [h1, tellM_len]
            exact pairs_len (by rw [hB]; exact hok)
          obtain ⟨L, hL⟩ : ∃ L : Pr → List Int, showL m2 lo hi = L := ⟨_, rfl⟩
          refine loop_okM (g.ok _ _ _) 13 (fun x : {p : List ((Pr × Bool) × Nat) × List ((Pr × Bool) × Nat) // ts.Perm (p.1 ++ p.2)} => ⟨[(0, ⟨[], .sp 0 0⟩), (1, ⟨[], .fn (.func 80) [] [.sp 2 0, .sp 4 0]⟩), (4, ⟨[], .sp 5 0⟩), (5, ⟨[], .sp 6 0⟩), (6, ⟨[], .sp 7 0⟩), (12, ⟨[], .sp 12 0⟩)], [],
            [(12, .it 8 clock (x.1.1.map (·.2)) clock), (8, .map (encS encP encB ts) clock), (7, .cells 146 [.fn (.func 100) [] []]), (6, .cells 145 [.si .i64 (endsV (x.1.1.flatMap fun y => L y.1.1)).1, .si .i64 (endsV (x.1.1.flatMap fun y => L y.1.1)).2]), (5, .cells 24 [.si .i64 0, .si .i64 0])] ++ showH n n2 mk l1 l2 c1 c2 m2 k1 k2 d1 d2 lo hi rd rd2, 13, []⟩)
            (fun x => x.1.1.length) (fun x => x.1.2.length) hG' ⟨([], ts), by simp⟩ (fun j => j) ?_ rfl (show (13 : Nat) ≤ 1000 by decide) rfl ?_
          · refine ⟨?_, ?_, rfl, rfl, rfl, rfl, trivial⟩
            · repeat' (first | exact trivial | exact rfl | refine And.intro ?_ ?_)
            · repeat' (first | exact trivial | exact rfl | (intro i hi; exact ⟨rfl, rfl⟩) | refine allV_find ?_ | refine And.intro ?_ ?_)
          · rintro ⟨⟨vis, rest⟩, hp⟩
            have hvl : vis.length ≤ ts.length := by rw [hp.length_eq]; simp
            refine fb_next encP encB 8 12 clock ts vis rest (g.ok _ _ _) cont_std rfl rfl rfl rfl rfl encP_key encB_cl rfl rfl rfl hp ⟨fun hr => ?_, ?_⟩
            · replace hr : rest = [] := hr
              subst hr
              have hv : ts.Perm vis := by simpa using hp
              refine Br.mk (fun h => by cases h) (fun _ => ?_)
              have hend := hull_end (L := L) hts hv
              refine Chk.mk ⟨by decide, by decide⟩ (Chk.mk ⟨by decide, by decide⟩ ?_)
              refine FinB.mk (finM_ret vis.length rfl (by omega) (fun t t1 t2 => ?_) rfl (fun H' hH' => ?_))
              · repeat' (first | exact rfl | refine (findH_out rfl t1 t2).trans ?_)
              · subst hB
                refine ⟨.inr ⟨_, by rw [hne]⟩, end_noid ⟨⟨rfl, ?_⟩, ⟨rfl, ?_⟩, trivial⟩ rfl rfl (keepP_same hH' rfl ?_)⟩
                · show (endsV (vis.flatMap fun y => L y.1.1)).1 = _
                  rw [hend, hL]
                · show (endsV (vis.flatMap fun y => L y.1.1)).2 = _
                  rw [hend, hL]
                · exact ⟨⟨rfl, ⟨rfl, rfl⟩, ⟨rfl, rfl⟩, ⟨rfl, rfl⟩, ⟨rfl, rfl⟩, ⟨rfl, rfl⟩, rfl, trivial⟩, trivial, ⟨rfl, ⟨rfl, rfl⟩, ⟨rfl, rfl⟩, ⟨rfl, rfl⟩, ⟨rfl, rfl⟩, ⟨rfl, rfl⟩, rfl, trivial⟩, trivial, ⟨rfl, ⟨rfl, rfl⟩, ⟨rfl, rfl⟩, trivial⟩, trivial⟩
            · rintro ⟨⟨⟨x, y⟩, bb⟩, b⟩ rest' hrest
              refine Br.mk (fun _ => ?_) (fun h => by cases h)
              have hpts : (((x, y), bb), b) ∈ ts := hp.mem_iff.2 (List.mem_append_right _ (hrest.mem_iff.2 List.mem_cons_self))
              refine fb_entry encP encB 8 12 clock ts vis (((x, y), bb), b) (g.ok _ _ _) cont_std rfl rfl rfl rfl rfl encP_key encB_cl rfl rfl rfl hpts ?_
              refine Chk.mk (rds_rd _ _) ?_
              refine rangeFunc_ok (g.ok _ _ _) rfl rfl rfl b82 ?_
              intro fn
              refine callS_exec g.ok Try.func82 (c := code Try.f82) rfl (Nat.le_of_ble_eq_true rfl) fun G2 hG2 => ?_
              obtain ⟨S, hS⟩ : ∃ S : Int × Int, endsV (vis.flatMap fun y => L y.1.1) = S := ⟨_, rfl⟩
              have hx := hmem (x, y) (by
                have h1 := hts.mem_iff.1 (List.mem_map_of_mem (f := fun x => x.1) hpts)
                rw [tellM_eq (pairs_nodup B)] at h1
                obtain ⟨p, h2, h3⟩ := List.mem_map.1 h1
                cases h3
                exact h2)
              simp only at hx
              have hxs : smB 1000000 x ∧ smB 1000 y := by unfold smB; omega
              refine Chk.mk ⟨hxs.1, hm2, hxs.2, hlo⟩ ?_
              refine fb_yield 2006 g.ok (g.ok _ _ _) cont_std rfl rfl rfl rfl rfl rfl rfl rfl rfl (show ∀ p ∈ [20], p < Try.f58.ntmps by decide) ?_
              intro G4 r hG4
              refine Chk.mk (fun _ => ⟨hxs.1, hm2, hxs.2, hhi⟩) ?_
              refine fb_run rfl rfl ⟨trivial, rfl, rfl⟩ ?_
              refine fb_yield 2006 g.ok (g.ok _ _ _) cont_std rfl rfl rfl rfl rfl rfl rfl rfl rfl (show ∀ p ∈ [20], p < Try.f58.ntmps by decide) ?_
              intro G5 r5 hG5
              have hpm : ts.Perm ((vis ++ [(((x, y), bb), b)]) ++ rest') := by
                rw [List.append_assoc]
                exact hp.trans (List.Perm.append_left _ hrest)
              have hst := hull_step L vis (((x, y), bb), b)
              rw [hS] at hst
              have hlp : L (x, y) = [showV m2 (x, y) lo, showV m2 (x, y) hi] := by rw [← hL]; rfl
              have hst : endsV ((vis ++ [(((x, y), bb), b)]).flatMap fun y => L y.1.1) = endF (endF S (showV m2 (x, y) lo)) (showV m2 (x, y) hi) := by
                rw [hst]
                show (L (x, y)).foldl endF S = _
                rw [hlp]; rfl
              refine ⟨⟨(vis ++ [(((x, y), bb), b)], rest'), hpm⟩, (fun j => j), 2005, ?_, (show (13 : Nat) ≤ 1000 by decide), (by show (vis ++ [(((x, y), bb), b)]).length = vis.length + 1; simp), (by show vis.length < 900; omega), rfl, rfl, rfl, ?_, rfl, (by show rest'.length < rest.length; rw [hrest.length_eq]; simp)⟩
              · refine ⟨?_, ?_, rfl, rfl, rfl, rfl, trivial⟩
                · repeat' (first | exact trivial | exact rfl | refine And.intro ?_ ?_)
                · repeat' (first | exact trivial | exact rfl | (intro i hi; exact ⟨rfl, rfl⟩) | refine allV_find ?_ | refine And.intro ?_ ?_)
                  · show (endF (endF (endsV (vis.flatMap fun y => L y.1.1)) (showV m2 (x, y) lo)) (showV m2 (x, y) hi)).1 = (endsV ((vis ++ [(((x, y), bb), b)]).flatMap fun y => L y.1.1)).1
                    rw [hst, hS]
                  · show (endF (endF (endsV (vis.flatMap fun y => L y.1.1)) (showV m2 (x, y) lo)) (showV m2 (x, y) hi)).2 = (endsV ((vis ++ [(((x, y), bb), b)]).flatMap fun y => L y.1.1)).2
                    rw [hst, hS]
              · intro t t1 t2
                repeat' (first | exact rfl | refine (findH_out rfl t1 (by omega)).trans ?_)
      · cases h
    · cases h
  · cases h
end Go.X.W
end

section
set_option linter.unusedVariables false
set_option linter.unusedSimpArgs false
set_option linter.unusedSectionVars false
/- Warm: Length, Coeff. -/
set_option linter.unusedVariables false
set_option linter.unusedSimpArgs false
set_option maxRecDepth 10000
set_option maxHeartbeats 4000000
namespace Go.X.W
open Go Go.Proofs Go.X

/-- The error of what is told of all pairs; 0: none. -/
def tellE (B : Blk) (o : Int) (is : Bool) : Int := if errV B o is = 0 then (if (pairsV B).length = 0 then 10 else 0) else errV B o is
def hullE (B : Blk) (is : Bool) (L : Pr → List Int) : (Int × Int) × Int := if tellE B 0 is = 0 then (hullV B L, 0) else ((0, 0), tellE B 0 is)
theorem hullE_err {B : Blk} {is : Bool} {L : Pr → List Int} (h : ¬ errV B 0 is = 0) : hullE B is L = ((0, 0), errV B 0 is) := by
  have : tellE B 0 is = errV B 0 is := by rw [tellE, if_neg h]
  rw [hullE, this, if_neg h]
theorem hullE_clash {B : Blk} {is : Bool} {L : Pr → List Int} (h : errV B 0 is = 0) (h2 : (pairsV B).length = 0) : hullE B is L = ((0, 0), 10) := by
  have : tellE B 0 is = 10 := by rw [tellE, if_pos h, if_pos h2]
  rw [hullE, this, if_neg (by decide)]
theorem hullE_ok {B : Blk} {is : Bool} {L : Pr → List Int} (h : errV B 0 is = 0) (h2 : ¬ (pairsV B).length = 0) : hullE B is L = (hullV B L, 0) := by
  have : tellE B 0 is = 0 := by rw [tellE, if_pos h, if_neg h2]
  rw [hullE, this, if_pos rfl]
def hullS (x : (Int × Int) × Int) : SV := .tup [.agg [.si .i64 x.1.1, .si .i64 x.1.2], .si .i64 x.2]
theorem g58a {l : List (Nat × Ct)} (g : Good P T l) : Good P T ((58, spanCt 59 fun _ p => [p.1]) :: l) := g.add k58a (spanCt_mono _ _) (body_of Try.func58 (c := code Try.f58) rfl (by decide))
theorem g58b {l : List (Nat × Ct)} (g : Good P T l) : Good P T ((58, spanCt 73 fun _ p => [p.2]) :: l) := g.add k58b (spanCt_mono _ _) (body_of Try.func58 (c := code Try.f58) rfl (by decide))
theorem g58c {l : List (Nat × Ct)} (g : Good P T l) : Good P T ((58, heldCt) :: l) := g.add k58c heldCt_mono (body_of Try.func58 (c := code Try.f58) rfl (by decide))
theorem g58d {l : List (Nat × Ct)} (g : Good P T l) : Good P T ((58, showCt) :: l) := g.add k58d showCt_mono (body_of Try.func58 (c := code Try.f58) rfl (by decide))

def c19 : Ct := wmCt fun B r => match r with
  | [] => some (none, hullS (hullE B true fun p => [p.1]))
  | _ => none
theorem k19 {l : List (Nat × Ct)} (g0 : Good P T l) : COk P 19 c19 := by
  have g := g58a (g57 g0)
  refine cokDM (C := tabC _) g.ok answer_ok Try.func19 (c := code Try.f19) rfl fun fr args H out h hp => wmWalkD h hp fun mk l1 l2 c1 c2 n rd r p v Rv hk hp hR => ?_
  split at hk
  · cases hk
    refine ⟨Nat.le_of_ble_eq_true rfl, fun G hG => ?_⟩
    refine fb_defer (g.ok _ _ _) rfl cont_std rfl rfl rfl rfl ?_
    refine Chk.mk (rds_rd _ _) ?_
    obtain ⟨B, hB⟩ : ∃ B : Blk, (⟨mk, l1, l2, c1, c2, (List.range n).map rd⟩ : Blk) = B := ⟨_, rfl⟩
    rw [hB] at hR
    have hB' : (⟨mk, l1, l2, c1, c2, rdL n fun i => rdC (rd i)⟩ : Blk) = B := hB
    refine Br.mk (fun h => ?_) (fun h => ?_)
    · have h : (!decide (errV ⟨mk, l1, l2, c1, c2, rdL n fun i => rdC (rd i)⟩ 0 true = 0)) = true := h
      rw [hB'] at h
      have h : ¬ errV B 0 true = 0 := by simpa using h
      have hw := hullE_err (L := fun p => [p.1]) h
      rw [hw] at hR
      exact hR _ _ ⟨⟨⟨rfl, rfl⟩, ⟨rfl, rfl⟩, trivial⟩, ⟨rfl, (by show errV ⟨mk, l1, l2, c1, c2, rdL n fun i => rdC (rd i)⟩ 0 true = errV B 0 true; rw [hB'])⟩, trivial⟩ rfl
    · have h : (!decide (errV ⟨mk, l1, l2, c1, c2, rdL n fun i => rdC (rd i)⟩ 0 true = 0)) = false := h
      rw [hB'] at h
      have h : errV B 0 true = 0 := by simpa using h
      obtain ⟨q1, q2, q3⟩ := errV_zero h
      refine Chk.mk ⟨rds_rd _ _, by rw [hB']; exact q1⟩ ?_
      refine Br.mk (fun h2 => ?_) (fun h2 => ?_)
      · have h2 : (!decide ((0 : Int) < ((pairsV ⟨mk, l1, l2, c1, c2, rdL n fun i => rdC (rd i)⟩).length : Int))) = true := h2
        rw [hB'] at h2
        have h2 : (pairsV B).length = 0 := by
          have : ¬ (0 : Int) < ((pairsV B).length : Int) := by simpa using h2
          omega
        rw [hullE_clash h h2] at hR
        exact hR _ _ ⟨⟨⟨rfl, rfl⟩, ⟨rfl, rfl⟩, trivial⟩, ⟨rfl, rfl⟩, trivial⟩ rfl
      · have h2 : (!decide ((0 : Int) < ((pairsV ⟨mk, l1, l2, c1, c2, rdL n fun i => rdC (rd i)⟩).length : Int))) = false := h2
        rw [hB'] at h2
        have h2 : ¬ (pairsV B).length = 0 := by
          have : (0 : Int) < ((pairsV B).length : Int) := by simpa using h2
          omega
        rw [hullE_ok h h2] at hR
        refine hR _ _ ⟨⟨⟨rfl, ?_⟩, ⟨rfl, ?_⟩, trivial⟩, ⟨rfl, rfl⟩, trivial⟩ rfl
        · show (hullV ⟨mk, l1, l2, c1, c2, rdL n fun i => rdC (rd i)⟩ fun p => [p.1]).1 = _
          rw [hB']
        · show (hullV ⟨mk, l1, l2, c1, c2, rdL n fun i => rdC (rd i)⟩ fun p => [p.1]).2 = _
          rw [hB']
  · cases hk
theorem g19 {l : List (Nat × Ct)} (g : Good P T l) : Good P T ((19, c19) :: l) := g.add (k19 g) (wmCt_mono _) (body_of Try.func19 (c := code Try.f19) rfl (by decide))
def c26 : Ct := wmCt fun B r => match r with
  | [] => some (none, hullS (hullE B true fun p => [p.2]))
  | _ => none
theorem k26 {l : List (Nat × Ct)} (g0 : Good P T l) : COk P 26 c26 := by
  have g := g58b (g57 g0)
  refine cokDM (C := tabC _) g.ok answer_ok Try.func26 (c := code Try.f26) rfl fun fr args H out h hp => wmWalkD h hp fun mk l1 l2 c1 c2 n rd r p v Rv hk hp hR => ?_
  split at hk
  · cases hk
    refine ⟨Nat.le_of_ble_eq_true rfl, fun G hG => ?_⟩
    refine fb_defer (g.ok _ _ _) rfl cont_std rfl rfl rfl rfl ?_
    refine Chk.mk (rds_rd _ _) ?_
    obtain ⟨B, hB⟩ : ∃ B : Blk, (⟨mk, l1, l2, c1, c2, (List.range n).map rd⟩ : Blk) = B := ⟨_, rfl⟩
    rw [hB] at hR
    have hB' : (⟨mk, l1, l2, c1, c2, rdL n fun i => rdC (rd i)⟩ : Blk) = B := hB
    refine Br.mk (fun h => ?_) (fun h => ?_)
    · have h : (!decide (errV ⟨mk, l1, l2, c1, c2, rdL n fun i => rdC (rd i)⟩ 0 true = 0)) = true := h
      rw [hB'] at h
      have h : ¬ errV B 0 true = 0 := by simpa using h
      have hw := hullE_err (L := fun p => [p.2]) h
      rw [hw] at hR
      exact hR _ _ ⟨⟨⟨rfl, rfl⟩, ⟨rfl, rfl⟩, trivial⟩, ⟨rfl, (by show errV ⟨mk, l1, l2, c1, c2, rdL n fun i => rdC (rd i)⟩ 0 true = errV B 0 true; rw [hB'])⟩, trivial⟩ rfl
    · have h : (!decide (errV ⟨mk, l1, l2, c1, c2, rdL n fun i => rdC (rd i)⟩ 0 true = 0)) = false := h
      rw [hB'] at h
      have h : errV B 0 true = 0 := by simpa using h
      obtain ⟨q1, q2, q3⟩ := errV_zero h
      refine Chk.mk ⟨rds_rd _ _, by rw [hB']; exact q1⟩ ?_
      refine Br.mk (fun h2 => ?_) (fun h2 => ?_)
      · have h2 : (!decide ((0 : Int) < ((pairsV ⟨mk, l1, l2, c1, c2, rdL n fun i => rdC (rd i)⟩).length : Int))) = true := h2
        rw [hB'] at h2
        have h2 : (pairsV B).length = 0 := by
          have : ¬ (0 : Int) < ((pairsV B).length : Int) := by simpa using h2
          omega
        rw [hullE_clash h h2] at hR
        exact hR _ _ ⟨⟨⟨rfl, rfl⟩, ⟨rfl, rfl⟩, trivial⟩, ⟨rfl, rfl⟩, trivial⟩ rfl
      · have h2 : (!decide ((0 : Int) < ((pairsV ⟨mk, l1, l2, c1, c2, rdL n fun i => rdC (rd i)⟩).length : Int))) = false := h2
        rw [hB'] at h2
        have h2 : ¬ (pairsV B).length = 0 := by
          have : (0 : Int) < ((pairsV B).length : Int) := by simpa using h2
          omega
        rw [hullE_ok h h2] at hR
        refine hR _ _ ⟨⟨⟨rfl, ?_⟩, ⟨rfl, ?_⟩, trivial⟩, ⟨rfl, rfl⟩, trivial⟩ rfl
        · show (hullV ⟨mk, l1, l2, c1, c2, rdL n fun i => rdC (rd i)⟩ fun p => [p.2]).1 = _
          rw [hB']
        · show (hullV ⟨mk, l1, l2, c1, c2, rdL n fun i => rdC (rd i)⟩ fun p => [p.2]).2 = _
          rw [hB']
  · cases hk
theorem g26 {l : List (Nat × Ct)} (g : Good P T l) : Good P T ((26, c26) :: l) := g.add (k26 g) (wmCt_mono _) (body_of Try.func26 (c := code Try.f26) rfl (by decide))
def rdGet (rs : List Rd) (i : Int) : Rd := rs.getD i.toNat (0, 0, 0, 0)
theorem rdGet_map {n : Nat} {rd : Nat → Rd} {i : Int} (h0 : 0 ≤ i) (h : i < (n : Int)) : rdGet ((List.range n).map rd) i = rd i.toNat := by
  unfold rdGet
  rw [List.getD_eq_getElem?_getD, List.getElem?_map, List.getElem?_range (by omega)]
  rfl
def c28 : Ct := wmCt fun B r => match r with
  | [.si .i64 i] => some (some (B.rs.length ≤ 40), hullS (hullE B (inB i 0 ((B.rs.length : Int) - 1)) fun p => warmV B.mark p (rdGet B.rs i)))
  | _ => none
theorem k28 {l : List (Nat × Ct)} (g0 : Good P T l) : COk P 28 c28 := by
  have g := g58c (g74 (g66 (g57 g0)))
  refine cokDM (C := tabC _) g.ok answer_ok Try.func28 (c := code Try.f28) rfl fun fr args H out h hp => wmWalkD h hp fun mk l1 l2 c1 c2 n rd r p v Rv hk hp hR => ?_
  split at hk
  · rename_i i
    cases hk
    have hp : ((List.range n).map rd).length ≤ 40 := hp
    have hl : ((List.range n).map rd).length = n := by simp
    rw [hl] at hp
    simp only [hl] at hR
    refine ⟨Nat.le_of_ble_eq_true rfl, fun G hG => ?_⟩
    refine fb_defer (g.ok _ _ _) rfl cont_std rfl rfl rfl rfl ?_
    refine drawn_ok (g.ok _ _ _) fol [0,0,0,4,12,28,62,127,255] [] 9 (by kernel_rfl) ?_
    refine Chk.mk (show InK .i64 ((n : Int) - 1) from ⟨by omega, by omega⟩) ?_
    refine Chk.mk (rds_rd _ _) ?_
    obtain ⟨is, his⟩ : ∃ is : Bool, inB i 0 ((n : Int) - 1) = is := ⟨_, rfl⟩
    obtain ⟨B, hB⟩ : ∃ B : Blk, (⟨mk, l1, l2, c1, c2, (List.range n).map rd⟩ : Blk) = B := ⟨_, rfl⟩
    rw [his] at hR
    have hmk : B.mark = mk := by rw [← hB]
    have hrs : B.rs = (List.range n).map rd := by rw [← hB]
    have hB' : (⟨mk, l1, l2, c1, c2, rdL n fun i => rdC (rd i)⟩ : Blk) = B := hB
    rw [hB] at hR
    refine Br.mk (fun h => ?_) (fun h => ?_)
    · have h : (!decide (errV ⟨mk, l1, l2, c1, c2, rdL n fun i => rdC (rd i)⟩ 0 (inB i 0 ((n : Int) - 1)) = 0)) = true := h
      rw [hB', his] at h
      have h : ¬ errV B 0 is = 0 := by simpa using h
      rw [hullE_err h] at hR
      exact hR _ _ ⟨⟨⟨rfl, rfl⟩, ⟨rfl, rfl⟩, trivial⟩, ⟨rfl, (by show errV ⟨mk, l1, l2, c1, c2, rdL n fun i => rdC (rd i)⟩ 0 (inB i 0 ((n : Int) - 1)) = errV B 0 is; rw [hB', his])⟩, trivial⟩ rfl
    · have h : (!decide (errV ⟨mk, l1, l2, c1, c2, rdL n fun i => rdC (rd i)⟩ 0 (inB i 0 ((n : Int) - 1)) = 0)) = false := h
      rw [hB', his] at h
      have h : errV B 0 is = 0 := by simpa using h
      obtain ⟨q1, q2, q3⟩ := errV_zero h
      rw [q3] at his
      have hin : 0 ≤ i ∧ i < (n : Int) := by
        simp only [inB, Bool.and_eq_true, decide_eq_true_eq] at his
        omega
      have hbb := blk_b q1
      have hrd : rdOk (rd i.toNat) = true := hbb.2.2.2.2 _ (by rw [hrs]; exact List.mem_map.2 ⟨_, List.mem_range.2 (by omega), rfl⟩)
      simp only [rdGet_map hin.1 hin.2] at hR
      refine Chk.mk ⟨rds_rd _ _, hp⟩ ?_
      refine Chk.mk hin ?_
      refine Chk.mk ⟨rds_rd _ _, rds_rd _ _, (by rw [hB']; exact q1), (by rw [← hmk]; unfold smB; omega), hrd⟩ ?_
      refine Br.mk (fun h2 => ?_) (fun h2 => ?_)
      · have h2 : (!decide ((0 : Int) < ((pairsV ⟨mk, l1, l2, c1, c2, rdL n fun i => rdC (rd i)⟩).length : Int))) = true := h2
        rw [hB'] at h2
        have h2 : (pairsV B).length = 0 := by
          have : ¬ (0 : Int) < ((pairsV B).length : Int) := by simpa using h2
          omega
        rw [hullE_clash h h2] at hR
        exact hR _ _ ⟨⟨⟨rfl, rfl⟩, ⟨rfl, rfl⟩, trivial⟩, ⟨rfl, rfl⟩, trivial⟩ rfl
      · have h2 : (!decide ((0 : Int) < ((pairsV ⟨mk, l1, l2, c1, c2, rdL n fun i => rdC (rd i)⟩).length : Int))) = false := h2
        rw [hB'] at h2
        have h2 : ¬ (pairsV B).length = 0 := by
          have : (0 : Int) < ((pairsV B).length : Int) := by simpa using h2
          omega
        rw [hullE_ok h h2] at hR
        refine hR _ _ ⟨⟨⟨rfl, ?_⟩, ⟨rfl, ?_⟩, trivial⟩, ⟨rfl, rfl⟩, trivial⟩ rfl
        · show (hullV ⟨mk, l1, l2, c1, c2, rdL n fun i => rdC (rd i)⟩ fun p => warmV mk p (rd i.toNat)).1 = _
          rw [hB']
        · show (hullV ⟨mk, l1, l2, c1, c2, rdL n fun i => rdC (rd i)⟩ fun p => warmV mk p (rd i.toNat)).2 = _
          rw [hB']
  · cases hk
theorem g28 {l : List (Nat × Ct)} (g : Good P T l) : Good P T ((28, c28) :: l) := g.add (k28 g) (wmCt_mono _) (body_of Try.func28 (c := code Try.f28) rfl (by decide))

def c30 : Ct := wmCt fun B r => match r with
  | [.agg [.si .i64 lo, .si .i64 hi]] => some (none, hullS (hullE B (spanB lo hi (-100) 100 200) (showL B.mark lo hi)))
  | _ => none
theorem k30 {l : List (Nat × Ct)} (g0 : Good P T l) : COk P 30 c30 := by
  have g := g58d (g79 (g57 g0))
  refine cokDM (C := tabC _) g.ok answer_ok Try.func30 (c := code Try.f30) rfl fun fr args H out h hp => wmWalkD h hp fun mk l1 l2 c1 c2 n rd r p v Rv hk hp hR => ?_
  split at hk
  · rename_i lo hi
    cases hk
    refine ⟨Nat.le_of_ble_eq_true rfl, fun G hG => ?_⟩
    refine fb_defer (g.ok _ _ _) rfl cont_std rfl rfl rfl rfl ?_
    refine drawn_ok (g.ok _ _ _) fol [0,0,2,7,15] [] 5 (by kernel_rfl) ?_
    refine Chk.mk (rds_rd _ _) ?_
    obtain ⟨is, his⟩ : ∃ is : Bool, spanB lo hi (-100) 100 200 = is := ⟨_, rfl⟩
    obtain ⟨B, hB⟩ : ∃ B : Blk, (⟨mk, l1, l2, c1, c2, (List.range n).map rd⟩ : Blk) = B := ⟨_, rfl⟩
    rw [his] at hR
    have hmk : B.mark = mk := by rw [← hB]
    have hB' : (⟨mk, l1, l2, c1, c2, rdL n fun i => rdC (rd i)⟩ : Blk) = B := hB
    rw [hB] at hR
    refine Br.mk (fun h => ?_) (fun h => ?_)
    · have h : (!decide (errV ⟨mk, l1, l2, c1, c2, rdL n fun i => rdC (rd i)⟩ 0 (spanB lo hi (-100) 100 200) = 0)) = true := h
      rw [hB', his] at h
      have h : ¬ errV B 0 is = 0 := by simpa using h
      rw [hullE_err h] at hR
      exact hR _ _ ⟨⟨⟨rfl, rfl⟩, ⟨rfl, rfl⟩, trivial⟩, ⟨rfl, (by show errV ⟨mk, l1, l2, c1, c2, rdL n fun i => rdC (rd i)⟩ 0 (spanB lo hi (-100) 100 200) = errV B 0 is; rw [hB', his])⟩, trivial⟩ rfl
    · have h : (!decide (errV ⟨mk, l1, l2, c1, c2, rdL n fun i => rdC (rd i)⟩ 0 (spanB lo hi (-100) 100 200) = 0)) = false := h
      rw [hB', his] at h
      have h : errV B 0 is = 0 := by simpa using h
      obtain ⟨q1, q2, q3⟩ := errV_zero h
      rw [q3] at his
      have hlh : smB 1000 lo ∧ smB 1000 hi := by
        simp only [spanB, Bool.and_eq_true, decide_eq_true_eq] at his
        unfold smB; omega
      have hbb := blk_b q1
      refine Chk.mk ⟨rds_rd _ _, rds_rd _ _, (by rw [hB']; exact q1), (by rw [← hmk]; unfold smB; omega), hlh.1, hlh.2⟩ ?_
      refine Br.mk (fun h2 => ?_) (fun h2 => ?_)
      · have h2 : (!decide ((0 : Int) < ((pairsV ⟨mk, l1, l2, c1, c2, rdL n fun i => rdC (rd i)⟩).length : Int))) = true := h2
        rw [hB'] at h2
        have h2 : (pairsV B).length = 0 := by
          have : ¬ (0 : Int) < ((pairsV B).length : Int) := by simpa using h2
          omega
        rw [hullE_clash h h2] at hR
        exact hR _ _ ⟨⟨⟨rfl, rfl⟩, ⟨rfl, rfl⟩, trivial⟩, ⟨rfl, rfl⟩, trivial⟩ rfl
      · have h2 : (!decide ((0 : Int) < ((pairsV ⟨mk, l1, l2, c1, c2, rdL n fun i => rdC (rd i)⟩).length : Int))) = false := h2
        rw [hB'] at h2
        have h2 : ¬ (pairsV B).length = 0 := by
          have : (0 : Int) < ((pairsV B).length : Int) := by simpa using h2
          omega
        rw [hullE_ok h h2] at hR
        refine hR _ _ ⟨⟨⟨rfl, ?_⟩, ⟨rfl, ?_⟩, trivial⟩, ⟨rfl, rfl⟩, trivial⟩ rfl
        · show (hullV ⟨mk, l1, l2, c1, c2, rdL n fun i => rdC (rd i)⟩ (showL mk lo hi)).1 = _
          rw [hB', hmk]
        · show (hullV ⟨mk, l1, l2, c1, c2, rdL n fun i => rdC (rd i)⟩ (showL mk lo hi)).2 = _
          rw [hB', hmk]
  · cases hk
theorem g30 {l : List (Nat × Ct)} (g : Good P T l) : Good P T ((30, c30) :: l) := g.add (k30 g) (wmCt_mono _) (body_of Try.func30 (c := code Try.f30) rfl (by decide))
end Go.X.W
end

section
set_option linter.unusedVariables false
set_option linter.unusedSimpArgs false
set_option linter.unusedSectionVars false
/- Warm: Count. -/
set_option linter.unusedVariables false
set_option linter.unusedSimpArgs false
set_option maxRecDepth 10000
set_option maxHeartbeats 4000000
namespace Go.X.W
open Go Go.Proofs Go.X

def cntV (B : Blk) : Int × Int := if errV B 0 true = 0 then (((pairsV B).length : Int), 0) else (0, errV B 0 true)
def c33 : Ct := wmCt fun B r => match r with
  | [] => some (none, .tup [.si .i64 (cntV B).1, .si .i64 (cntV B).2])
  | _ => none
theorem k33 : COk P 33 c33 := by
  have g := g57 (g85 (g74 (g107 good0)))
  refine cokDM (C := tabC _) g.ok answer_ok Try.func33 (c := code Try.f33) rfl fun fr args H out h hp => wmWalkD h hp fun mk l1 l2 c1 c2 n rd r p v Rv hk hp hR => ?_
  split at hk
  · cases hk
    refine ⟨Nat.le_of_ble_eq_true rfl, fun G hG => ?_⟩
    refine fb_defer (g.ok _ _ _) rfl cont_std rfl rfl rfl rfl ?_
    refine Chk.mk (rds_rd _ _) ?_
    obtain ⟨B, hB⟩ : ∃ B : Blk, (⟨mk, l1, l2, c1, c2, (List.range n).map rd⟩ : Blk) = B := ⟨_, rfl⟩
    rw [hB] at hR
    have hB' : (⟨mk, l1, l2, c1, c2, rdL n fun i => rdC (rd i)⟩ : Blk) = B := hB
    refine Br.mk (fun h => ?_) (fun h => ?_)
    · have h : (!decide (errV ⟨mk, l1, l2, c1, c2, rdL n fun i => rdC (rd i)⟩ 0 true = 0)) = true := h
      rw [hB'] at h
      have h : ¬ errV B 0 true = 0 := by simpa using h
      have hw : cntV B = (0, errV B 0 true) := by rw [cntV, if_neg h]
      rw [hw] at hR
      exact hR _ _ ⟨⟨rfl, rfl⟩, ⟨rfl, (by show errV ⟨mk, l1, l2, c1, c2, rdL n fun i => rdC (rd i)⟩ 0 true = errV B 0 true; rw [hB'])⟩, trivial⟩ rfl
    · have h : (!decide (errV ⟨mk, l1, l2, c1, c2, rdL n fun i => rdC (rd i)⟩ 0 true = 0)) = false := h
      rw [hB'] at h
      have h : errV B 0 true = 0 := by simpa using h
      have hw : cntV B = (((pairsV B).length : Int), 0) := by rw [cntV, if_pos h]
      rw [hw] at hR
      obtain ⟨hok, q2, q3⟩ := errV_zero h
      rw [← hB] at hok
      have hpvB : pairsV B = rows (okP mk ((List.range n).map rd)) l1 c1 c2 (l2 + 1) := by rw [← hB]; rfl
      obtain ⟨hmk, hl, hc, hn, hr⟩ := blk_b hok
      simp only at hmk hl hc
      have hn : n ≤ 5 := by simpa using hn
      have hr : ∀ i, i < n → rdOk (rd i) = true := fun i hi => hr _ (List.mem_map.2 ⟨i, List.mem_range.2 hi, rfl⟩)
      have hr' : ∀ i, i < n → smB 1000 (rd i).1 ∧ smB 1000 (rd i).2.1 := fun i hi => by have := rdOk_b (hr i hi); unfold smB; omega
      refine Chk.mk (rds_rd _ _) ?_
      refine rangeFunc_ok (g.ok _ _ _) rfl rfl rfl b106 ?_
      intro fn
      refine callS_exec g.ok Try.func106 (c := code Try.f106) rfl (Nat.le_of_ble_eq_true rfl) fun G2 hG2 => ?_
      refine Chk.mk ⟨rds_rd _ _, by omega⟩ ?_
      obtain ⟨q, hq⟩ : ∃ q : Pr → Bool, okP mk ((List.range n).map rd) = q := ⟨_, rfl⟩
      refine loop_okR (g.ok _ _ _) 14 (fun z : {t : Int // l1 ≤ t ∧ t ≤ l2 + 1} => ⟨[(0, ⟨[], .fy 13⟩), (1, ⟨[], .sp 8 0⟩), (3, ⟨[], .sl 14⟩), (4, ⟨[], .si .i64 z.1⟩)], [],
        [(13, .loop [(4, .sp 3 0)] Try.f33.ntmps fn [8] (rfA (code Try.f33)) (rfB (code Try.f33)) 12 .ready none), (12, .dfr), (14, .ro 4 n fun i => rdC (rd i)), (8, .cells 86 [.sp 4 0]), (4, .cells 138 (bC mk l1 l2 c1 c2 0)), (3, .cells 3 [.si .i64 ((rows q l1 c1 c2 z.1).length : Int)]), (2, .cells 44 [.si .i64 0]), (1, .cells 36 (bC mk l1 l2 c1 c2 0)), (0, .ro 4 n fun i => rdC (rd i))], 18, []⟩)
        (fun z => (l2 + 1 - z.1).toNat) hG2 ⟨l1, by omega, by omega⟩ (fun j => j) ?_ ?_
      · refine ⟨?_, ?_, rfl, rfl, rfl, rfl, trivial⟩
        · repeat' (first | exact trivial | exact rfl | refine And.intro ?_ ?_)
        · repeat' (first | exact trivial | exact rfl | (intro i hi; exact ⟨rfl, rfl⟩) | refine allV_find ?_ | refine And.intro ?_ ?_)
          · show (0 : Int) = ((rows q l1 c1 c2 l1).length : Int)
            rw [rows_first]
            rfl
      · rintro ⟨t, ht1, ht2⟩
        refine Br.mk (fun h => ?_) (fun h => ?_)
        · replace h : t ≤ l2 := of_decide_eq_true h
          refine loop_okR (g.ok _ _ _) 14 (fun z : {a : Int // c1 ≤ a ∧ a ≤ c2 + 1} => ⟨[(0, ⟨[], .fy 13⟩), (1, ⟨[], .sp 8 0⟩), (3, ⟨[], .sl 14⟩), (4, ⟨[], .si .i64 t⟩), (5, ⟨[], .si .i64 z.1⟩)], [],
            [(13, .loop [(4, .sp 3 0)] Try.f33.ntmps fn [8] (rfA (code Try.f33)) (rfB (code Try.f33)) 12 .ready none), (12, .dfr), (14, .ro 4 n fun i => rdC (rd i)), (8, .cells 86 [.sp 4 0]), (4, .cells 138 (bC mk l1 l2 c1 c2 0)), (3, .cells 3 [.si .i64 ((rows q l1 c1 c2 t ++ row q t c1 z.1).length : Int)]), (2, .cells 44 [.si .i64 0]), (1, .cells 36 (bC mk l1 l2 c1 c2 0)), (0, .ro 4 n fun i => rdC (rd i))], 18, []⟩)
            (fun z => (c2 + 1 - z.1).toNat) hG2 ⟨c1, by omega, by omega⟩ (fun j => j) ?_ ?_
          · refine ⟨?_, ?_, rfl, rfl, rfl, rfl, trivial⟩
            · repeat' (first | exact trivial | exact rfl | refine And.intro ?_ ?_)
            · repeat' (first | exact trivial | exact rfl | (intro i hi; exact ⟨rfl, rfl⟩) | refine allV_find ?_ | refine And.intro ?_ ?_)
              · show ((rows q l1 c1 c2 t).length : Int) = ((rows q l1 c1 c2 t ++ row q t c1 c1).length : Int)
                rw [row_first, List.append_nil]
          · rintro ⟨a, ha1, ha2⟩
            refine Br.mk (fun h2 => ?_) (fun h2 => ?_)
            · replace h2 : a ≤ c2 := of_decide_eq_true h2
              refine Chk.mk ⟨rds_rd _ _, rds_rd _ _, ⟨by omega, by omega⟩, ⟨(show -1000000 ≤ t by omega), (show t ≤ 1000000 by omega)⟩, ⟨(show -1000 ≤ a by omega), (show a ≤ 1000 by omega)⟩, by omega, hr'⟩ ?_
              have hany := okP_any (n := n) (mk := mk) (x := t) (y := a) (rd := rd)
              rw [hq] at hany
              have hrn := row_next (q := q) (n := t) (c1 := c1) (a := a) ha1
              cases hqa : q (t, a) with
              | false =>
                rw [hqa] at hany hrn
                refine fb_skip 48 true (g.ok _ _ _) cont_std rfl rfl rfl rfl rfl rfl rfl trivial (by show (!(List.range n).any (fun i => !canV mk (t, a) (rd i))) = !true; rw [hany]; rfl) ?_
                refine Br.mk (fun h3 => ?_) (fun _ => ?_)
                · exfalso
                  have h3 : ((!(List.range n).any (fun i => !canV mk (t, a) (rd i))) && _) = true := h3
                  rw [hany] at h3
                  simp at h3
                refine Chk.mk (show InK .i64 (a + 1) from ⟨by omega, by omega⟩) ⟨⟨a + 1, by omega, by omega⟩, (fun j => j), ?_, (by show (c2 + 1 - (a + 1)).toNat < (c2 + 1 - a).toNat; omega)⟩
                refine ⟨?_, ?_, rfl, rfl, rfl, rfl, trivial⟩
                · repeat' (first | exact trivial | exact rfl | refine And.intro ?_ ?_)
                · repeat' (first | exact trivial | exact rfl | (intro i hi; exact ⟨rfl, rfl⟩) | refine allV_find ?_ | refine And.intro ?_ ?_)
                  · show ((rows q l1 c1 c2 t ++ row q t c1 a).length : Int) = ((rows q l1 c1 c2 t ++ row q t c1 (a + 1)).length : Int)
                    rw [hrn]
                    simp
              | true =>
                rw [hqa] at hany hrn
                refine fb_run rfl rfl ⟨trivial, rfl, (by show (!(List.range n).any (fun i => !canV mk (t, a) (rd i))) = true; rw [hany]; rfl)⟩ ?_
                refine fb_yield 13 g.ok (g.ok _ _ _) cont_std rfl rfl rfl rfl rfl rfl rfl rfl rfl (by decide) ?_
                intro G4 r hG4
                have hcl : (rows q l1 c1 c2 t ++ row q t c1 a).length ≤ 200 := by
                  rw [List.length_append]
                  have h1 := rows_len q l1 c1 c2 (by omega) (t - l1).toNat
                  rw [show l1 + ((t - l1).toNat : Int) = t by omega] at h1
                  have h2 := row_len q t c1 a
                  omega
                refine Chk.mk (show InK .i64 (((rows q l1 c1 c2 t ++ row q t c1 a).length : Int) + 1) from ⟨by omega, by omega⟩) ?_
                refine Br.mk (fun h3 => ?_) (fun _ => ?_)
                · exfalso
                  have h3 : ((!(List.range n).any (fun i => !canV mk (t, a) (rd i))) && false) = true := h3
                  simp at h3
                refine Chk.mk (show InK .i64 (a + 1) from ⟨by omega, by omega⟩) ⟨⟨a + 1, by omega, by omega⟩, (fun j => j), ?_, (by show (c2 + 1 - (a + 1)).toNat < (c2 + 1 - a).toNat; omega)⟩
                refine ⟨?_, ?_, rfl, rfl, rfl, rfl, trivial⟩
                · repeat' (first | exact trivial | exact rfl | refine And.intro ?_ ?_)
                · repeat' (first | exact trivial | exact rfl | (intro i hi; exact ⟨rfl, rfl⟩) | refine allV_find ?_ | refine And.intro ?_ ?_)
                  · show ((rows q l1 c1 c2 t ++ row q t c1 a).length : Int) + 1 = ((rows q l1 c1 c2 t ++ row q t c1 (a + 1)).length : Int)
                    rw [hrn, if_pos rfl, ← List.append_assoc, List.length_append (bs := [(t, a)])]
                    rfl
            · replace h2 : ¬ a ≤ c2 := of_decide_eq_false h2
              obtain rfl : a = c2 + 1 := by omega
              refine Chk.mk (show InK .i64 (t + 1) from ⟨by omega, by omega⟩) ⟨⟨t + 1, by omega, by omega⟩, (fun j => j), ?_, (by show (l2 + 1 - (t + 1)).toNat < (l2 + 1 - t).toNat; omega)⟩
              refine ⟨?_, ?_, rfl, rfl, rfl, rfl, trivial⟩
              · repeat' (first | exact trivial | exact rfl | refine And.intro ?_ ?_)
              · repeat' (first | exact trivial | exact rfl | (intro i hi; exact ⟨rfl, rfl⟩) | refine allV_find ?_ | refine And.intro ?_ ?_)
                · show ((rows q l1 c1 c2 t ++ row q t c1 (c2 + 1)).length : Int) = ((rows q l1 c1 c2 (t + 1)).length : Int)
                  rw [rows_next ht1]
        · replace h : ¬ t ≤ l2 := of_decide_eq_false h
          obtain rfl : t = l2 + 1 := by omega
          rw [hpvB, hq] at hR
          exact hR _ _ ⟨⟨rfl, rfl⟩, ⟨rfl, rfl⟩, trivial⟩ rfl
  · cases hk
theorem g33 {l : List (Nat × Ct)} (g : Good P T l) : Good P T ((33, c33) :: l) := g.add k33 (wmCt_mono _) (body_of Try.func33 (c := code Try.f33) rfl (by decide))
end Go.X.W
end

section
set_option linter.unusedVariables false
set_option linter.unusedSimpArgs false
set_option linter.unusedSectionVars false
/- Warm: Room. -/
set_option linter.unusedVariables false
set_option linter.unusedSimpArgs false
set_option maxRecDepth 10000
set_option maxHeartbeats 4000000
namespace Go.X.W
open Go Go.Proofs Go.X

/-- Colder by so much no pair is shorter by more than is allowed. -/
def coldB (mk off : Int) (l : List Pr) (m : Nat) : Bool := l.all fun p => decide (-off ≤ growV mk p.2 (-(m : Int)))
def downTo (q : Nat → Bool) : Nat → Nat
  | 0 => 0
  | n + 1 => if q (n + 1) = true then n + 1 else downTo q n
theorem downTo_eq {q : Nat → Bool} {m : Nat} : ∀ {n : Nat}, m ≤ n → (m = 0 ∨ q m = true) → (∀ k, m < k → k ≤ n → q k = false) → downTo q n = m
  | 0, h, _, _ => by simp only [downTo]; omega
  | n + 1, h, h1, h2 => by
    simp only [downTo]
    by_cases e : m = n + 1
    · subst e
      rcases h1 with h1 | h1
      · omega
      · rw [if_pos h1]
    · rw [h2 (n + 1) (by omega) (Nat.le_refl _), if_neg Bool.false_ne_true]
      exact downTo_eq (by omega) h1 fun k k1 k2 => h2 k k1 (by omega)
def roomV (B : Blk) (off : Int) : Int := (downTo (coldB B.mark off (pairsV B)) 100 : Nat)
theorem growV_anti {mk a : Int} (h1 : 0 ≤ mk) (h2 : 0 ≤ a) {s t : Int} (h : s ≤ t) : growV mk a s ≤ growV mk a t := by
  unfold growV
  have : mk * a * s ≤ mk * a * t := Int.mul_le_mul_of_nonneg_left h (Int.mul_nonneg h1 h2)
  omega
theorem coldB_less {mk off : Int} {l : List Pr} (h1 : 0 ≤ mk) (h2 : ∀ p ∈ l, 0 ≤ p.2) {m k : Nat} (h : m ≤ k) (hc : coldB mk off l k = true) : coldB mk off l m = true := by
  unfold coldB at *
  rw [List.all_eq_true] at *
  intro p hp
  have := hc p hp
  simp only [decide_eq_true_eq] at *
  have := growV_anti h1 (h2 p hp) (show -(k : Int) ≤ -(m : Int) by omega)
  omega
theorem coldB_zero {mk off : Int} {l : List Pr} (h : 0 ≤ off) : coldB mk off l 0 = true := by
  unfold coldB
  rw [List.all_eq_true]
  intro p hp
  simp only [decide_eq_true_eq, growV]
  simp
  omega
theorem coldB_snoc {mk off : Int} {l : List Pr} {p : Pr} {m : Nat} : coldB mk off (l ++ [p]) m = (coldB mk off l m && decide (-off ≤ growV mk p.2 (-(m : Int)))) := by
  simp [coldB, List.all_append]
theorem coldB_perm {mk off : Int} {l l' : List Pr} (h : l.Perm l') (m : Nat) : coldB mk off l m = coldB mk off l' m := by
  unfold coldB
  rw [Bool.eq_iff_iff, List.all_eq_true, List.all_eq_true]
  exact ⟨fun hl p hp => hl p (h.mem_iff.2 hp), fun hl p hp => hl p (h.mem_iff.1 hp)⟩

def roomE (B : Blk) (off : Int) : Int × Int := if tellE B 0 (inB off 0 30000) = 0 then (roomV B off, 0) else (0, tellE B 0 (inB off 0 30000))
def c22 : Ct := wmCt fun B r => match r with
  | [.si .i64 off] => some (none, .tup [.si .i64 (roomE B off).1, .si .i64 (roomE B off).2])
  | _ => none
theorem k22 {l : List (Nat × Ct)} (g0 : Good P T l) : COk P 22 c22 := by
  have g := g67 (g68 (g66 (g57 g0)))
  refine cokDM (C := tabC _) g.ok answer_ok Try.func22 (c := code Try.f22) rfl fun fr args H out h hp => wmWalkD h hp fun mk l1 l2 c1 c2 n rd r p v Rv hk hp hR => ?_
  split at hk
  · rename_i off
    cases hk
    refine ⟨Nat.le_of_ble_eq_true rfl, fun G hG => ?_⟩
    refine fb_defer (g.ok _ _ _) rfl cont_std rfl rfl rfl rfl ?_
    refine drawn_ok (g.ok _ _ _) fol [0,0,2,7,15] [] 5 (by kernel_rfl) ?_
    refine Chk.mk (rds_rd _ _) ?_
    obtain ⟨is, his⟩ : ∃ is : Bool, inB off 0 30000 = is := ⟨_, rfl⟩
    obtain ⟨B, hB⟩ : ∃ B : Blk, (⟨mk, l1, l2, c1, c2, (List.range n).map rd⟩ : Blk) = B := ⟨_, rfl⟩
    have hmkB : B.mark = mk := by rw [← hB]
    have hB' : (⟨mk, l1, l2, c1, c2, rdL n fun i => rdC (rd i)⟩ : Blk) = B := hB
    rw [hB] at hR
    refine Br.mk (fun h => ?_) (fun h => ?_)
    · have h : (!decide (errV ⟨mk, l1, l2, c1, c2, rdL n fun i => rdC (rd i)⟩ 0 (inB off 0 30000) = 0)) = true := h
      rw [hB', his] at h
      have h : ¬ errV B 0 is = 0 := by simpa using h
      have hw : roomE B off = (0, errV B 0 is) := by rw [roomE, his, tellE, if_neg h, if_neg h]
      rw [hw] at hR
      exact hR _ _ ⟨⟨rfl, rfl⟩, ⟨rfl, (by show errV ⟨mk, l1, l2, c1, c2, rdL n fun i => rdC (rd i)⟩ 0 (inB off 0 30000) = errV B 0 is; rw [hB', his])⟩, trivial⟩ rfl
    · have h : (!decide (errV ⟨mk, l1, l2, c1, c2, rdL n fun i => rdC (rd i)⟩ 0 (inB off 0 30000) = 0)) = false := h
      rw [hB', his] at h
      have h : errV B 0 is = 0 := by simpa using h
      obtain ⟨q1, q2, q3⟩ := errV_zero h
      have hoff : 0 ≤ off ∧ off ≤ 30000 := by
        rw [q3] at his
        simpa only [inB, Bool.and_eq_true, decide_eq_true_eq] using his
      have hbb := blk_b q1
      have hm1 : 0 ≤ mk ∧ smB 1000 mk := by rw [← hmkB]; unfold smB; omega
      refine Chk.mk ⟨rds_rd _ _, by rw [hB']; exact q1⟩ ?_
      refine Br.mk (fun h2 => ?_) (fun h2 => ?_)
      · have h2 : (!decide ((0 : Int) < ((pairsV ⟨mk, l1, l2, c1, c2, rdL n fun i => rdC (rd i)⟩).length : Int))) = true := h2
        rw [hB'] at h2
        have h2 : (pairsV B).length = 0 := by
          have : ¬ (0 : Int) < ((pairsV B).length : Int) := by simpa using h2
          omega
        have hw : roomE B off = (0, 10) := by rw [roomE, his, tellE, if_pos h, if_pos h2, if_neg (by decide)]
        rw [hw] at hR
        exact hR _ _ ⟨⟨rfl, rfl⟩, ⟨rfl, rfl⟩, trivial⟩ rfl
      · have h2 : (!decide ((0 : Int) < ((pairsV ⟨mk, l1, l2, c1, c2, rdL n fun i => rdC (rd i)⟩).length : Int))) = false := h2
        rw [hB'] at h2
        have h2 : ¬ (pairsV B).length = 0 := by
          have : (0 : Int) < ((pairsV B).length : Int) := by simpa using h2
          omega
        have hw : roomE B off = (roomV B off, 0) := by rw [roomE, his, tellE, if_pos h, if_neg h2, if_pos rfl]
        rw [hw] at hR
        have hcf : ∀ p ∈ pairsV B, 0 ≤ p.2 ∧ smB 1000 p.2 := fun p hp => by
          have := (pairs_mem.1 hp).1
          unfold smB; omega
        refine fb_range encP encB (tellM (pairsV B)) 23 (g.ok _ _ _) cont_std rfl rfl rfl rfl rfl rfl rfl encP_key encB_cl rfl (by rw [← hB']; rfl) ?_
        intro hnd ts clock hts
        have hvp : ∀ {vis rest : List ((Pr × Bool) × Nat)}, ts.Perm (vis ++ rest) → ∀ x ∈ vis, x.1.1 ∈ pairsV B := fun hp x hx => by
          have h1 := hts.mem_iff.1 (List.mem_map_of_mem (f := fun x => x.1) (hp.mem_iff.2 (List.mem_append_left _ hx)))
          rw [tellM_eq (pairs_nodup B)] at h1
          obtain ⟨p, h2, h3⟩ := List.mem_map.1 h1
          rw [← h3]; exact h2
        refine loop_okR (g.ok _ _ _) 28 (fun x : {z : (List ((Pr × Bool) × Nat) × List ((Pr × Bool) × Nat)) × Nat // ts.Perm (z.1.1 ++ z.1.2) ∧ z.2 ≤ 100 ∧ coldB mk off (z.1.1.map (·.1.1)) z.2 = true ∧ ∀ k, z.2 < k → k ≤ 100 → coldB mk off (z.1.1.map (·.1.1)) k = false} =>
          ⟨[(1, ⟨[], .si .i64 off⟩), (2, ⟨[], .sp 1 0⟩), (5, ⟨[], .sp 2 0⟩), (7, ⟨[], .si .i64 x.1.2⟩), (15, ⟨[], .sp 27 0⟩)], [],
            [(27, .it 23 clock (x.1.1.1.map (·.2)) clock), (23, .map (encS encP encB ts) clock), (2, .cells 44 [.si .i64 0]), (1, .cells 36 (bC mk l1 l2 c1 c2 0)), (0, .ro 4 n fun i => rdC (rd i))], 28, [(56, [.sp 2 0])]⟩)
          (fun x => x.1.1.2.length) (fun j hj => hG j (by omega)) ⟨(([], ts), 100), by simp, by simp, by simp [coldB], fun k k1 k2 => by simp only at k1; omega⟩ (fun j => j) ?_ ?_
        · refine ⟨?_, ?_, rfl, rfl, rfl, rfl, ⟨rfl, ⟨⟨rfl, rfl⟩, trivial⟩, rfl, trivial⟩⟩
          · repeat' (first | exact trivial | exact rfl | refine And.intro ?_ ?_)
          · repeat' (first | exact trivial | exact rfl | (intro i hi; exact ⟨rfl, rfl⟩) | refine And.intro ?_ ?_)
        · rintro ⟨⟨⟨vis, rest⟩, m⟩, hp, hm, hgood, hbad⟩
          simp only at hp hm hgood hbad
          refine fb_next encP encB 23 27 clock ts vis rest (g.ok _ _ _) cont_std rfl rfl rfl rfl rfl encP_key encB_cl rfl rfl rfl hp ⟨fun hr => ?_, ?_⟩
          · replace hr : rest = [] := hr
            subst hr
            have hv : ts.Perm vis := by simpa using hp
            have hpv : (vis.map fun x => x.1.1).Perm (pairsV B) := by
              have h3 := (((hv.map fun x => x.1).symm.trans hts).map fun x : Pr × Bool => x.1)
              rw [tellM_eq (pairs_nodup B), List.map_map, List.map_map] at h3
              simpa [Function.comp_def] using h3
            have hroom : roomV B off = (m : Int) := by
              unfold roomV
              rw [hmkB, downTo_eq hm (.inr (by rw [← coldB_perm hpv]; exact hgood)) fun k k1 k2 => by rw [← coldB_perm hpv]; exact hbad k k1 k2]
            refine Br.mk (fun h => by cases h) (fun _ => ?_)
            rw [hroom] at hR
            exact hR _ _ ⟨⟨rfl, rfl⟩, ⟨rfl, rfl⟩, trivial⟩ rfl
          · rintro ⟨⟨⟨x, y⟩, bb⟩, b⟩ rest' hrest
            refine Br.mk (fun _ => ?_) (fun h => by cases h)
            have hpts : (((x, y), bb), b) ∈ ts := hp.mem_iff.2 (List.mem_append_right _ (hrest.mem_iff.2 List.mem_cons_self))
            have hpm : ts.Perm ((vis ++ [(((x, y), bb), b)]) ++ rest') := by
              rw [List.append_assoc]
              exact hp.trans (List.Perm.append_left _ hrest)
            have hy := hcf (x, y) (hvp hpm (((x, y), bb), b) (by simp))
            have hvn : ∀ p ∈ (vis ++ [(((x, y), bb), b)]).map (·.1.1), 0 ≤ p.2 := fun p hp' => by
              obtain ⟨z, hz, rfl⟩ := List.mem_map.1 hp'
              exact (hcf _ (hvp hpm z hz)).1
            have hvm : (vis ++ [(((x, y), bb), b)]).map (·.1.1) = vis.map (·.1.1) ++ [(x, y)] := by simp
            refine fb_entry encP encB 23 27 clock ts vis (((x, y), bb), b) (g.ok _ _ _) cont_std rfl rfl rfl rfl rfl encP_key encB_cl rfl rfl rfl hpts ?_
            refine loop_okR (g.ok _ _ _) 28 (fun z : {k : Nat // k ≤ m ∧ ∀ j, k < j → j ≤ 100 → coldB mk off (vis.map (·.1.1) ++ [(x, y)]) j = false} =>
              ⟨[(1, ⟨[], .si .i64 off⟩), (2, ⟨[], .sp 1 0⟩), (5, ⟨[], .sp 2 0⟩), (7, ⟨[], .si .i64 z.1⟩), (8, ⟨[], .sp 28 0⟩), (15, ⟨[], .sp 27 0⟩)], [],
                [(28, .cells 90 [.si .i64 x, .si .i64 y]), (27, .it 23 clock ((vis ++ [(((x, y), bb), b)]).map (·.2)) clock), (23, .map (encS encP encB ts) clock), (2, .cells 44 [.si .i64 0]), (1, .cells 36 (bC mk l1 l2 c1 c2 0)), (0, .ro 4 n fun i => rdC (rd i))], 29, [(56, [.sp 2 0])]⟩)
              (fun z => z.1) (fun j hj => hG j (by omega)) ⟨m, Nat.le_refl _, fun j j1 j2 => by rw [coldB_snoc, hbad j j1 j2]; rfl⟩ (fun j => j) ?_ ?_
            · refine ⟨?_, ?_, rfl, rfl, rfl, rfl, ⟨rfl, ⟨⟨rfl, rfl⟩, trivial⟩, rfl, trivial⟩⟩
              · repeat' (first | exact trivial | exact rfl | refine And.intro ?_ ?_)
              · repeat' (first | exact trivial | exact rfl | (intro i hi; exact ⟨rfl, rfl⟩) | refine And.intro ?_ ?_)
            · rintro ⟨k, hk1, hk2⟩
              refine Chk.mk (fun _ => (show InK .i64 (0 - (k : Int)) from ⟨by omega, by omega⟩)) ?_
              refine Chk.mk (fun _ => ⟨hm1.2, hy.2, (by show -1000 ≤ 0 - (k : Int) ∧ 0 - (k : Int) ≤ 1000; omega)⟩) ?_
              refine Chk.mk (fun _ => (show InK .i64 (0 - off) from ⟨by omega, by omega⟩)) ?_
              have hz : (0 : Int) - (k : Int) = -(k : Int) := by omega
              have hz2 : (0 : Int) - off = -off := by omega
              refine Br.mk (fun h3 => ?_) (fun h3 => ?_)
              · have h3 : (decide ((0 : Int) < (k : Int)) && decide (growV mk y (0 - (k : Int)) < 0 - off)) = true := h3
                rw [hz, hz2] at h3
                simp only [Bool.and_eq_true, decide_eq_true_eq] at h3
                refine Chk.mk (show InK .i64 ((k : Int) - 1) from ⟨by omega, by omega⟩) ⟨⟨k - 1, by omega, fun j j1 j2 => ?_⟩, (fun j => j), ?_, (by show k - 1 < k; omega)⟩
                · rcases Nat.lt_or_ge k j with h4 | h4
                  · exact hk2 j h4 j2
                  · obtain rfl : j = k := by omega
                    rw [coldB_snoc, decide_eq_false (by show ¬ -off ≤ growV mk y (-(j : Int)); omega), Bool.and_false]
                · refine ⟨?_, ?_, rfl, rfl, rfl, rfl, ⟨rfl, ⟨⟨rfl, rfl⟩, trivial⟩, rfl, trivial⟩⟩
                  · repeat' (first | exact trivial | exact rfl | refine And.intro ?_ ?_)
                    show (k : Int) - 1 = ((k - 1 : Nat) : Int)
                    omega
                  · repeat' (first | exact trivial | exact rfl | (intro i hi; exact ⟨rfl, rfl⟩) | refine And.intro ?_ ?_)
              · have h3 : (decide ((0 : Int) < (k : Int)) && decide (growV mk y (0 - (k : Int)) < 0 - off)) = false := h3
                rw [hz, hz2] at h3
                have hgk : coldB mk off (vis.map (·.1.1) ++ [(x, y)]) k = true := by
                  rcases Nat.eq_zero_or_pos k with rfl | hpos
                  · exact coldB_zero hoff.1
                  · rw [decide_eq_true (by omega), Bool.true_and, decide_eq_false_iff_not] at h3
                    rw [coldB_snoc, decide_eq_true (by show -off ≤ growV mk y (-(k : Int)); omega), Bool.and_true]
                    exact coldB_less hm1.1 (fun p hp' => hvn p (by rw [hvm]; exact List.mem_append_left _ hp')) hk1 hgood
                refine ⟨⟨((vis ++ [(((x, y), bb), b)], rest'), k), hpm, by simp only; omega, by simp only; rw [hvm]; exact hgk, fun j j1 j2 => by simp only; rw [hvm]; exact hk2 j j1 j2⟩, (fun j => j), ?_, (by show rest'.length < rest.length; rw [hrest.length_eq]; simp)⟩
                refine ⟨?_, ?_, rfl, rfl, rfl, rfl, ⟨rfl, ⟨⟨rfl, rfl⟩, trivial⟩, rfl, trivial⟩⟩
                · repeat' (first | exact trivial | exact rfl | refine And.intro ?_ ?_)
                · repeat' (first | exact trivial | exact rfl | (intro i hi; exact ⟨rfl, rfl⟩) | refine And.intro ?_ ?_)
  · cases hk
theorem g22 {l : List (Nat × Ct)} (g : Good P T l) : Good P T ((22, c22) :: l) := g.add (k22 g) (wmCt_mono _) (body_of Try.func22 (c := code Try.f22) rfl (by decide))
end Go.X.W
end

section
set_option linter.unusedVariables false
set_option linter.unusedSimpArgs false
set_option linter.unusedSectionVars false
/- Warm: offers. -/
set_option linter.unusedVariables false
set_option linter.unusedSimpArgs false
set_option maxRecDepth 10000
set_option maxHeartbeats 4000000
namespace Go.X.W
open Go Go.Proofs Go.X

def intAt (get : Nat → List SV) (i : Nat) : Int := match get i with
  | [.si .i64 x] => x
  | _ => 0
def Ints (n : Nat) (get : Nat → List SV) : Prop := ∀ i, i < n → get i = [.si .i64 (intAt get i)]
theorem ints_i (n : Nat) (v : Nat → Int) : Ints n (fun i => [.si .i64 (v i)]) := fun i hi => rfl
def c87 : Ct := plainCt fun
  | [.si .i64 t] => some ⟨none, none, .sb (!inB t (-100) 100), []⟩
  | _ => none
theorem k87 {l : List (Nat × Ct)} (g0 : Good P T l) : COk P 87 c87 := by
  have g := g66 g0
  refine cok (C := tabC _) g.ok Try.func87 (c := code Try.f87) rfl fun fr args H out h hp => ?_
  simp only [c87, plainCt] at h
  split at h
  · cases h
    refine walk_plain rfl (Nat.le_of_ble_eq_true rfl) fun G hG => ?_
    exact ⟨.inl rfl, end_plain rfl rfl rfl⟩
  · cases h
theorem g87 {l : List (Nat × Ct)} (g : Good P T l) : Good P T ((87, c87) :: l) := g.add (k87 g) (plainCt_mono _) (body_of Try.func87 (c := code Try.f87) rfl (by decide))

def offCt (k : (Nat → Bool) → Nat → SV) : Ct := fun fr args H =>
  match args with
  | [.sl oid, .fn (.func 87) [] []] => (match sliceOf 1 H oid with
    | some (m, get) => some ⟨some (Ints m get ∧ m ≤ 1000), none, k (fun i => !inB (intAt get i) (-100) 100) m, []⟩
    | none => none)
  | [.sv (.slice none 0 0), .fn (.func 87) [] []] => some ⟨none, none, k (fun _ => false) 0, []⟩
  | _ => none
theorem offCt_mono (k : (Nat → Bool) → Nat → SV) : CtMono (offCt k) := by
  intro fr args H H' out hH h
  unfold offCt at h ⊢
  split at h
  · split at h
    · rename_i e
      simp only [sliceOf_mono hH e]
      exact h
    · cases h
  · exact h
  · cases h
def c110 : Ct := offCt fun q m => .si .i64 (idxV q m)
theorem k110 {l : List (Nat × Ct)} (g0 : Good P T l) : COk P 110 c110 := by
  have g := g87 g0
  refine cok (C := tabC _) g.ok Try.func110 (c := code Try.f110) rfl fun fr args H out h hp => ?_
  unfold c110 offCt at h
  split at h
  · rename_i oid
    split at h
    · rename_i m get e
      cases h
      obtain ⟨hs, hm⟩ : Ints m get ∧ m ≤ 1000 := hp
      have hh : Hand H [(oid, .ro 1 m fun i => [.si .i64 (intAt get i)])] := hand_one e (fun i => rfl) (fun i hi => (hs i hi).symm)
      refine ⟨_, [.sl 0, .fn (.func 87) [] []], [(0, .ro 1 m fun i => [.si .i64 (intAt get i)])], 1, [], rfl, rfl, Nat.le_of_ble_eq_true rfl, hh, rfl, rfl, fun G hG => ?_⟩
      generalize intAt get = v
      refine loop_ok (g.ok _ _ _) (fun z : {i : Nat // i ≤ m ∧ ∀ j, j < i → (!inB (v j) (-100) 100) = false} => ⟨[(0, ⟨[], .sl 0⟩), (1, ⟨[], .fn (.func 87) [] []⟩), (7, ⟨[], .si .i64 m⟩), (8, ⟨[], .si .i64 z.1⟩)], [], [(0, .ro 1 m fun i => [.si .i64 (v i)])], 1, []⟩)
        (fun z => m - z.1) (fun _ j hj => hG j hj) ⟨0, Nat.zero_le _, fun j hj => by omega⟩ ?_ ?_
      · refine ⟨?_, ?_, rfl, rfl, rfl⟩ <;> repeat' (first | exact trivial | exact rfl | (intro i hi; exact rfl) | refine And.intro ?_ ?_)
      · rintro ⟨i, hi, hall⟩
        refine Br.mk (fun h => ?_) (fun h => ?_)
        · have h : (i : Int) < (m : Int) := of_decide_eq_true h
          refine Chk.mk (show (0 : Int) ≤ (i : Int) ∧ (i : Int) < (m : Int) from ⟨by omega, h⟩) ?_
          refine Br.mk (fun h2 => ?_) (fun h2 => ?_)
          · have h2 : (!inB (v i) (-100) 100) = true := h2
            have e := idxV_some (q := fun i => !inB (v i) (-100) 100) (n := m) (by omega) h2 hall
            exact ⟨.inl rfl, end_noid ⟨rfl, e.symm⟩ rfl rfl ⟨trivial, trivial⟩⟩
          · have h2 : (!inB (v i) (-100) 100) = false := h2
            refine Chk.mk (show InK .i64 ((i : Int) + 1) from ⟨by omega, by omega⟩) ⟨⟨i + 1, by omega, fun j hj => ?_⟩, ?_, by show m - (i + 1) < m - i; omega⟩
            · rcases Nat.lt_or_eq_of_le (show j ≤ i by omega) with h | h
              · exact hall j h
              · subst h; exact h2
            · refine ⟨?_, ?_, rfl, rfl, rfl⟩ <;> repeat' (first | exact trivial | exact rfl | (intro i hi; exact rfl) | refine And.intro ?_ ?_)
        · have h : ¬ (i : Int) < (m : Int) := of_decide_eq_false h
          have e := idxV_none (q := fun i => !inB (v i) (-100) 100) (n := m) (fun j hj => hall j (by omega))
          exact ⟨.inl rfl, end_noid ⟨rfl, e.symm⟩ rfl rfl ⟨trivial, trivial⟩⟩
    · cases h
  · cases h
    refine walk_plain rfl (Nat.le_of_ble_eq_true rfl) fun G hG => ?_
    refine loop_ok (g.ok _ _ _) (fun z : Unit => ⟨[(7, ⟨[], .si .i64 0⟩), (8, ⟨[], .si .i64 0⟩)], [], [], 0, []⟩) (fun z => 0) (fun _ => hG) () ?_ ?_
    · refine ⟨?_, ?_, rfl, rfl, rfl⟩ <;> repeat' (first | exact trivial | exact rfl | refine And.intro ?_ ?_)
    · rintro ⟨⟩
      refine Br.mk (fun h => by cases h) (fun h => ?_)
      exact ⟨.inl rfl, end_plain ⟨rfl, rfl⟩ rfl rfl⟩
  · cases h
theorem g110 {l : List (Nat × Ct)} (g : Good P T l) : Good P T ((110, c110) :: l) := g.add (k110 g) (offCt_mono _) (body_of Try.func110 (c := code Try.f110) rfl (by decide))
def c88 : Ct := offCt fun q m => .sb ((List.range m).any q)
theorem k88 {l : List (Nat × Ct)} (g0 : Good P T l) : COk P 88 c88 := by
  have g := g110 g0
  refine cok (C := tabC _) g.ok Try.func88 (c := code Try.f88) rfl fun fr args H out h hp => ?_
  unfold c88 offCt at h
  split at h
  · rename_i oid
    split at h
    · rename_i m get e
      cases h
      obtain ⟨hs, hm⟩ : Ints m get ∧ m ≤ 1000 := hp
      have hh : Hand H [(oid, .ro 1 m fun i => [.si .i64 (intAt get i)])] := hand_one e (fun i => rfl) (fun i hi => (hs i hi).symm)
      refine ⟨_, [.sl 0, .fn (.func 87) [] []], [(0, .ro 1 m fun i => [.si .i64 (intAt get i)])], 1, [], rfl, rfl, Nat.le_of_ble_eq_true rfl, hh, rfl, rfl, fun G hG => ?_⟩
      generalize intAt get = v
      exact Chk.mk ⟨ints_i _ _, hm⟩ ⟨.inl rfl, end_noid idxV_any rfl rfl ⟨trivial, trivial⟩⟩
    · cases h
  · cases h
    refine walk_plain rfl (Nat.le_of_ble_eq_true rfl) fun G hG => ?_
    exact ⟨.inl rfl, end_plain rfl rfl rfl⟩
  · cases h
theorem g88 {l : List (Nat × Ct)} (g : Good P T l) : Good P T ((88, c88) :: l) := g.add (k88 g) (offCt_mono _) (body_of Try.func88 (c := code Try.f88) rfl (by decide))

/-! ### How many pairs are left at most -/
def leftV (mk : Int) (l : List Pr) (t : Int) : Nat := (l.map fun p => l.countP fun q => decide (showV mk q t = showV mk p t)).foldl max 0
theorem foldl_max_le {l : List Nat} {s b : Nat} (hs : s ≤ b) (h : ∀ x ∈ l, x ≤ b) : l.foldl max s ≤ b := by
  induction l generalizing s with
  | nil => exact hs
  | cons x r ih => exact ih (by have := h x List.mem_cons_self; omega) fun y hy => h y (List.mem_cons_of_mem _ hy)
theorem foldl_max_ge {l : List Nat} {s : Nat} : s ≤ l.foldl max s := by
  induction l generalizing s with
  | nil => exact Nat.le_refl _
  | cons x r ih => exact Nat.le_trans (Nat.le_max_left s x) (ih (s := max s x))
theorem foldl_max_mem {l : List Nat} {s x : Nat} (h : x ∈ l) : x ≤ l.foldl max s := by
  induction l generalizing s with
  | nil => cases h
  | cons y r ih =>
    rcases List.mem_cons.1 h with rfl | h
    · exact Nat.le_trans (Nat.le_max_right s x) (foldl_max_ge (s := max s x))
    · exact ih h
theorem leftV_le {mk : Int} {l : List Pr} {t : Int} {b : Nat} : leftV mk l t ≤ b ↔ ∀ p ∈ l, (l.countP fun q => decide (showV mk q t = showV mk p t)) ≤ b := by
  constructor
  · intro h p hp
    exact Nat.le_trans (foldl_max_mem (List.mem_map.2 ⟨p, hp, rfl⟩)) h
  · intro h
    refine foldl_max_le (Nat.zero_le _) fun x hx => ?_
    obtain ⟨p, hp, rfl⟩ := List.mem_map.1 hx
    exact h p hp
theorem leftV_snoc (mk : Int) (l : List Pr) (p : Pr) (t : Int) : leftV mk (l ++ [p]) t = max (leftV mk l t) ((l.countP fun q => decide (showV mk q t = showV mk p t)) + 1) := by
  have hc : ∀ x, ((l ++ [p]).countP fun q => decide (showV mk q t = showV mk x t)) = (l.countP fun q => decide (showV mk q t = showV mk x t)) + if showV mk p t = showV mk x t then 1 else 0 := fun x => by
    rw [List.countP_append]
    simp [List.countP_cons]
  refine Nat.le_antisymm (leftV_le.2 fun x hx => ?_) ?_
  · rw [hc x]
    rcases List.mem_append.1 hx with hx | hx
    · split
      · rename_i h
        rw [← h]
        exact Nat.le_max_right _ _
      · exact Nat.le_trans (leftV_le.1 (Nat.le_refl _) x hx) (Nat.le_max_left _ _)
    · obtain rfl : x = p := by simpa using hx
      rw [if_pos rfl]
      exact Nat.le_max_right _ _
  · refine Nat.max_le.2 ⟨leftV_le.2 fun x hx => ?_, ?_⟩
    · have := leftV_le.1 (Nat.le_refl (leftV mk (l ++ [p]) t)) x (List.mem_append_left _ hx)
      rw [hc x] at this
      omega
    · have := leftV_le.1 (Nat.le_refl (leftV mk (l ++ [p]) t)) p (by simp)
      rw [hc p, if_pos rfl] at this
      exact this
theorem leftV_perm {mk : Int} {l l' : List Pr} (h : l.Perm l') (t : Int) : leftV mk l t = leftV mk l' t := by
  refine Nat.le_antisymm (leftV_le.2 fun p hp => ?_) (leftV_le.2 fun p hp => ?_)
  · rw [h.countP_eq]; exact leftV_le.1 (Nat.le_refl _) p (h.mem_iff.1 hp)
  · rw [← h.countP_eq]; exact leftV_le.1 (Nat.le_refl _) p (h.mem_iff.2 hp)
theorem leftV_len {mk : Int} {l : List Pr} {t : Int} : leftV mk l t ≤ l.length := leftV_le.2 fun p _ => List.countP_le_length
/-- How often each number was shown. -/
def cntM (mk t : Int) (l : List Pr) : List (Int × Int) := l.foldl (fun m p => updA m (showV mk p t) ((lookA m (showV mk p t)).getD 0 + 1)) []
theorem cntM_snoc (mk t : Int) (l : List Pr) (p : Pr) : cntM mk t (l ++ [p]) = updA (cntM mk t l) (showV mk p t) ((lookA (cntM mk t l) (showV mk p t)).getD 0 + 1) := by
  simp [cntM, List.foldl_append]
theorem lookA_upd {κ ν : Type} [DecidableEq κ] (m : List (κ × ν)) (k : κ) (v : ν) (k' : κ) : lookA (updA m k v) k' = if k' = k then some v else lookA m k' := by
  induction m with
  | nil =>
    rw [updA, lookA, lookA]
    by_cases h : k = k'
    · rw [if_pos h, if_pos h.symm]
    · rw [if_neg h, if_neg (Ne.symm h)]; rfl
  | cons p r ih =>
    rw [updA]
    by_cases e : p.1 = k
    · rw [if_pos e, lookA, lookA]
      by_cases h : k = k'
      · rw [if_pos h, if_pos h.symm]
      · rw [if_neg h, if_neg (Ne.symm h), if_neg (by rw [e]; exact h)]
    · rw [if_neg e, lookA, lookA, ih]
      by_cases h : p.1 = k'
      · rw [if_pos h, if_pos h, if_neg (by rw [← h]; exact e)]
      · rw [if_neg h, if_neg h]
theorem cntM_look (mk t : Int) (l : List Pr) (k : Int) : (lookA (cntM mk t l) k).getD 0 = ((l.countP fun q => decide (showV mk q t = k) : Nat) : Int) := by
  have key : ∀ (r : List Pr) (l : List Pr), (lookA (cntM mk t l) k).getD 0 = ((l.countP fun q => decide (showV mk q t = k) : Nat) : Int) → (lookA (cntM mk t (l ++ r)) k).getD 0 = (((l ++ r).countP fun q => decide (showV mk q t = k) : Nat) : Int) := by
    intro r
    induction r with
    | nil => intro l h; simpa using h
    | cons p r ih =>
      intro l h
      rw [show l ++ p :: r = (l ++ [p]) ++ r by simp]
      refine ih _ ?_
      rw [cntM_snoc, lookA_upd, List.countP_append]
      by_cases e : k = showV mk p t
      · subst e
        rw [if_pos rfl, h]
        simp [List.countP_cons]
      · rw [if_neg e, h]
        have : ¬ showV mk p t = k := fun h => e h.symm
        simp [List.countP_cons, this]
  have := key l [] rfl
  rwa [List.nil_append] at this
def encI (n : Int) : SV := .si .i64 n
theorem encI_key : KeyT T 3 encI where
  ty := ⟨_, rfl⟩
  chk := fun a => by kernel_rfl
  eq := fun a b => by
    have h : eqC T 9 3 (encI a) (encI b) = some (decide (a = b)) := by kernel_rfl
    exact h
  cl := fun a => ⟨.int .i64 a, rfl⟩
  same := fun a => by
    have : cv (encI a) = .int .i64 a := rfl
    rw [this]
    simp [Instr.sameBits]
theorem encI_cl : Closed encI := fun a => ⟨.int .i64 a, rfl⟩
end Go.X.W
end

section
set_option linter.unusedVariables false
set_option linter.unusedSimpArgs false
set_option linter.unusedSectionVars false
/- Warm: how many pairs an offer leaves at most; the offer that leaves the fewest. -/
set_option linter.unusedVariables false
set_option linter.unusedSimpArgs false
set_option maxRecDepth 10000
set_option maxHeartbeats 4000000
namespace Go.X.W
open Go Go.Proofs Go.X

def decP : SV → Pr
  | .agg [.si _ a, .si _ b] => (a, b)
  | _ => (0, 0)
def decB : SV → Bool
  | .sb b => b
  | _ => true
def decT (es : List (SV × SV × Nat)) : List ((Pr × Bool) × Nat) := es.map fun e => ((decP e.1, decB e.2.1), e.2.2)
theorem decT_enc (ts : List ((Pr × Bool) × Nat)) : decT (encS encP encB ts) = ts := by
  simp only [decT, encS, List.map_map]
  conv => rhs; rw [← List.map_id ts]
  refine List.map_congr_left fun x _ => ?_
  obtain ⟨⟨⟨a, b⟩, c⟩, m⟩ := x
  rfl
def tsL (ts : List ((Pr × Bool) × Nat)) : List Pr := ts.map (·.1.1)
def nextQ (es : List (SV × SV × Nat)) (n : Nat) (get : Nat → List SV) (mk : Int) : Prop :=
  es = encS encP encB (decT es) ∧ Rds n get ∧ smB 1000 mk ∧ (decT es).length ≤ 1000 ∧ ∀ x ∈ decT es, smB 1000000 x.1.1.1 ∧ smB 1000 x.1.1.2
def c90 : Ct := fun fr args H =>
  match args with
  | [.si .i64 t, .sp lx 0, .sp wx 0] => (match H lx, H wx with
    | some (.cells 107 [.sm mid]), some (.cells 36 [.si .i64 mk, .si .i64 l1, .si .i64 l2, .si .i64 c1, .si .i64 c2, .sl id]) => (match H mid, sliceOf 4 H id with
      | some (.map es clk), some (n, get) => some ⟨some (nextQ es n get mk ∧ smB 1000 t), none, .si .i64 (leftV mk (tsL (decT es)) t : Nat), []⟩
      | _, _ => none)
    | _, _ => none)
  | _ => none
theorem c90_mono : CtMono c90 := by
  intro fr args H H' out hH h
  unfold c90 at h ⊢
  split at h
  · split at h
    · rename_i e1 e2
      split at h
      · rename_i e3 e
        simp only [hH _ _ e1, hH _ _ e2, hH _ _ e3, sliceOf_mono hH e]
        exact h
      · cases h
    · cases h
  · cases h
def nxP (lx mid wx id n : Nat) (mk l1 l2 c1 c2 : Int) (rd : Nat → Rd) (es : List (SV × SV × Nat)) (clk : Nat) : List (Nat × HB) :=
  [(lx, .cells 107 [.sm 1]), (mid, .map es clk), (wx, .cells 36 (bC mk l1 l2 c1 c2 3)), (id, .ro 4 n fun i => rdC (rd i))]
theorem k90 {l : List (Nat × Ct)} (g0 : Good P T l) : COk P 90 c90 := by
  have g := g81 g0
  refine cok (C := tabC _) g.ok Try.func90 (c := code Try.f90) rfl fun fr args H out h hp => ?_
  unfold c90 at h
  split at h
  · rename_i t lx wx
    split at h
    · rename_i mid mk l1 l2 c1 c2 id e1 e2
      split at h
      · rename_i es clk n get e3 e
        cases h
        obtain ⟨⟨hes, hs, hmk, hlen, hx⟩, ht⟩ : nextQ es n get mk ∧ smB 1000 t := hp
        have hh : Hand H (nxP lx mid wx id n mk l1 l2 c1 c2 (rdAt get) es clk) := hand_mk ⟨e1, e3, e2, sliceOf_piece e fun i hi => by rw [hs i hi]; rfl, trivial⟩
          (by repeat' (first | exact trivial | (intro i hi; exact ⟨trivial, trivial, trivial, trivial, trivial⟩) | refine And.intro ?_ ?_ | exact (by decide : (1 : Nat) < 4) | exact (by decide : (3 : Nat) < 4))) rfl
        refine ⟨nxP lx mid wx id n mk l1 l2 c1 c2 (rdAt get) es clk, [.si .i64 t, .sp 0 0, .sp 2 0], [(0, .cells 107 [.sm 1]), (1, .map es clk), (2, .cells 36 (bC mk l1 l2 c1 c2 3)), (3, .ro 4 n fun i => rdC (rdAt get i))], 4, [], rfl, rfl, Nat.le_of_ble_eq_true rfl, hh, rfl, rfl, fun G hG => ?_⟩
        generalize rdAt get = rd
        generalize decT es = ts at hes hlen hx ⊢
        subst hes
        refine fb_makeMap (g.ok _ _ _) cont_std rfl rfl rfl rfl rfl ?_
        refine fb_rangeM encP encB ts clk 1 (g.ok _ _ _) cont_std rfl rfl rfl rfl rfl rfl rfl encP_key encB_cl rfl rfl ?_
        refine loop_okR (g.ok _ _ _) 4 (fun x : {z : List ((Pr × Bool) × Nat) × List ((Pr × Bool) × Nat) // ts.Perm (z.1 ++ z.2)} =>
          ⟨[(0, ⟨[], .si .i64 t⟩), (1, ⟨[], .sp 0 0⟩), (2, ⟨[], .sp 2 0⟩), (5, ⟨[], .sm 4⟩), (6, ⟨[], .si .i64 (leftV mk (tsL x.1.1) t : Nat)⟩), (11, ⟨[], .sp 5 0⟩)], [],
            [(5, .it 1 clk (x.1.1.map (·.2)) clk), (4, .mp (encM encI encI (cntM mk t (tsL x.1.1)))), (0, .cells 107 [.sm 1]), (1, .map (encS encP encB ts) clk), (2, .cells 36 (bC mk l1 l2 c1 c2 3)), (3, .ro 4 n fun i => rdC (rd i))], 6, []⟩)
          (fun x => x.1.2.length) hG ⟨([], ts), by simp⟩ (fun j => j) ?_ ?_
        · refine ⟨?_, ?_, rfl, rfl, rfl, rfl, trivial⟩
          · repeat' (first | exact trivial | exact rfl | refine And.intro ?_ ?_)
          · repeat' (first | exact trivial | exact rfl | exact List.Perm.refl _ | (intro i hi; exact ⟨rfl, rfl⟩) | refine And.intro ?_ ?_)
        · rintro ⟨⟨vis, rest⟩, hp⟩
          refine fb_next encP encB 1 5 clk ts vis rest (g.ok _ _ _) cont_std rfl rfl rfl rfl rfl encP_key encB_cl rfl rfl rfl hp ⟨fun hr => ?_, ?_⟩
          · replace hr : rest = [] := hr
            subst hr
            have hv : ts.Perm vis := by simpa using hp
            refine Br.mk (fun h => by cases h) (fun _ => ?_)
            refine ⟨.inl rfl, end_noid ⟨rfl, ?_⟩ rfl rfl ?_⟩
            · show ((leftV mk (tsL vis) t : Nat) : Int) = _
              rw [show leftV mk (tsL vis) t = leftV mk (tsL ts) t from leftV_perm ((hv.map _).symm) t]
            · exact ⟨⟨rfl, rfl, trivial⟩, rfl, ⟨rfl, ⟨rfl, rfl⟩, ⟨rfl, rfl⟩, ⟨rfl, rfl⟩, ⟨rfl, rfl⟩, ⟨rfl, rfl⟩, rfl, trivial⟩, trivial, trivial⟩
          · rintro ⟨⟨⟨x, y⟩, bb⟩, b⟩ rest' hrest
            refine Br.mk (fun _ => ?_) (fun h => by cases h)
            have hpts : (((x, y), bb), b) ∈ ts := hp.mem_iff.2 (List.mem_append_right _ (hrest.mem_iff.2 List.mem_cons_self))
            have hpm : ts.Perm ((vis ++ [(((x, y), bb), b)]) ++ rest') := by
              rw [List.append_assoc]
              exact hp.trans (List.Perm.append_left _ hrest)
            have hxy := hx _ hpts
            have hvl : vis.length ≤ 1000 := by
              have := hp.length_eq
              rw [List.length_append] at this
              simp only at this
              omega
            have htl : tsL (vis ++ [(((x, y), bb), b)]) = tsL vis ++ [(x, y)] := by simp [tsL]
            refine fb_entry encP encB 1 5 clk ts vis (((x, y), bb), b) (g.ok _ _ _) cont_std rfl rfl rfl rfl rfl encP_key encB_cl rfl rfl rfl hpts ?_
            refine Chk.mk ⟨hxy.1, hmk, hxy.2, ht⟩ ?_
            obtain ⟨K, hK⟩ : ∃ K : Int, showV mk (x, y) t = K := ⟨_, rfl⟩
            have hlk := cntM_look mk t (tsL vis) K
            have hsn := cntM_snoc mk t (tsL vis) (x, y)
            have hcl : ((tsL vis).countP fun q => decide (showV mk q t = K)) ≤ 1000 := Nat.le_trans List.countP_le_length (by simp [tsL]; exact hvl)
            have hls := leftV_snoc mk (tsL vis) (x, y) t
            rw [hK] at hsn hls
            have fin : ∀ c : Int, c = (((tsL vis).countP fun q => decide (showV mk q t = K) : Nat) : Int) → cntM mk t (tsL vis ++ [(x, y)]) = updA (cntM mk t (tsL vis)) K (c + 1) ∧ (-9223372036854775808 ≤ c + 1 ∧ c + 1 ≤ 9223372036854775807) ∧
                max ((leftV mk (tsL vis) t : Nat) : Int) (c + 1) = ((leftV mk (tsL vis ++ [(x, y)]) t : Nat) : Int) := by
              intro c hc
              refine ⟨by rw [hsn, hlk, hc], by omega, ?_⟩
              rw [hls, hc]
              omega
            refine fb_lookup encI encI (cntM mk t (tsL vis)) (showV mk (x, y) t) 4 (g.ok _ _ _) cont_std rfl rfl rfl rfl rfl rfl rfl rfl rfl encI_key encI_cl rfl rfl rfl ?_
            intro hnd
            have go : ∀ c : Int, (lookA (cntM mk t (tsL vis)) K).getD 0 = c → c = (((tsL vis).countP fun q => decide (showV mk q t = K) : Nat) : Int) := fun c hc => by rw [← hc, hlk]
            refine ⟨fun c hc => ?_, fun hc => ?_⟩
            · rw [hK] at hc
              obtain ⟨f1, f2, f3⟩ := fin c (go c (by rw [hc]; rfl))
              refine Chk.mk f2 ?_
              refine fb_update encI encI (cntM mk t (tsL vis)) (showV mk (x, y) t) (c + 1) (cntM mk t (tsL vis ++ [(x, y)])) (by rw [hK]; exact f1) 4 (g.ok _ _ _) cont_std rfl (.inl rfl) rfl rfl rfl rfl encI_key encI_cl rfl rfl rfl rfl ?_
              intro _
              have hl2 : lookA (cntM mk t (tsL vis ++ [(x, y)])) K = some (c + 1) := by rw [f1, lookA_upd, if_pos rfl]
              refine fb_lookup encI encI (cntM mk t (tsL vis ++ [(x, y)])) (showV mk (x, y) t) 4 (g.ok _ _ _) cont_std rfl rfl rfl rfl rfl rfl rfl rfl rfl encI_key encI_cl rfl rfl rfl ?_
              intro _
              refine ⟨fun d hd => ?_, fun hd => by rw [hK, hl2] at hd; cases hd⟩
              rw [hK, hl2] at hd
              cases hd
              refine ⟨⟨(vis ++ [(((x, y), bb), b)], rest'), hpm⟩, (fun j => j), ?_, (by show rest'.length < rest.length; rw [hrest.length_eq]; simp)⟩
              refine ⟨?_, ?_, rfl, rfl, rfl, rfl, trivial⟩
              · repeat' (first | exact trivial | exact rfl | refine And.intro ?_ ?_)
                show max ((leftV mk (tsL vis) t : Nat) : Int) (c + 1) = _
                rw [f3, ← htl]
              · repeat' (first | exact trivial | exact rfl | (intro i hi; exact ⟨rfl, rfl⟩) | refine And.intro ?_ ?_)
                show List.Perm (encM encI encI (cntM mk t (tsL vis ++ [(x, y)]))) (encM encI encI (cntM mk t (tsL (vis ++ [(((x, y), bb), b)]))))
                rw [htl]
            · rw [hK] at hc
              obtain ⟨f1, f2, f3⟩ := fin 0 (go 0 (by rw [hc]; rfl))
              refine Chk.mk f2 ?_
              refine fb_update encI encI (cntM mk t (tsL vis)) (showV mk (x, y) t) (0 + 1) (cntM mk t (tsL vis ++ [(x, y)])) (by rw [hK]; exact f1) 4 (g.ok _ _ _) cont_std rfl (.inl rfl) rfl rfl rfl rfl encI_key encI_cl rfl rfl rfl rfl ?_
              intro _
              have hl2 : lookA (cntM mk t (tsL vis ++ [(x, y)])) K = some (0 + 1) := by rw [f1, lookA_upd, if_pos rfl]
              refine fb_lookup encI encI (cntM mk t (tsL vis ++ [(x, y)])) (showV mk (x, y) t) 4 (g.ok _ _ _) cont_std rfl rfl rfl rfl rfl rfl rfl rfl rfl encI_key encI_cl rfl rfl rfl ?_
              intro _
              refine ⟨fun d hd => ?_, fun hd => by rw [hK, hl2] at hd; cases hd⟩
              rw [hK, hl2] at hd
              cases hd
              refine ⟨⟨(vis ++ [(((x, y), bb), b)], rest'), hpm⟩, (fun j => j), ?_, (by show rest'.length < rest.length; rw [hrest.length_eq]; simp)⟩
              refine ⟨?_, ?_, rfl, rfl, rfl, rfl, trivial⟩
              · repeat' (first | exact trivial | exact rfl | refine And.intro ?_ ?_)
                show max ((leftV mk (tsL vis) t : Nat) : Int) (0 + 1) = _
                rw [f3, ← htl]
              · repeat' (first | exact trivial | exact rfl | (intro i hi; exact ⟨rfl, rfl⟩) | refine And.intro ?_ ?_)
                show List.Perm (encM encI encI (cntM mk t (tsL vis ++ [(x, y)]))) (encM encI encI (cntM mk t (tsL (vis ++ [(((x, y), bb), b)]))))
                rw [htl]
      · cases h
    · cases h
  · cases h
theorem g90 {l : List (Nat × Ct)} (g : Good P T l) : Good P T ((90, c90) :: l) := g.add (k90 g) c90_mono (body_of Try.func90 (c := code Try.f90) rfl (by decide))
end Go.X.W
end

section
set_option linter.unusedVariables false
set_option linter.unusedSimpArgs false
set_option linter.unusedSectionVars false
/- Warm: Next. -/
set_option linter.unusedVariables false
set_option linter.unusedSimpArgs false
set_option maxRecDepth 10000
set_option maxHeartbeats 4000000
namespace Go.X.W
open Go Go.Proofs Go.X

def leastV (f : Nat → Int) : Nat → Int × Int
  | 0 => (0, 0)
  | i + 1 => if i = 0 ∨ f i < (leastV f i).2 then ((i : Int), f i) else leastV f i
def c89 : Ct := fun fr args H =>
  match args with
  | [.sl oid, .agg [.fn (.func 90) [] [.sp lx 0, .sp wx 0]]] => (match sliceOf 1 H oid, H lx, H wx with
    | some (m, og), some (.cells 107 [.sm mid]), some (.cells 36 [.si .i64 mk, .si .i64 l1, .si .i64 l2, .si .i64 c1, .si .i64 c2, .sl id]) => (match H mid, sliceOf 4 H id with
      | some (.map es clk), some (n, get) => some ⟨some (Ints m og ∧ m ≤ 1000 ∧ (∀ i, i < m → smB 1000 (intAt og i)) ∧ nextQ es n get mk), none,
          .tup [.si .i64 (leastV (fun i => (leftV mk (tsL (decT es)) (intAt og i) : Nat)) m).1, .si .i64 (leastV (fun i => (leftV mk (tsL (decT es)) (intAt og i) : Nat)) m).2], []⟩
      | _, _ => none)
    | _, _, _ => none)
  | _ => none
theorem c89_mono : CtMono c89 := by
  intro fr args H H' out hH h
  unfold c89 at h ⊢
  split at h
  · split at h
    · rename_i e0 e1 e2
      split at h
      · rename_i e3 e
        simp only [sliceOf_mono hH e0, hH _ _ e1, hH _ _ e2, hH _ _ e3, sliceOf_mono hH e]
        exact h
      · cases h
    · cases h
  · cases h
def lsP (oid m lx mid wx id n : Nat) (mk l1 l2 c1 c2 : Int) (ov : Nat → Int) (rd : Nat → Rd) (es : List (SV × SV × Nat)) (clk : Nat) : List (Nat × HB) :=
  [(oid, .ro 1 m fun i => [.si .i64 (ov i)]), (lx, .cells 107 [.sm 2]), (mid, .map es clk), (wx, .cells 36 (bC mk l1 l2 c1 c2 4)), (id, .ro 4 n fun i => rdC (rd i))]
theorem k89 {l : List (Nat × Ct)} (g0 : Good P T l) : COk P 89 c89 := by
  have g := g90 g0
  refine cok (C := tabC _) g.ok Try.func89 (c := code Try.f89) rfl fun fr args H out h hp => ?_
  unfold c89 at h
  split at h
  · rename_i oid lx wx
    split at h
    · rename_i m og mid mk l1 l2 c1 c2 id e0 e1 e2
      split at h
      · rename_i es clk n get e3 e
        cases h
        obtain ⟨hi, hm, hb, hes, hs, hmk, hlen, hx⟩ : Ints m og ∧ m ≤ 1000 ∧ (∀ i, i < m → smB 1000 (intAt og i)) ∧ nextQ es n get mk := hp
        have hh : Hand H (lsP oid m lx mid wx id n mk l1 l2 c1 c2 (intAt og) (rdAt get) es clk) := hand_mk ⟨sliceOf_piece e0 fun i hj => by rw [hi i hj]; rfl, e1, e3, e2, sliceOf_piece e fun i hi => by rw [hs i hi]; rfl, trivial⟩
          (by repeat' (first | exact trivial | (intro i hi; exact ⟨trivial, trivial, trivial, trivial, trivial⟩) | (intro i hi; exact ⟨trivial, trivial⟩) | refine And.intro ?_ ?_ | exact (by decide : (2 : Nat) < 5) | exact (by decide : (4 : Nat) < 5))) rfl
        refine ⟨lsP oid m lx mid wx id n mk l1 l2 c1 c2 (intAt og) (rdAt get) es clk, [.sl 0, .agg [.fn (.func 90) [] [.sp 1 0, .sp 3 0]]],
          [(0, .ro 1 m fun i => [.si .i64 (intAt og i)]), (1, .cells 107 [.sm 2]), (2, .map es clk), (3, .cells 36 (bC mk l1 l2 c1 c2 4)), (4, .ro 4 n fun i => rdC (rdAt get i))], 5, [], rfl, rfl, Nat.le_of_ble_eq_true rfl, hh, rfl, rfl, fun G hG => ?_⟩
        generalize rdAt get = rd
        generalize intAt og = ov at hb ⊢
        obtain ⟨f, hf⟩ : ∃ f : Nat → Int, (fun i => ((leftV mk (tsL (decT es)) (ov i) : Nat) : Int)) = f := ⟨_, rfl⟩
        have hfb : ∀ i, 0 ≤ f i := fun i => by rw [← hf]; exact Int.natCast_nonneg _
        rw [hf]
        refine loop_okR (g.ok _ _ _) 5 (fun x : {i : Nat // i ≤ m} =>
          ⟨[(3, ⟨[], .sp 5 0⟩), (4, ⟨[], .si .i64 (leastV f x.1).1⟩), (5, ⟨[], .si .i64 (leastV f x.1).2⟩), (9, ⟨[], .sl 0⟩), (10, ⟨[], .si .i64 m⟩), (11, ⟨[], .si .i64 x.1⟩)], [],
            [(0, .ro 1 m fun i => [.si .i64 (ov i)]), (1, .cells 107 [.sm 2]), (2, .map es clk), (3, .cells 36 (bC mk l1 l2 c1 c2 4)), (4, .ro 4 n fun i => rdC (rd i)), (5, .cells 134 [.fn (.func 90) [] [.sp 1 0, .sp 3 0]])], 6, []⟩)
          (fun x => m - x.1) hG ⟨0, Nat.zero_le _⟩ (fun j => j) ?_ ?_
        · refine ⟨?_, ?_, rfl, rfl, rfl, rfl, trivial⟩
          · repeat' (first | exact trivial | exact rfl | refine And.intro ?_ ?_)
          · repeat' (first | exact trivial | exact rfl | (intro i hi; exact ⟨rfl, rfl⟩) | refine And.intro ?_ ?_)
        · rintro ⟨i, hi⟩
          refine Br.mk (fun h => ?_) (fun h => ?_)
          · have h : (i : Int) < (m : Int) := of_decide_eq_true h
            refine Chk.mk (show (0 : Int) ≤ (i : Int) ∧ (i : Int) < (m : Int) from ⟨by omega, h⟩) ?_
            refine Chk.mk ⟨⟨hes, rds_rd _ _, hmk, hlen, hx⟩, hb i (by omega)⟩ ?_
            have hfi : ((leftV mk (tsL (decT es)) (ov i) : Nat) : Int) = f i := by rw [← hf]
            have hin : InK .i64 ((i : Int) + 1) := ⟨by omega, by omega⟩
            refine Br.mk (fun h2 => ?_) (fun h2 => ?_)
            · have h2 : (decide ((i : Int) = 0) || decide (((leftV mk (tsL (decT es)) (ov i) : Nat) : Int) < (leastV f i).2)) = true := h2
              rw [hfi] at h2
              simp only [Bool.or_eq_true, decide_eq_true_eq] at h2
              have hst : leastV f (i + 1) = ((i : Int), f i) := by rw [leastV, if_pos (by omega)]
              refine Chk.mk hin ⟨⟨i + 1, by omega⟩, (fun j => j), ?_, (by show m - (i + 1) < m - i; omega)⟩
              refine ⟨?_, ?_, rfl, rfl, rfl, rfl, trivial⟩
              · repeat' (first | exact trivial | exact rfl | refine And.intro ?_ ?_)
                · show (i : Int) = (leastV f (i + 1)).1
                  rw [hst]
                · show ((leftV mk (tsL (decT es)) (ov i) : Nat) : Int) = (leastV f (i + 1)).2
                  rw [hst, hfi]
              · repeat' (first | exact trivial | exact rfl | (intro i hi; exact ⟨rfl, rfl⟩) | refine And.intro ?_ ?_)
            · have h2 : (decide ((i : Int) = 0) || decide (((leftV mk (tsL (decT es)) (ov i) : Nat) : Int) < (leastV f i).2)) = false := h2
              rw [hfi] at h2
              simp only [Bool.or_eq_false_iff, decide_eq_false_iff_not] at h2
              have hst : leastV f (i + 1) = leastV f i := by rw [leastV, if_neg (by omega)]
              refine Chk.mk hin ⟨⟨i + 1, by omega⟩, (fun j => j), ?_, (by show m - (i + 1) < m - i; omega)⟩
              refine ⟨?_, ?_, rfl, rfl, rfl, rfl, trivial⟩
              · repeat' (first | exact trivial | exact rfl | refine And.intro ?_ ?_)
                · show (leastV f i).1 = (leastV f (i + 1)).1
                  rw [hst]
                · show (leastV f i).2 = (leastV f (i + 1)).2
                  rw [hst]
              · repeat' (first | exact trivial | exact rfl | (intro i hi; exact ⟨rfl, rfl⟩) | refine And.intro ?_ ?_)
          · have h : ¬ (i : Int) < (m : Int) := of_decide_eq_false h
            obtain rfl : i = m := by omega
            refine ⟨.inl rfl, end_noid ⟨⟨rfl, rfl⟩, ⟨rfl, rfl⟩, trivial⟩ rfl rfl ?_⟩
            exact ⟨trivial, ⟨rfl, rfl, trivial⟩, rfl, ⟨rfl, ⟨rfl, rfl⟩, ⟨rfl, rfl⟩, ⟨rfl, rfl⟩, ⟨rfl, rfl⟩, ⟨rfl, rfl⟩, rfl, trivial⟩, trivial, trivial⟩
      · cases h
    · cases h
  · cases h
theorem g89 {l : List (Nat × Ct)} (g : Good P T l) : Good P T ((89, c89) :: l) := g.add (k89 g) c89_mono (body_of Try.func89 (c := code Try.f89) rfl (by decide))

/-! ### Next -/
def offsB (l : List Int) : Bool := decide ((0 : Int) < (l.length : Int)) && l.all fun t => inB t (-100) 100
def nextV (B : Blk) (l : List Int) : (Int × Int) × Int := if tellE B l.length (offsB l) = 0 then (leastV (fun i => (leftV B.mark (pairsV B) (l.getD i 0) : Nat)) l.length, 0) else ((0, 0), tellE B l.length (offsB l))
theorem nextV_err {B : Blk} {l : List Int} (h : ¬ errV B l.length (offsB l) = 0) : nextV B l = ((0, 0), errV B l.length (offsB l)) := by
  have : tellE B l.length (offsB l) = errV B l.length (offsB l) := by rw [tellE, if_neg h]
  rw [nextV, this, if_neg h]
theorem nextV_clash {B : Blk} {l : List Int} (h : errV B l.length (offsB l) = 0) (h2 : (pairsV B).length = 0) : nextV B l = ((0, 0), 10) := by
  have : tellE B l.length (offsB l) = 10 := by rw [tellE, if_pos h, if_pos h2]
  rw [nextV, this, if_neg (by decide)]
theorem nextV_ok {B : Blk} {l : List Int} (h : errV B l.length (offsB l) = 0) (h2 : ¬ (pairsV B).length = 0) : nextV B l = (leastV (fun i => (leftV B.mark (pairsV B) (l.getD i 0) : Nat)) l.length, 0) := by
  have : tellE B l.length (offsB l) = 0 := by rw [tellE, if_pos h, if_neg h2]
  rw [nextV, this, if_pos rfl]
theorem leastV_congr {f g : Nat → Int} : ∀ {n : Nat}, (∀ i, i < n → f i = g i) → leastV f n = leastV g n
  | 0, _ => rfl
  | n + 1, h => by rw [leastV, leastV, leastV_congr (n := n) fun i hi => h i (by omega), h n (by omega)]
def intL (m : Nat) (og : Nat → List SV) : List Int := (List.range m).map (intAt og)
def nextS (x : (Int × Int) × Int) : SV := .tup [.si .i64 x.1.1, .si .i64 x.1.2, .si .i64 x.2]
def c35 : Ct := fun fr args H =>
  match args with
  | [.agg [.si .i64 mk, .si .i64 l1, .si .i64 l2, .si .i64 c1, .si .i64 c2, .sl id], .sl oid] => (match sliceOf 4 H id, sliceOf 1 H oid with
    | some (n, get), some (m, og) => some ⟨some (Rds n get ∧ Ints m og ∧ m ≤ 40), none, nextS (nextV ⟨mk, l1, l2, c1, c2, rdL n get⟩ (intL m og)), []⟩
    | _, _ => none)
  | _ => none
theorem c35_mono : CtMono c35 := by
  intro fr args H H' out hH h
  unfold c35 at h ⊢
  split at h
  · split at h
    · rename_i e e'
      simp only [sliceOf_mono hH e, sliceOf_mono hH e']
      exact h
    · cases h
  · cases h
theorem getD_intL {m : Nat} {ov : Nat → Int} {i : Nat} (h : i < m) : ((List.range m).map ov).getD i 0 = ov i := by
  rw [List.getD_eq_getElem?_getD, List.getElem?_map, List.getElem?_range h]
  rfl
theorem offs_any {m : Nat} {ov : Nat → Int} : (decide ((0 : Int) < (m : Int)) && !((List.range m).any fun i => !inB (ov i) (-100) 100)) = offsB ((List.range m).map ov) := by
  unfold offsB
  rw [List.length_map, List.length_range, List.all_map, List.not_any_eq_all_not]
  congr 2
  funext i
  simp
theorem k35 {l : List (Nat × Ct)} (g0 : Good P T l) : COk P 35 c35 := by
  have g := g89 (g67 (g88 (g57 g0)))
  refine cokDM (C := tabC _) g.ok answer_ok Try.func35 (c := code Try.f35) rfl fun fr args H out h hp => ?_
  unfold c35 at h
  split at h
  · rename_i mk l1 l2 c1 c2 id oid
    split at h
    · rename_i n get m og e e'
      cases h
      obtain ⟨hs, hi, hm⟩ : Rds n get ∧ Ints m og ∧ m ≤ 40 := hp
      have hh : Hand H [(id, .ro 4 n fun i => rdC (rdAt get i)), (oid, .ro 1 m fun i => [.si .i64 (intAt og i)])] := hand_mk ⟨sliceOf_piece e fun i hi => by rw [hs i hi]; rfl, sliceOf_piece e' fun i hj => by rw [hi i hj]; rfl, trivial⟩
        (by repeat' (first | exact trivial | (intro i hi; exact ⟨trivial, trivial, trivial, trivial, trivial⟩) | (intro i hi; exact ⟨trivial, trivial⟩) | refine And.intro ?_ ?_)) rfl
      refine ⟨_, [wA mk l1 l2 c1 c2 0, .sl 1], [(0, .ro 4 n fun i => rdC (rdAt get i)), (1, .ro 1 m fun i => [.si .i64 (intAt og i)])], 2, [], rfl, rfl, Nat.le_of_ble_eq_true rfl, hh, rfl, rfl, fun G hG => ?_⟩
      rw [show rdL n get = (List.range n).map (rdAt get) from rfl, show intL m og = (List.range m).map (intAt og) from rfl]
      generalize rdAt get = rd
      generalize intAt og = ov
      obtain ⟨B, hB⟩ : ∃ B : Blk, (⟨mk, l1, l2, c1, c2, (List.range n).map rd⟩ : Blk) = B := ⟨_, rfl⟩
      obtain ⟨L, hL⟩ : ∃ L : List Int, (List.range m).map ov = L := ⟨_, rfl⟩
      have hmkB : B.mark = mk := by rw [← hB]
      have hB' : (⟨mk, l1, l2, c1, c2, rdL n fun i => rdC (rd i)⟩ : Blk) = B := hB
      have hLl : (L.length : Int) = (m : Int) := by rw [← hL]; simp
      have hoa := offs_any (m := m) (ov := ov)
      rw [hL] at hoa
      rw [hB, hL]
      refine fb_defer (g.ok _ _ _) rfl cont_std rfl rfl rfl rfl ?_
      refine drawn_ok (g.ok _ _ _) fol [0,0,2,0,8,24,56,120,120,504,1016,2040,4095,8191,0,32767] [(15, 60)] 16 (by kernel_rfl) ?_
      refine Chk.mk (fun _ => ⟨ints_i _ _, by omega⟩) ?_
      refine Chk.mk (rds_rd _ _) ?_
      refine Br.mk (fun h => ?_) (fun h => ?_)
      · have h : (!decide (errV ⟨mk, l1, l2, c1, c2, rdL n fun i => rdC (rd i)⟩ m (decide ((0 : Int) < (m : Int)) && !((List.range m).any fun i => !inB (ov i) (-100) 100)) = 0)) = true := h
        rw [hB', hoa, ← hLl] at h
        have h : ¬ errV B L.length (offsB L) = 0 := by simpa using h
        rw [nextV_err h]
        refine ⟨.inl rfl, end_noid ⟨⟨rfl, rfl⟩, ⟨rfl, rfl⟩, ⟨rfl, ?_⟩, trivial⟩ rfl rfl ⟨trivial, trivial, trivial⟩⟩
        show errV ⟨mk, l1, l2, c1, c2, rdL n fun i => rdC (rd i)⟩ m (decide ((0 : Int) < (m : Int)) && !((List.range m).any fun i => !inB (ov i) (-100) 100)) = errV B L.length (offsB L)
        rw [hB', hoa, ← hLl]
      · have h : (!decide (errV ⟨mk, l1, l2, c1, c2, rdL n fun i => rdC (rd i)⟩ m (decide ((0 : Int) < (m : Int)) && !((List.range m).any fun i => !inB (ov i) (-100) 100)) = 0)) = false := h
        rw [hB', hoa, ← hLl] at h
        have h : errV B L.length (offsB L) = 0 := by simpa using h
        obtain ⟨q1, q2, q3⟩ := errV_zero h
        have hbb := blk_b q1
        refine Chk.mk ⟨rds_rd _ _, by rw [hB']; exact q1⟩ ?_
        refine Br.mk (fun h2 => ?_) (fun h2 => ?_)
        · have h2 : (!decide ((0 : Int) < ((pairsV ⟨mk, l1, l2, c1, c2, rdL n fun i => rdC (rd i)⟩).length : Int))) = true := h2
          rw [hB'] at h2
          have h2 : (pairsV B).length = 0 := by
            have : ¬ (0 : Int) < ((pairsV B).length : Int) := by simpa using h2
            omega
          rw [nextV_clash h h2]
          exact ⟨.inl rfl, end_noid ⟨⟨rfl, rfl⟩, ⟨rfl, rfl⟩, ⟨rfl, rfl⟩, trivial⟩ rfl rfl ⟨trivial, trivial, trivial⟩⟩
        · have h2 : (!decide ((0 : Int) < ((pairsV ⟨mk, l1, l2, c1, c2, rdL n fun i => rdC (rd i)⟩).length : Int))) = false := h2
          rw [hB'] at h2
          have h2 : ¬ (pairsV B).length = 0 := by
            have : (0 : Int) < ((pairsV B).length : Int) := by simpa using h2
            omega
          have hob : ∀ i, i < m → smB 1000 (ov i) := fun i hi => by
            have : (L.all fun t => inB t (-100) 100) = true := by
              unfold offsB at q3
              simp only [Bool.and_eq_true] at q3
              exact q3.2
            rw [List.all_eq_true] at this
            have := this (ov i) (by rw [← hL]; exact List.mem_map.2 ⟨i, List.mem_range.2 hi, rfl⟩)
            simp only [inB, Bool.and_eq_true, decide_eq_true_eq] at this
            unfold smB; omega
          refine fb_open encP encB (tellM (pairsV B)) 56 (g.ok _ _ _) cont_std rfl encP_key encB_cl (by rw [← hB']; rfl) ?_
          intro hnd ts clock hts
          have hpv : (tsL ts).Perm (pairsV B) := by
            have h3 := hts.map fun x : Pr × Bool => x.1
            rw [tellM_eq (pairs_nodup B), List.map_map, List.map_map] at h3
            simpa [Function.comp_def, tsL] using h3
          have hlen : (decT (encS encP encB ts)).length ≤ 1000 := by
            rw [decT_enc]
            have h1 := hpv.length_eq
            have h2 := pairs_len q1
            unfold tsL at h1
            rw [List.length_map] at h1
            omega
          have hx : ∀ x ∈ decT (encS encP encB ts), smB 1000000 x.1.1.1 ∧ smB 1000 x.1.1.2 := fun x hx => by
            rw [decT_enc] at hx
            have := (pairs_mem.1 (hpv.mem_iff.1 (List.mem_map.2 ⟨x, hx, rfl⟩))).1
            unfold smB; omega
          have hval : leastV (fun i => (leftV mk (tsL (decT (encS encP encB ts))) (ov i) : Nat)) m = leastV (fun i => (leftV B.mark (pairsV B) (L.getD i 0) : Nat)) L.length := by
            have hLn : L.length = m := by omega
            rw [hLn, decT_enc]
            refine leastV_congr fun i hi => ?_
            rw [← hL, getD_intL hi, hmkB, leftV_perm hpv]
          rw [nextV_ok h h2]
          refine Chk.mk ⟨ints_i _ _, by omega, hob, by rw [decT_enc], rds_rd _ _, (by rw [← hmkB]; unfold smB; omega), hlen, hx⟩ ?_
          refine ⟨.inl rfl, end_noid ⟨⟨rfl, ?_⟩, ⟨rfl, ?_⟩, ⟨rfl, rfl⟩, trivial⟩ rfl rfl ⟨trivial, trivial, trivial⟩⟩
          · show (leastV (fun i => (leftV mk (tsL (decT (encS encP encB ts))) (ov i) : Nat)) m).1 = _
            rw [hval]
          · show (leastV (fun i => (leftV mk (tsL (decT (encS encP encB ts))) (ov i) : Nat)) m).2 = _
            rw [hval]
    · cases h
  · cases h
theorem g35 {l : List (Nat × Ct)} (g : Good P T l) : Good P T ((35, c35) :: l) := g.add (k35 g) c35_mono (body_of Try.func35 (c := code Try.f35) rfl (by decide))
end Go.X.W
end
