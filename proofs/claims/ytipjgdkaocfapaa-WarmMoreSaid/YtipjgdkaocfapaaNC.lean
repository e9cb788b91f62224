/- Contracts of the functions that Clash goes through. -/
import Derived.Test.YtipjgdkaocfapaaNB
import Derived.Test.YtipjgdkaocfapaaMD

section
set_option linter.unusedVariables false
set_option linter.unusedSimpArgs false
set_option linter.unusedSectionVars false
/- Warm: is there a truth by the readings of a list alone? -/
set_option linter.unusedVariables false
set_option linter.unusedSimpArgs false
set_option maxRecDepth 10000
set_option maxHeartbeats 4000000
namespace Go.X.W
open Go Go.Proofs Go.X

/-- A block with the readings of a list alone. -/
def subV (B : Blk) (l : List Int) : Blk := ⟨B.mark, B.l1, B.l2, B.c1, B.c2, l.map (rdGet B.rs)⟩
def sub3 (rd : Nat → Rd) (v : Nat → Int) (i q : Nat) : Rd := if q < i then rd (v q).toNat else (0, 0, 0, 0)
theorem sub_eq {mk l1 l2 c1 c2 : Int} {n m : Nat} {rd : Nat → Rd} {v : Nat → Int} (h : ∀ i, i < m → 0 ≤ v i ∧ v i < (n : Int)) :
    subV ⟨mk, l1, l2, c1, c2, (List.range n).map rd⟩ ((List.range m).map v) = ⟨mk, l1, l2, c1, c2, (List.range m).map (sub3 rd v m)⟩ := by
  unfold subV
  congr 1
  rw [List.map_map]
  refine List.map_congr_left fun i hi => ?_
  have hi := List.mem_range.1 hi
  have := h i hi
  simp only [Function.comp, sub3, if_pos hi]
  exact rdGet_map this.1 this.2
def cCan : Ct := fun fr args H =>
  match args with
  | [.sl lid, .sp bx 0] => (match sliceOf 1 H lid, H bx with
    | some (m, og), some (.cells 86 [.sp bid 0]) => (match H bid with
      | some (.cells 138 [.si .i64 mk, .si .i64 l1, .si .i64 l2, .si .i64 c1, .si .i64 c2, .sl id]) => (match sliceOf 4 H id with
        | some (n, get) => some ⟨some (Rds n get ∧ blkOk ⟨mk, l1, l2, c1, c2, rdL n get⟩ = true ∧ Ints m og ∧ m ≤ 40 ∧ ∀ i, i < m → 0 ≤ intAt og i ∧ intAt og i < (n : Int)), none,
            .sb (decide (0 < (pairsV (subV ⟨mk, l1, l2, c1, c2, rdL n get⟩ (intL m og))).length)), []⟩
        | none => none)
      | _ => none)
    | _, _ => none)
  | _ => none
theorem cCan_mono : CtMono cCan := by
  intro fr args H H' out hH h
  unfold cCan at h ⊢
  split at h
  · split at h
    · rename_i e1 e2
      simp only [sliceOf_mono hH e1, hH _ _ e2]
      split at h
      · rename_i e3
        simp only [hH _ _ e3]
        split at h
        · rename_i e4
          simp only [sliceOf_mono hH e4]
          exact h
        · cases h
      · cases h
    · cases h
  · cases h
theorem canS : COk P 93 cCan := by
  have g := g85 (g74 (g107 good0))
  refine cokM (C := tabC _) g.ok Try.func93 (c := code Try.f93) rfl fun fr args H out h hp => ?_
  unfold cCan at h
  split at h
  · rename_i lid bx
    split at h
    · rename_i m og bid e0 e1
      split at h
      · rename_i mk l1 l2 c1 c2 id e2
        split at h
        · rename_i n get e
          cases h
          obtain ⟨hs, hok, hio, hm, hvb⟩ : Rds n get ∧ blkOk ⟨mk, l1, l2, c1, c2, rdL n get⟩ = true ∧ Ints m og ∧ m ≤ 40 ∧ ∀ i, i < m → 0 ≤ intAt og i ∧ intAt og i < (n : Int) := hp
          have hh : Hand H [(bx, .cells 86 [.sp 1 0]), (bid, .cells 138 (bC mk l1 l2 c1 c2 2)), (id, .ro 4 n fun i => rdC (rdAt get i)), (lid, .ro 1 m fun i => [.si .i64 (intAt og i)])] := hand_mk ⟨e1, e2, sliceOf_piece e fun i hi => by rw [hs i hi]; rfl, sliceOf_piece e0 fun i hj => by rw [hio i hj]; rfl, trivial⟩
            (by repeat' (first | exact trivial | (intro i hi; exact ⟨trivial, trivial, trivial, trivial, trivial⟩) | (intro i hi; exact ⟨trivial, trivial⟩) | refine And.intro ?_ ?_ | exact (by decide : (1 : Nat) < 4) | exact (by decide : (2 : Nat) < 4))) rfl
          refine ⟨_, [.sl 3, .sp 0 0], [(0, .cells 86 [.sp 1 0]), (1, .cells 138 (bC mk l1 l2 c1 c2 2)), (2, .ro 4 n fun i => rdC (rdAt get i)), (3, .ro 1 m fun i => [.si .i64 (intAt og i)])], 4, [], rfl, rfl, Nat.le_of_ble_eq_true rfl, hh, rfl, rfl, fun G hG => ?_⟩
          rw [show rdL n get = (List.range n).map (rdAt get) from rfl] at hok ⊢
          rw [show intL m og = (List.range m).map (intAt og) from rfl]
          generalize rdAt get = rd at hok ⊢
          generalize intAt og = v at hvb ⊢
          have hsub : subV ⟨mk, l1, l2, c1, c2, (List.range n).map rd⟩ ((List.range m).map v) = ⟨mk, l1, l2, c1, c2, (List.range m).map (sub3 rd v m)⟩ := sub_eq hvb
          rw [hsub]
          obtain ⟨hmk, hl, hc, hn, hr⟩ := blk_b hok
          simp only at hmk hl hc
          have hn : n ≤ 5 := by simpa using hn
          have hr0 : ∀ i, i < n → rdOk (rd i) = true := fun i hi => hr _ (List.mem_map.2 ⟨i, List.mem_range.2 hi, rfl⟩)
          have hr' : ∀ i, i < m → smB 1000 (sub3 rd v m i).1 ∧ smB 1000 (sub3 rd v m i).2.1 := fun i hi => by
            have h1 := hvb i hi
            have := rdOk_b (hr0 (v i).toNat (by omega))
            unfold sub3
            rw [if_pos hi]
            unfold smB; omega
          refine fb_makeVec m (g.ok _ _ _) cont_std rfl rfl rfl rfl rfl rfl rfl rfl rfl rfl (by decide) (by omega) rfl rfl ?_
          refine loop_okR (g.ok _ _ _) 4 (fun x : {i : Nat // i ≤ m} => ⟨[(1, ⟨[], .sp 0 0⟩), (3, ⟨[], .sp 4 0⟩), (4, ⟨[], .sp 5 0⟩), (5, ⟨[], .sl 6⟩), (14, ⟨[], .sl 3⟩), (15, ⟨[], .si .i64 m⟩), (16, ⟨[], .si .i64 x.1⟩)], [],
            [(6, .vec 41 4 m fun q => rdC (sub3 rd v x.1 q)), (5, .cells 138 (bC mk l1 l2 c1 c2 2)), (4, .cells 4 [.sb false])] ++ [(0, .cells 86 [.sp 1 0]), (1, .cells 138 (bC mk l1 l2 c1 c2 2)), (2, .ro 4 n fun i => rdC (rd i)), (3, .ro 1 m fun i => [.si .i64 (v i)])], 7, []⟩) (fun x => m - x.1) hG ⟨0, Nat.zero_le _⟩ (fun j => j) ?_ ?_
          · refine ⟨?_, ?_, rfl, rfl, rfl, rfl, trivial⟩
            · repeat' (first | exact trivial | exact rfl | refine And.intro ?_ ?_)
            · repeat' (first | exact trivial | exact rfl | (intro i hi; exact ⟨rfl, rfl⟩) | refine And.intro ?_ ?_)
          · rintro ⟨i, hi⟩
            refine Br.mk (fun h => ?_) (fun h => ?_)
            · have h : (i : Int) < (m : Int) := of_decide_eq_true h
              have hvi := hvb i (by omega)
              refine Chk.mk (show (0 : Int) ≤ (i : Int) ∧ (i : Int) < (m : Int) from ⟨by omega, h⟩) ?_
              refine drawn_ok (g.ok _ _ _) fol [0,0,3,0,8,24,56,120,0,0,512,2040,4095] [] 12 (by kernel_rfl) ?_
              refine Chk.mk (show (0 : Int) ≤ (i : Int) ∧ (i : Int) ≤ (m : Int) ∧ (m : Int) ≤ (m : Int) ∧ 0 < m ∧ 0 < 4 from ⟨by omega, by omega, by omega, by omega, by omega⟩) ?_
              refine Chk.mk (show InK .i64 (v i + 1) from ⟨by omega, by omega⟩) ?_
              refine Chk.mk (show (0 : Int) ≤ v i ∧ v i ≤ v i + 1 ∧ v i + 1 ≤ (n : Int) ∧ 0 < n ∧ 0 < 4 from ⟨by omega, by omega, by omega, by omega, by omega⟩) ?_
              refine fb_copyP (o1 := i * 4) (o2 := (v i).toNat * 4) (t1 := 0) (t2 := 0) 6 2 m n i (v i).toNat (m - i) 1 _ _ (fun q => rdC (sub3 rd v (i + 1) q)) (g.ok _ _ _) cont_std rfl rfl rfl rfl rfl rfl rfl rfl rfl rfl rfl ?_ ?_ rfl rfl rfl rfl (by omega) (by omega) (by omega) (by omega) ?_ ?_
              · show some (SV.ss 6 _ (((m : Int) - (i : Int)).toNat) 0) = some (SV.ss 6 _ (m - i) 0)
                congr 2
                omega
              · show some (SV.ss 2 _ ((v i + 1 - v i).toNat) 0) = some (SV.ss 2 _ 1 0)
                congr 2
                omega
              · intro q hq
                show rdC (sub3 rd v (i + 1) q) = if i ≤ q ∧ q < i + min 1 (m - i) then rdC (rd ((v i).toNat + (q - i))) else rdC (sub3 rd v i q)
                unfold sub3
                by_cases hqi : q = i
                · subst hqi
                  rw [if_pos (by omega), if_pos (by omega), Nat.sub_self, Nat.add_zero]
                · rw [if_neg (c := i ≤ q ∧ q < i + min 1 (m - i)) (by omega)]
                  by_cases hlt : q < i
                  · rw [if_pos (by omega), if_pos hlt]
                  · rw [if_neg (by omega), if_neg hlt]
              · refine Chk.mk (show InK .i64 ((i : Int) + 1) from ⟨by omega, by omega⟩) ⟨⟨i + 1, by omega⟩, (fun j => j), ?_, by show m - (i + 1) < m - i; omega⟩
                refine ⟨?_, ?_, rfl, rfl, rfl, rfl, trivial⟩
                · repeat' (first | exact trivial | exact rfl | refine And.intro ?_ ?_)
                · repeat' (first | exact trivial | exact rfl | (intro i hi; exact ⟨rfl, rfl⟩) | refine And.intro ?_ ?_)
            · have h : ¬ (i : Int) < (m : Int) := of_decide_eq_false h
              obtain rfl : i = m := by omega
              have hrd0 : Rds i fun q => rdC (sub3 rd v i q) := rds_rd _ _
              refine Chk.mk hrd0 ?_
              refine rangeFunc_ok (g.ok _ _ _) rfl rfl rfl b106 ?_
              intro fn
              refine callS_exec g.ok Try.func106 (c := code Try.f106) rfl (Nat.le_of_ble_eq_true rfl) fun G2 hG2 => ?_
              refine Chk.mk ⟨hrd0, by omega⟩ ?_
              obtain ⟨q, hq⟩ : ∃ q : Pr → Bool, okP mk ((List.range i).map (sub3 rd v i)) = q := ⟨_, rfl⟩
              refine loop_okR (g.ok _ _ _) 13 (fun z : {t : Int // l1 ≤ t ∧ t ≤ l2 + 1 ∧ rows q l1 c1 c2 t = []} => ⟨[(0, ⟨[], .fy 12⟩), (1, ⟨[], .sp 7 0⟩), (3, ⟨[], .sl 13⟩), (4, ⟨[], .si .i64 z.1⟩)], [],
                [(12, .loop [(3, .sp 4 0)] Try.f93.ntmps fn [39] (rfA (code Try.f93)) (rfB (code Try.f93)) 11 .ready none), (11, .dfr), (13, .ro 4 i fun q => rdC (sub3 rd v i q)), (7, .cells 86 [.sp 5 0]), (5, .cells 138 (bC mk l1 l2 c1 c2 6)), (6, .vec 41 4 i fun q => rdC (sub3 rd v i q)), (4, .cells 4 [.sb false])] ++ [(0, .cells 86 [.sp 1 0]), (1, .cells 138 (bC mk l1 l2 c1 c2 2)), (2, .ro 4 n fun i => rdC (rd i)), (3, .ro 1 i fun i => [.si .i64 (v i)])], 17, []⟩)
                (fun z => (l2 + 1 - z.1).toNat) hG2 ⟨l1, by omega, by omega, rows_first _ _ _ _⟩ (fun j => j) ?_ ?_
              · refine ⟨?_, ?_, rfl, rfl, rfl, rfl, trivial⟩
                · repeat' (first | exact trivial | exact rfl | refine And.intro ?_ ?_)
                · repeat' (first | exact trivial | exact rfl | (intro i hi; exact ⟨rfl, rfl⟩) | refine allV_find ?_ | refine And.intro ?_ ?_)
              · rintro ⟨t, ht1, ht2, ht3⟩
                refine Br.mk (fun h => ?_) (fun h => ?_)
                · replace h : t ≤ l2 := of_decide_eq_true h
                  refine loop_okR (g.ok _ _ _) 13 (fun z : {a : Int // c1 ≤ a ∧ a ≤ c2 + 1 ∧ row q t c1 a = []} => ⟨[(0, ⟨[], .fy 12⟩), (1, ⟨[], .sp 7 0⟩), (3, ⟨[], .sl 13⟩), (4, ⟨[], .si .i64 t⟩), (5, ⟨[], .si .i64 z.1⟩)], [],
                    [(12, .loop [(3, .sp 4 0)] Try.f93.ntmps fn [39] (rfA (code Try.f93)) (rfB (code Try.f93)) 11 .ready none), (11, .dfr), (13, .ro 4 i fun q => rdC (sub3 rd v i q)), (7, .cells 86 [.sp 5 0]), (5, .cells 138 (bC mk l1 l2 c1 c2 6)), (6, .vec 41 4 i fun q => rdC (sub3 rd v i q)), (4, .cells 4 [.sb false])] ++ [(0, .cells 86 [.sp 1 0]), (1, .cells 138 (bC mk l1 l2 c1 c2 2)), (2, .ro 4 n fun i => rdC (rd i)), (3, .ro 1 i fun i => [.si .i64 (v i)])], 17, []⟩)
                    (fun z => (c2 + 1 - z.1).toNat) hG2 ⟨c1, by omega, by omega, row_first _ _ _⟩ (fun j => j) ?_ ?_
                  · refine ⟨?_, ?_, rfl, rfl, rfl, rfl, trivial⟩
                    · repeat' (first | exact trivial | exact rfl | refine And.intro ?_ ?_)
                    · repeat' (first | exact trivial | exact rfl | (intro i hi; exact ⟨rfl, rfl⟩) | refine allV_find ?_ | refine And.intro ?_ ?_)
                  · rintro ⟨a, ha1, ha2, ha3⟩
                    refine Br.mk (fun h2 => ?_) (fun h2 => ?_)
                    · replace h2 : a ≤ c2 := of_decide_eq_true h2
                      refine Chk.mk ⟨hrd0, hrd0, ⟨by omega, by omega⟩, ⟨(show -1000000 ≤ t by omega), (show t ≤ 1000000 by omega)⟩, ⟨(show -1000 ≤ a by omega), (show a ≤ 1000 by omega)⟩, by omega, hr'⟩ ?_
                      have hany := okP_any (n := i) (mk := mk) (x := t) (y := a) (rd := sub3 rd v i)
                      rw [hq] at hany
                      have hrn := row_next (q := q) (n := t) (c1 := c1) (a := a) ha1
                      cases hqa : q (t, a) with
                      | false =>
                        rw [hqa] at hany hrn
                        refine fb_skip 48 true (g.ok _ _ _) cont_std rfl rfl rfl rfl rfl rfl rfl trivial (by show (!((List.range i).any (fun k => !canV mk (t, a) (sub3 rd v i k)))) = !true; rw [hany]; rfl) ?_
                        refine Br.mk (fun h3 => ?_) (fun _ => ?_)
                        · exfalso
                          have h3 : ((!((List.range i).any (fun k => !canV mk (t, a) (sub3 rd v i k)))) && _) = true := h3
                          rw [hany] at h3
                          simp at h3
                        refine Chk.mk (show InK .i64 (a + 1) from ⟨by omega, by omega⟩) ⟨⟨a + 1, by omega, by omega, by rw [hrn, ha3]; rfl⟩, (fun j => j), ?_, (by show (c2 + 1 - (a + 1)).toNat < (c2 + 1 - a).toNat; omega)⟩
                        refine ⟨?_, ?_, rfl, rfl, rfl, rfl, trivial⟩
                        · repeat' (first | exact trivial | exact rfl | refine And.intro ?_ ?_)
                        · repeat' (first | exact trivial | exact rfl | (intro i hi; exact ⟨rfl, rfl⟩) | refine allV_find ?_ | refine And.intro ?_ ?_)
                      | true =>
                        rw [hqa] at hany hrn
                        refine fb_run rfl rfl ⟨trivial, rfl, (by show (!((List.range i).any (fun k => !canV mk (t, a) (sub3 rd v i k)))) = true; rw [hany]; rfl)⟩ ?_
                        refine fb_yield 12 g.ok (g.ok _ _ _) cont_std rfl rfl rfl rfl rfl rfl rfl rfl rfl (by decide) ?_
                        intro G4 r hG4
                        refine Br.mk (fun _ => ?_) (fun h3 => ?_)
                        · have hpos : decide (0 < (pairsV ⟨mk, l1, l2, c1, c2, (List.range i).map (sub3 rd v i)⟩).length) = true := by
                            refine decide_eq_true (List.length_pos_of_mem (a := (t, a)) (pairs_mem.2 ⟨⟨ht1, h, ha1, h2⟩, ?_⟩))
                            show okP mk ((List.range i).map (sub3 rd v i)) (t, a) = true
                            rw [hq, hqa]
                          rw [hpos]
                          exact ⟨.inl rfl, end_noid rfl rfl rfl ⟨⟨rfl, ⟨rfl, rfl⟩, trivial⟩, ⟨rfl, ⟨rfl, rfl⟩, ⟨rfl, rfl⟩, ⟨rfl, rfl⟩, ⟨rfl, rfl⟩, ⟨rfl, rfl⟩, rfl, trivial⟩, trivial, trivial, trivial⟩⟩
                        · exfalso
                          have h3 : ((!((List.range i).any (fun k => !canV mk (t, a) (sub3 rd v i k)))) && true) = false := h3
                          rw [hany] at h3
                          simp at h3
                    · replace h2 : ¬ a ≤ c2 := of_decide_eq_false h2
                      obtain rfl : a = c2 + 1 := by omega
                      refine Chk.mk (show InK .i64 (t + 1) from ⟨by omega, by omega⟩) ⟨⟨t + 1, by omega, by omega, by rw [rows_next ht1, ht3, ha3]; rfl⟩, (fun j => j), ?_, (by show (l2 + 1 - (t + 1)).toNat < (l2 + 1 - t).toNat; omega)⟩
                      refine ⟨?_, ?_, rfl, rfl, rfl, rfl, trivial⟩
                      · repeat' (first | exact trivial | exact rfl | refine And.intro ?_ ?_)
                      · repeat' (first | exact trivial | exact rfl | (intro i hi; exact ⟨rfl, rfl⟩) | refine allV_find ?_ | refine And.intro ?_ ?_)
                · replace h : ¬ t ≤ l2 := of_decide_eq_false h
                  obtain rfl : t = l2 + 1 := by omega
                  have hpos : decide (0 < (pairsV ⟨mk, l1, l2, c1, c2, (List.range i).map (sub3 rd v i)⟩).length) = false := by
                    have : pairsV ⟨mk, l1, l2, c1, c2, (List.range i).map (sub3 rd v i)⟩ = rows q l1 c1 c2 (l2 + 1) := by rw [← hq]; rfl
                    rw [this, ht3]; rfl
                  rw [hpos]
                  exact ⟨.inl rfl, end_noid rfl rfl rfl ⟨⟨rfl, ⟨rfl, rfl⟩, trivial⟩, ⟨rfl, ⟨rfl, rfl⟩, ⟨rfl, rfl⟩, ⟨rfl, rfl⟩, ⟨rfl, rfl⟩, ⟨rfl, rfl⟩, rfl, trivial⟩, trivial, trivial, trivial⟩⟩
        · cases h
      · cases h
    · cases h
  · cases h
theorem b93 : Body P 93 := body_of Try.func93 (c := code Try.f93) rfl (by decide)
theorem g93 {l : List (Nat × Ct)} (g : Good P T l) : Good P T ((93, cCan) :: l) := g.add canS cCan_mono b93
end Go.X.W
end

section
set_option linter.unusedVariables false
set_option linter.unusedSimpArgs false
set_option linter.unusedSectionVars false
/- Warm: Clash goes through the lists of readings. -/
set_option linter.unusedVariables false
set_option linter.unusedSimpArgs false
set_option maxRecDepth 10000
set_option maxHeartbeats 4000000
namespace Go.X.W
open Go Go.Proofs Go.X

def lC (L : List Int) : Nat → List SV := fun i => [.si .i64 (L.getD i 0)]
theorem lC_ints (L : List Int) (m : Nat) : Ints m (lC L) := fun i hi => rfl
theorem lC_list : ∀ (L : List Int), intL L.length (lC L) = L := fun L => by
  unfold intL
  refine List.ext_getElem (by simp) fun i h1 h2 => ?_
  simp only [List.getElem_map, List.getElem_range]
  show L.getD i 0 = L[i]
  rw [List.getD_eq_getElem?_getD, List.getElem?_eq_getElem h2]
  rfl
/-- The bits of a list's first members. -/
def bst (L : List Int) : Nat → Int
  | 0 => 0
  | i + 1 => (((bst L i).toNat ||| (1 * 2 ^ (L.getD i 0).toNat : Int).toNat : Nat) : Int)
theorem bst_b {L : List Int} (h : ∀ x ∈ L, 0 ≤ x ∧ x < 5) : ∀ i, i ≤ L.length → 0 ≤ bst L i ∧ bst L i < 32
  | 0, _ => by simp [bst]
  | i + 1, hi => by
    have ih := bst_b h i (by omega)
    have hx := h (L.getD i 0) (by
      rw [List.getD_eq_getElem?_getD, List.getElem?_eq_getElem (by omega)]
      exact List.getElem_mem _)
    have hp : (1 * 2 ^ (L.getD i 0).toNat : Int).toNat < 2 ^ 5 := by
      rcases (show L.getD i 0 = 0 ∨ L.getD i 0 = 1 ∨ L.getD i 0 = 2 ∨ L.getD i 0 = 3 ∨ L.getD i 0 = 4 by omega) with h | h | h | h | h <;> rw [h] <;> decide
    have := Nat.or_lt_two_pow (n := 5) (x := (bst L i).toNat) (by omega) hp
    simp only [bst]
    omega
def canB (B : Blk) (L : List Int) : Bool := decide (0 < (pairsV (subV B L)).length)
/-- The first list of k more readings below a bound, before those of a list, that has no truth. -/
def onV (B : Blk) : Nat → Nat → List Int → Option (List Int)
  | 0, _, L => if canB B L then none else some L
  | k + 1, below, L => (List.range (below - k)).findSome? fun i => onV B k (k + i) (((k + i : Nat) : Int) :: L)
def onB (B : Blk) (k below : Nat) (L : List Int) : Int := match onV B k below L with
  | none => 0
  | some S => bst S S.length
theorem findS_range {α : Type} {f : Nat → Option α} : ∀ {n i : Nat}, i < n → (∀ j, j < i → f j = none) → (f i).isSome = true → (List.range n).findSome? f = f i
  | n + 1, i, hi, hn, hs => by
    rw [List.range_succ, List.findSome?_append]
    by_cases e : i = n
    · subst e
      have : (List.range i).findSome? f = none := List.findSome?_eq_none_iff.2 fun j hj => hn j (List.mem_range.1 hj)
      rw [this]
      simp
    · rw [findS_range (n := n) (by omega) hn hs]
      cases h : f i with
      | none => rw [h] at hs; cases hs
      | some x => rfl
theorem findS_none {α : Type} {f : Nat → Option α} {n : Nat} (h : ∀ j, j < n → f j = none) : (List.range n).findSome? f = none :=
  List.findSome?_eq_none_iff.2 fun j hj => h j (List.mem_range.1 hj)
abbrev hB (mk l1 l2 c1 c2 : Int) (n : Nat) (rd : Nat → Rd) (bs : Int) (fd : Bool) : List (Nat × HB) :=
  [(11, .cells 139 [.fn (Fn.func 94) [] [.sp 8 0, .sp 9 0, .sp 10 0, .sp 11 0]]), (10, .cells 4 [.sb fd]), (9, .cells 3 [.si .i64 bs]), (8, .cells 135 [.fn (Fn.func 93) [] [.sp 7 0]]), (7, .cells 86 [.sp 3 0]), (3, .cells 138 (bC mk l1 l2 c1 c2 0)), (2, .cells 44 [.si .i64 0]), (1, .cells 36 (bC mk l1 l2 c1 c2 0)), (0, .ro 4 n fun i => rdC (rd i))]
theorem b94 : Body P 94 := body_of Try.func94 (c := code Try.f94) rfl (by decide)
theorem s94_5 {mk l1 l2 c1 c2 : Int} {n : Nat} {rd : Nat → Rd} (hok : blkOk ⟨mk, l1, l2, c1, c2, (List.range n).map rd⟩ = true) (hn : n ≤ 5) {k below : Nat} {kk bb : Int} (hkk : kk = (k : Int)) (hbb : bb = (below : Int)) (hkd : k + 5 ≤ n) (hbn : below ≤ n) {L : List Int} (hL : L.length = 5) (hLb : ∀ x ∈ L, 0 ≤ x ∧ x < (n : Int))
    {g0 g1 g2 g3 g4 : List Int}
    {Rv : SV → List (Nat × HB) → Nat → Prop} {Rp : List PanicEntry → List (Nat × HB) → Nat → Prop}
    (hRv : Rv (.sb (onV ⟨mk, l1, l2, c1, c2, (List.range n).map rd⟩ k below L).isSome) ([(22, .vec 3 1 5 (lC L)), (20, .vec 3 1 4 (lC g4)), (18, .vec 3 1 3 (lC g3)), (16, .vec 3 1 2 (lC g2)), (14, .vec 3 1 1 (lC g1)), (12, .vec 3 1 0 (lC g0))] ++ hB mk l1 l2 c1 c2 n rd (onB ⟨mk, l1, l2, c1, c2, (List.range n).map rd⟩ k below L) (onV ⟨mk, l1, l2, c1, c2, (List.range n).map rd⟩ k below L).isSome) 23) :
    CallS P 94 [.si .i64 kk, .si .i64 bb, .sl 22, .sp 8 0, .sp 9 0, .sp 10 0, .sp 11 0] ([(22, .vec 3 1 5 (lC L)), (20, .vec 3 1 4 (lC g4)), (18, .vec 3 1 3 (lC g3)), (16, .vec 3 1 2 (lC g2)), (14, .vec 3 1 1 (lC g1)), (12, .vec 3 1 0 (lC g0))] ++ hB mk l1 l2 c1 c2 n rd 0 false) 23 Rv Rp := by
  have g := g93 good0
  refine callS_to g.ok Try.func94 (c := code Try.f94) rfl (Nat.le_of_ble_eq_true rfl) _ _ _ (fun G2 hG2 => ?_) hRv
  obtain ⟨B, hB'⟩ : ∃ B : Blk, (⟨mk, l1, l2, c1, c2, (List.range n).map rd⟩ : Blk) = B := ⟨_, rfl⟩
  have hB2 : (⟨mk, l1, l2, c1, c2, rdL n fun i => rdC (rd i)⟩ : Blk) = B := hB'
  rw [hB'] at hok ⊢
  have hnth : ∀ i, i < 5 → 0 ≤ L.getD i 0 ∧ L.getD i 0 < (n : Int) := fun i hi => by
    refine hLb _ ?_
    rw [List.getD_eq_getElem?_getD, List.getElem?_eq_getElem (by omega)]
    exact List.getElem_mem _
  subst hkk hbb
  refine Br.mk (fun h => ?_) (fun h => ?_)
  · replace h : (k : Int) = 0 := of_decide_eq_true h
    obtain rfl : k = 0 := by omega
    have hlc : intL 5 (lC L) = L := by rw [← hL]; exact lC_list L
    refine Chk.mk ⟨rds_rd _ _, by rw [hB2]; exact hok, lC_ints _ _, by omega, hnth⟩ ?_
    refine Br.mk (fun h2 => ?_) (fun h2 => ?_)
    · have h2 : decide (0 < (pairsV (subV ⟨mk, l1, l2, c1, c2, rdL n fun i => rdC (rd i)⟩ (intL 5 (lC L)))).length) = true := h2
      rw [hlc, hB2] at h2
      have hon : onV B 0 below L = none := by rw [onV, canB, h2]; rfl
      have honb : onB B 0 below L = 0 := by rw [onB, hon]
      rw [hon, honb]
      refine ⟨fun j => j, ?_, rfl, rfl, rfl, rfl, rfl⟩
      repeat' (first | exact trivial | exact rfl | (intro i hi; exact ⟨rfl, rfl⟩) | refine And.intro ?_ ?_)
    · have h2 : decide (0 < (pairsV (subV ⟨mk, l1, l2, c1, c2, rdL n fun i => rdC (rd i)⟩ (intL 5 (lC L)))).length) = false := h2
      rw [hlc, hB2] at h2
      have hon : onV B 0 below L = some L := by rw [onV, canB, h2]; rfl
      have honb : onB B 0 below L = bst L 5 := by rw [onB, hon, ← hL]
      rw [hon, honb]
      have hbb : ∀ i, i ≤ 5 → 0 ≤ bst L i ∧ bst L i < 32 := fun i hi => bst_b (fun x hx => by have := hLb x hx; omega) i (by omega)
      refine loop_ok (g.ok _ _ _) (fun x : {i : Nat // i ≤ 5} => ⟨[(4, ⟨[], .sp 9 0⟩), (5, ⟨[], .sp 10 0⟩), (19, ⟨[], .sl 22⟩), (20, ⟨[], .si .i64 (5 : Nat)⟩), (21, ⟨[], .si .i64 (x.1 : Nat)⟩)], [],
        [(22, .vec 3 1 5 (lC L)), (20, .vec 3 1 4 (lC g4)), (18, .vec 3 1 3 (lC g3)), (16, .vec 3 1 2 (lC g2)), (14, .vec 3 1 1 (lC g1)), (12, .vec 3 1 0 (lC g0))] ++ hB mk l1 l2 c1 c2 n rd (bst L x.1) false, 23, []⟩) (fun x => 5 - x.1) (fun _ j hj => hG2 j hj) ⟨0, Nat.zero_le _⟩ ?_ ?_
      · refine ⟨?_, ?_, rfl, rfl, rfl⟩
        · repeat' (first | exact trivial | exact rfl | refine And.intro ?_ ?_)
        · repeat' (first | exact trivial | exact rfl | (intro i hi; exact rfl) | refine And.intro ?_ ?_)
      · rintro ⟨i, hi⟩
        refine Br.mk (fun h3 => ?_) (fun h3 => ?_)
        · have h3 : (i : Int) < ((5 : Nat) : Int) := of_decide_eq_true h3
          have hb1 := hbb i hi
          have hb2 := hbb (i + 1) (by omega)
          have hx := hnth i (by omega)
          have hp : (0 : Int) ≤ 1 * 2 ^ (L.getD i 0).toNat ∧ (1 : Int) * 2 ^ (L.getD i 0).toNat ≤ 16 := by
            rcases (show L.getD i 0 = 0 ∨ L.getD i 0 = 1 ∨ L.getD i 0 = 2 ∨ L.getD i 0 = 3 ∨ L.getD i 0 = 4 by omega) with h | h | h | h | h <;> rw [h] <;> decide
          refine Chk.mk (show (0 : Int) ≤ (i : Int) ∧ (i : Int) < ((5 : Nat) : Int) from ⟨by omega, h3⟩) ?_
          refine drawn_ok (g.ok _ _ _) fol [0,0,2,7,15] [(4, 9)] 5 (by kernel_rfl) ?_
          refine Chk.mk (show 0 ≤ L.getD i 0 ∧ (L.getD i 0).toNat ≤ 64 ∧ InK .i64 (1 * 2 ^ (L.getD i 0).toNat) from ⟨by omega, by omega, by have := hp; exact ⟨by omega, by omega⟩⟩) ?_
          refine Chk.mk (show 0 ≤ bst L i ∧ (0 : Int) ≤ 1 * 2 ^ (L.getD i 0).toNat ∧ InK .i64 (bst L i) ∧ InK .i64 (1 * 2 ^ (L.getD i 0).toNat) from ⟨by omega, by omega, ⟨by omega, by omega⟩, by have := hp; exact ⟨by omega, by omega⟩⟩) ?_
          refine Chk.mk (show InK .i64 ((i : Int) + 1) from ⟨by omega, by omega⟩) ⟨⟨i + 1, by omega⟩, ?_, (by show 5 - (i + 1) < 5 - i; omega)⟩
          refine ⟨?_, ?_, rfl, rfl, rfl⟩
          · repeat' (first | exact trivial | exact rfl | refine And.intro ?_ ?_)
          · repeat' (first | exact trivial | exact rfl | (intro i hi; exact rfl) | refine And.intro ?_ ?_)
        · have h3 : ¬ (i : Int) < ((5 : Nat) : Int) := of_decide_eq_false h3
          obtain rfl : i = 5 := by omega
          refine ⟨fun j => j, ?_, rfl, rfl, rfl, rfl, rfl⟩
          repeat' (first | exact trivial | exact rfl | (intro i hi; exact ⟨rfl, rfl⟩) | refine And.intro ?_ ?_)
  · replace h : ¬ (k : Int) = 0 := of_decide_eq_false h
    omega
theorem s94_4 {mk l1 l2 c1 c2 : Int} {n : Nat} {rd : Nat → Rd} (hok : blkOk ⟨mk, l1, l2, c1, c2, (List.range n).map rd⟩ = true) (hn : n ≤ 5) {k below : Nat} {kk bb : Int} (hkk : kk = (k : Int)) (hbb : bb = (below : Int)) (hkd : k + 4 ≤ n) (hbn : below ≤ n) {L : List Int} (hL : L.length = 4) (hLb : ∀ x ∈ L, 0 ≤ x ∧ x < (n : Int))
    {g0 g1 g2 g3 : List Int}
    {Rv : SV → List (Nat × HB) → Nat → Prop} {Rp : List PanicEntry → List (Nat × HB) → Nat → Prop}
    (hRv : Rv (.sb (onV ⟨mk, l1, l2, c1, c2, (List.range n).map rd⟩ k below L).isSome) ([(20, .vec 3 1 4 (lC L)), (18, .vec 3 1 3 (lC g3)), (16, .vec 3 1 2 (lC g2)), (14, .vec 3 1 1 (lC g1)), (12, .vec 3 1 0 (lC g0))] ++ hB mk l1 l2 c1 c2 n rd (onB ⟨mk, l1, l2, c1, c2, (List.range n).map rd⟩ k below L) (onV ⟨mk, l1, l2, c1, c2, (List.range n).map rd⟩ k below L).isSome) 21) :
    CallS P 94 [.si .i64 kk, .si .i64 bb, .sl 20, .sp 8 0, .sp 9 0, .sp 10 0, .sp 11 0] ([(20, .vec 3 1 4 (lC L)), (18, .vec 3 1 3 (lC g3)), (16, .vec 3 1 2 (lC g2)), (14, .vec 3 1 1 (lC g1)), (12, .vec 3 1 0 (lC g0))] ++ hB mk l1 l2 c1 c2 n rd 0 false) 21 Rv Rp := by
  have g := g93 good0
  refine callS_to g.ok Try.func94 (c := code Try.f94) rfl (Nat.le_of_ble_eq_true rfl) _ _ _ (fun G2 hG2 => ?_) hRv
  obtain ⟨B, hB'⟩ : ∃ B : Blk, (⟨mk, l1, l2, c1, c2, (List.range n).map rd⟩ : Blk) = B := ⟨_, rfl⟩
  have hB2 : (⟨mk, l1, l2, c1, c2, rdL n fun i => rdC (rd i)⟩ : Blk) = B := hB'
  rw [hB'] at hok ⊢
  have hnth : ∀ i, i < 4 → 0 ≤ L.getD i 0 ∧ L.getD i 0 < (n : Int) := fun i hi => by
    refine hLb _ ?_
    rw [List.getD_eq_getElem?_getD, List.getElem?_eq_getElem (by omega)]
    exact List.getElem_mem _
  subst hkk hbb
  refine Br.mk (fun h => ?_) (fun h => ?_)
  · replace h : (k : Int) = 0 := of_decide_eq_true h
    obtain rfl : k = 0 := by omega
    have hlc : intL 4 (lC L) = L := by rw [← hL]; exact lC_list L
    refine Chk.mk ⟨rds_rd _ _, by rw [hB2]; exact hok, lC_ints _ _, by omega, hnth⟩ ?_
    refine Br.mk (fun h2 => ?_) (fun h2 => ?_)
    · have h2 : decide (0 < (pairsV (subV ⟨mk, l1, l2, c1, c2, rdL n fun i => rdC (rd i)⟩ (intL 4 (lC L)))).length) = true := h2
      rw [hlc, hB2] at h2
      have hon : onV B 0 below L = none := by rw [onV, canB, h2]; rfl
      have honb : onB B 0 below L = 0 := by rw [onB, hon]
      rw [hon, honb]
      refine ⟨fun j => j, ?_, rfl, rfl, rfl, rfl, rfl⟩
      repeat' (first | exact trivial | exact rfl | (intro i hi; exact ⟨rfl, rfl⟩) | refine And.intro ?_ ?_)
    · have h2 : decide (0 < (pairsV (subV ⟨mk, l1, l2, c1, c2, rdL n fun i => rdC (rd i)⟩ (intL 4 (lC L)))).length) = false := h2
      rw [hlc, hB2] at h2
      have hon : onV B 0 below L = some L := by rw [onV, canB, h2]; rfl
      have honb : onB B 0 below L = bst L 4 := by rw [onB, hon, ← hL]
      rw [hon, honb]
      have hbb : ∀ i, i ≤ 4 → 0 ≤ bst L i ∧ bst L i < 32 := fun i hi => bst_b (fun x hx => by have := hLb x hx; omega) i (by omega)
      refine loop_ok (g.ok _ _ _) (fun x : {i : Nat // i ≤ 4} => ⟨[(4, ⟨[], .sp 9 0⟩), (5, ⟨[], .sp 10 0⟩), (19, ⟨[], .sl 20⟩), (20, ⟨[], .si .i64 (4 : Nat)⟩), (21, ⟨[], .si .i64 (x.1 : Nat)⟩)], [],
        [(20, .vec 3 1 4 (lC L)), (18, .vec 3 1 3 (lC g3)), (16, .vec 3 1 2 (lC g2)), (14, .vec 3 1 1 (lC g1)), (12, .vec 3 1 0 (lC g0))] ++ hB mk l1 l2 c1 c2 n rd (bst L x.1) false, 21, []⟩) (fun x => 4 - x.1) (fun _ j hj => hG2 j hj) ⟨0, Nat.zero_le _⟩ ?_ ?_
      · refine ⟨?_, ?_, rfl, rfl, rfl⟩
        · repeat' (first | exact trivial | exact rfl | refine And.intro ?_ ?_)
        · repeat' (first | exact trivial | exact rfl | (intro i hi; exact rfl) | refine And.intro ?_ ?_)
      · rintro ⟨i, hi⟩
        refine Br.mk (fun h3 => ?_) (fun h3 => ?_)
        · have h3 : (i : Int) < ((4 : Nat) : Int) := of_decide_eq_true h3
          have hb1 := hbb i hi
          have hb2 := hbb (i + 1) (by omega)
          have hx := hnth i (by omega)
          have hp : (0 : Int) ≤ 1 * 2 ^ (L.getD i 0).toNat ∧ (1 : Int) * 2 ^ (L.getD i 0).toNat ≤ 16 := by
            rcases (show L.getD i 0 = 0 ∨ L.getD i 0 = 1 ∨ L.getD i 0 = 2 ∨ L.getD i 0 = 3 ∨ L.getD i 0 = 4 by omega) with h | h | h | h | h <;> rw [h] <;> decide
          refine Chk.mk (show (0 : Int) ≤ (i : Int) ∧ (i : Int) < ((4 : Nat) : Int) from ⟨by omega, h3⟩) ?_
          refine drawn_ok (g.ok _ _ _) fol [0,0,2,7,15] [(4, 9)] 5 (by kernel_rfl) ?_
          refine Chk.mk (show 0 ≤ L.getD i 0 ∧ (L.getD i 0).toNat ≤ 64 ∧ InK .i64 (1 * 2 ^ (L.getD i 0).toNat) from ⟨by omega, by omega, by have := hp; exact ⟨by omega, by omega⟩⟩) ?_
          refine Chk.mk (show 0 ≤ bst L i ∧ (0 : Int) ≤ 1 * 2 ^ (L.getD i 0).toNat ∧ InK .i64 (bst L i) ∧ InK .i64 (1 * 2 ^ (L.getD i 0).toNat) from ⟨by omega, by omega, ⟨by omega, by omega⟩, by have := hp; exact ⟨by omega, by omega⟩⟩) ?_
          refine Chk.mk (show InK .i64 ((i : Int) + 1) from ⟨by omega, by omega⟩) ⟨⟨i + 1, by omega⟩, ?_, (by show 4 - (i + 1) < 4 - i; omega)⟩
          refine ⟨?_, ?_, rfl, rfl, rfl⟩
          · repeat' (first | exact trivial | exact rfl | refine And.intro ?_ ?_)
          · repeat' (first | exact trivial | exact rfl | (intro i hi; exact rfl) | refine And.intro ?_ ?_)
        · have h3 : ¬ (i : Int) < ((4 : Nat) : Int) := of_decide_eq_false h3
          obtain rfl : i = 4 := by omega
          refine ⟨fun j => j, ?_, rfl, rfl, rfl, rfl, rfl⟩
          repeat' (first | exact trivial | exact rfl | (intro i hi; exact ⟨rfl, rfl⟩) | refine And.intro ?_ ?_)
  · replace h : ¬ (k : Int) = 0 := of_decide_eq_false h
    obtain ⟨k, rfl⟩ : ∃ j, k = j + 1 := ⟨k - 1, by omega⟩
    have hk1 : ((k + 1 : Nat) : Int) - 1 = (k : Int) := by omega
    refine Chk.mk (show InK .i64 (((k + 1 : Nat) : Int) - 1) from ⟨by omega, by omega⟩) ?_
    refine loop_ok (g.ok _ _ _) (fun x : {i : Nat // ∀ j, j < i → onV B k (k + j) (((k + j : Nat) : Int) :: L) = none} => ⟨[(0, ⟨[], .si .i64 ((k + 1 : Nat) : Int)⟩), (1, ⟨[], .si .i64 (below : Int)⟩), (2, ⟨[], .sl 20⟩), (6, ⟨[], .sp 11 0⟩), (13, ⟨[], .si .i64 ((k + x.1 : Nat) : Int)⟩)], [],
      [(20, .vec 3 1 4 (lC L)), (18, .vec 3 1 3 (lC g3)), (16, .vec 3 1 2 (lC g2)), (14, .vec 3 1 1 (lC g1)), (12, .vec 3 1 0 (lC g0))] ++ hB mk l1 l2 c1 c2 n rd 0 false, 21, []⟩) (fun x => below - (k + x.1)) (fun _ j hj => hG2 j hj) ⟨0, fun j hj => by omega⟩ ?_ ?_
    · refine ⟨?_, ?_, rfl, rfl, rfl⟩
      · repeat' (first | exact trivial | exact rfl | (show ((k + 1 : Nat) : Int) - 1 = ((k + 0 : Nat) : Int); omega) | refine And.intro ?_ ?_)
      · repeat' (first | exact trivial | exact rfl | (intro i hi; exact rfl) | refine And.intro ?_ ?_)
    · rintro ⟨i, hi⟩
      refine Br.mk (fun h3 => ?_) (fun h3 => ?_)
      · have h3 : ((k + i : Nat) : Int) < (below : Int) := of_decide_eq_true h3
        refine any_region (by kernel_rfl) ?_
        show AnyS _ _ 9 _ _ _
        refine any_take 1 (g.ok _ _ _) rfl rfl rfl rfl rfl rfl rfl (by kernel_rfl) (by kernel_rfl) (by kernel_rfl) ?_
        refine any_take 2 (g.ok _ _ _) rfl rfl rfl rfl rfl rfl rfl (by kernel_rfl) (by kernel_rfl) (by kernel_rfl) ?_
        refine Chk.mk (show InK .i64 (((k + 1 : Nat) : Int) - 1) from ⟨by omega, by omega⟩) ?_
        refine any_take 3 (g.ok _ _ _) rfl rfl rfl rfl rfl rfl rfl (by kernel_rfl) (by kernel_rfl) (by kernel_rfl) ?_
        refine any_take 4 (g.ok _ _ _) rfl rfl rfl rfl rfl rfl rfl (by kernel_rfl) (by kernel_rfl) (by kernel_rfl) ?_
        refine any_take 6 (g.ok _ _ _) rfl rfl rfl rfl rfl rfl rfl (by kernel_rfl) (by kernel_rfl) (by kernel_rfl) ?_
        have hcall : True := trivial
        refine any_step [0, 5] (g.ok _ _ _) (by kernel_rfl) (by decide) ⟨?_, ?_, trivial⟩
        · skip
          refine any_step [5] (g.ok _ _ _) (by kernel_rfl) (by decide) ⟨?_, trivial⟩
          refine any_step [7] (g.ok _ _ _) (by kernel_rfl) (by decide) ⟨?_, trivial⟩
          refine fb_row 21 3 1 1 [.si .i64 ((k + i : Nat) : Int)] (fun _ => [.si .i64 ((k + i : Nat) : Int)]) rfl (fun q hq => ?_) ?_
          · obtain rfl : q = 0 := by omega
            rfl
          refine fb_append (Te := 0) 21 20 1 4 (fun _ => [.si .i64 ((k + i : Nat) : Int)]) (lC L) (lC (((k + i : Nat) : Int) :: L)) (g.ok _ _ _) cont_any rfl rfl rfl rfl rfl rfl rfl rfl rfl rfl rfl rfl (Nat.le_of_ble_eq_true rfl) (Nat.le_of_ble_eq_true rfl) rfl rfl rfl rfl (by decide) (fun q hq => ?_) ?_
          · cases q with
            | zero => rfl
            | succ q => rfl
          refine any_step [8] (g.ok _ _ _) (by kernel_rfl) (by decide) ⟨?_, trivial⟩
          refine fb_call (g.ok _ _ _) cont_any rfl rfl rfl rfl ?_
          refine ⟨b94, ?_⟩
          refine callS_sub ([(22, .vec 3 1 5 (lC (((k + i : Nat) : Int) :: L))), (20, .vec 3 1 4 (lC L)), (18, .vec 3 1 3 (lC g3)), (16, .vec 3 1 2 (lC g2)), (14, .vec 3 1 1 (lC g1)), (12, .vec 3 1 0 (lC g0))] ++ hB mk l1 l2 c1 c2 n rd 0 false) ?_ ?_
          · repeat' (first | exact trivial | exact rfl | (intro i hi; exact ⟨rfl, rfl⟩) | refine And.intro ?_ ?_)
          refine s94_5 (k := k) (below := k + i) (by rw [hB']; exact hok) hn (by omega) rfl (by omega) (by omega) (by simp [hL]) (fun x hx => ?_) ?_
          · rcases List.mem_cons.1 hx with rfl | hx
            · omega
            · exact hLb x hx
          rw [hB']
          refine any_done (by kernel_rfl) ?_
          refine Br.mk (fun h4 => ?_) (fun h4 => ?_)
          · have h4 : (onV B k (k + i) (((k + i : Nat) : Int) :: L)).isSome = true := h4
            have hv : onV B (k + 1) below L = onV B k (k + i) (((k + i : Nat) : Int) :: L) := findS_range (f := fun i => onV B k (k + i) (((k + i : Nat) : Int) :: L)) (by omega) hi h4
            have hb : onB B (k + 1) below L = onB B k (k + i) (((k + i : Nat) : Int) :: L) := by rw [onB, onB, hv]
            rw [hv, hb, h4]
            refine ⟨fun j => j, ?_, rfl, rfl, rfl, rfl, rfl⟩
            repeat' (first | exact trivial | exact rfl | (intro i hi; exact ⟨rfl, rfl⟩) | refine And.intro ?_ ?_)
          · have h4 : (onV B k (k + i) (((k + i : Nat) : Int) :: L)).isSome = false := h4
            have hv : onV B k (k + i) (((k + i : Nat) : Int) :: L) = none := by simpa using h4
            have hb : onB B k (k + i) (((k + i : Nat) : Int) :: L) = 0 := by rw [onB, hv]
            rw [hv, hb]
            refine Chk.mk (show InK .i64 (((k + i : Nat) : Int) + 1) from ⟨by omega, by omega⟩) ⟨⟨i + 1, fun j hj => ?_⟩, ?_, (by show below - (k + (i + 1)) < below - (k + i); omega)⟩
            · rcases (show j < i ∨ j = i by omega) with hj | rfl
              · exact hi j hj
              · exact hv
            refine ⟨?_, ?_, rfl, rfl, rfl⟩
            · repeat' (first | exact trivial | exact rfl | (show ((k + i : Nat) : Int) + 1 = ((k + (i + 1) : Nat) : Int); omega) | refine And.intro ?_ ?_)
            · repeat' (first | exact trivial | exact rfl | (intro i hi; exact rfl) | refine And.intro ?_ ?_)
        · skip
          refine any_step [0, 7] (g.ok _ _ _) (by kernel_rfl) (by decide) ⟨?_, ?_, trivial⟩
          · skip
            refine any_step [7] (g.ok _ _ _) (by kernel_rfl) (by decide) ⟨?_, trivial⟩
            refine fb_row 21 3 1 1 [.si .i64 ((k + i : Nat) : Int)] (fun _ => [.si .i64 ((k + i : Nat) : Int)]) rfl (fun q hq => ?_) ?_
            · obtain rfl : q = 0 := by omega
              rfl
            refine fb_append (Te := 0) 21 20 1 4 (fun _ => [.si .i64 ((k + i : Nat) : Int)]) (lC L) (lC (((k + i : Nat) : Int) :: L)) (g.ok _ _ _) cont_any rfl rfl rfl rfl rfl rfl rfl rfl rfl rfl rfl rfl (Nat.le_of_ble_eq_true rfl) (Nat.le_of_ble_eq_true rfl) rfl rfl rfl rfl (by decide) (fun q hq => ?_) ?_
            · cases q with
              | zero => rfl
              | succ q => rfl
            refine any_step [8] (g.ok _ _ _) (by kernel_rfl) (by decide) ⟨?_, trivial⟩
            refine fb_call (g.ok _ _ _) cont_any rfl rfl rfl rfl ?_
            refine ⟨b94, ?_⟩
            refine callS_sub ([(22, .vec 3 1 5 (lC (((k + i : Nat) : Int) :: L))), (20, .vec 3 1 4 (lC L)), (18, .vec 3 1 3 (lC g3)), (16, .vec 3 1 2 (lC g2)), (14, .vec 3 1 1 (lC g1)), (12, .vec 3 1 0 (lC g0))] ++ hB mk l1 l2 c1 c2 n rd 0 false) ?_ ?_
            · repeat' (first | exact trivial | exact rfl | (intro i hi; exact ⟨rfl, rfl⟩) | refine And.intro ?_ ?_)
            refine s94_5 (k := k) (below := k + i) (by rw [hB']; exact hok) hn (by omega) rfl (by omega) (by omega) (by simp [hL]) (fun x hx => ?_) ?_
            · rcases List.mem_cons.1 hx with rfl | hx
              · omega
              · exact hLb x hx
            rw [hB']
            refine any_done (by kernel_rfl) ?_
            refine Br.mk (fun h4 => ?_) (fun h4 => ?_)
            · have h4 : (onV B k (k + i) (((k + i : Nat) : Int) :: L)).isSome = true := h4
              have hv : onV B (k + 1) below L = onV B k (k + i) (((k + i : Nat) : Int) :: L) := findS_range (f := fun i => onV B k (k + i) (((k + i : Nat) : Int) :: L)) (by omega) hi h4
              have hb : onB B (k + 1) below L = onB B k (k + i) (((k + i : Nat) : Int) :: L) := by rw [onB, onB, hv]
              rw [hv, hb, h4]
              refine ⟨fun j => j, ?_, rfl, rfl, rfl, rfl, rfl⟩
              repeat' (first | exact trivial | exact rfl | (intro i hi; exact ⟨rfl, rfl⟩) | refine And.intro ?_ ?_)
            · have h4 : (onV B k (k + i) (((k + i : Nat) : Int) :: L)).isSome = false := h4
              have hv : onV B k (k + i) (((k + i : Nat) : Int) :: L) = none := by simpa using h4
              have hb : onB B k (k + i) (((k + i : Nat) : Int) :: L) = 0 := by rw [onB, hv]
              rw [hv, hb]
              refine Chk.mk (show InK .i64 (((k + i : Nat) : Int) + 1) from ⟨by omega, by omega⟩) ⟨⟨i + 1, fun j hj => ?_⟩, ?_, (by show below - (k + (i + 1)) < below - (k + i); omega)⟩
              · rcases (show j < i ∨ j = i by omega) with hj | rfl
                · exact hi j hj
                · exact hv
              refine ⟨?_, ?_, rfl, rfl, rfl⟩
              · repeat' (first | exact trivial | exact rfl | (show ((k + i : Nat) : Int) + 1 = ((k + (i + 1) : Nat) : Int); omega) | refine And.intro ?_ ?_)
              · repeat' (first | exact trivial | exact rfl | (intro i hi; exact rfl) | refine And.intro ?_ ?_)
          · skip
            refine fb_row 21 3 1 1 [.si .i64 ((k + i : Nat) : Int)] (fun _ => [.si .i64 ((k + i : Nat) : Int)]) rfl (fun q hq => ?_) ?_
            · obtain rfl : q = 0 := by omega
              rfl
            refine fb_append (Te := 0) 21 20 1 4 (fun _ => [.si .i64 ((k + i : Nat) : Int)]) (lC L) (lC (((k + i : Nat) : Int) :: L)) (g.ok _ _ _) cont_any rfl rfl rfl rfl rfl rfl rfl rfl rfl rfl rfl rfl (Nat.le_of_ble_eq_true rfl) (Nat.le_of_ble_eq_true rfl) rfl rfl rfl rfl (by decide) (fun q hq => ?_) ?_
            · cases q with
              | zero => rfl
              | succ q => rfl
            refine any_step [0] (g.ok _ _ _) (by kernel_rfl) (by decide) ⟨?_, trivial⟩
            refine any_step [8] (g.ok _ _ _) (by kernel_rfl) (by decide) ⟨?_, trivial⟩
            refine fb_call (g.ok _ _ _) cont_any rfl rfl rfl rfl ?_
            refine ⟨b94, ?_⟩
            refine callS_sub ([(22, .vec 3 1 5 (lC (((k + i : Nat) : Int) :: L))), (20, .vec 3 1 4 (lC L)), (18, .vec 3 1 3 (lC g3)), (16, .vec 3 1 2 (lC g2)), (14, .vec 3 1 1 (lC g1)), (12, .vec 3 1 0 (lC g0))] ++ hB mk l1 l2 c1 c2 n rd 0 false) ?_ ?_
            · repeat' (first | exact trivial | exact rfl | (intro i hi; exact ⟨rfl, rfl⟩) | refine And.intro ?_ ?_)
            refine s94_5 (k := k) (below := k + i) (by rw [hB']; exact hok) hn (by omega) rfl (by omega) (by omega) (by simp [hL]) (fun x hx => ?_) ?_
            · rcases List.mem_cons.1 hx with rfl | hx
              · omega
              · exact hLb x hx
            rw [hB']
            refine any_done (by kernel_rfl) ?_
            refine Br.mk (fun h4 => ?_) (fun h4 => ?_)
            · have h4 : (onV B k (k + i) (((k + i : Nat) : Int) :: L)).isSome = true := h4
              have hv : onV B (k + 1) below L = onV B k (k + i) (((k + i : Nat) : Int) :: L) := findS_range (f := fun i => onV B k (k + i) (((k + i : Nat) : Int) :: L)) (by omega) hi h4
              have hb : onB B (k + 1) below L = onB B k (k + i) (((k + i : Nat) : Int) :: L) := by rw [onB, onB, hv]
              rw [hv, hb, h4]
              refine ⟨fun j => j, ?_, rfl, rfl, rfl, rfl, rfl⟩
              repeat' (first | exact trivial | exact rfl | (intro i hi; exact ⟨rfl, rfl⟩) | refine And.intro ?_ ?_)
            · have h4 : (onV B k (k + i) (((k + i : Nat) : Int) :: L)).isSome = false := h4
              have hv : onV B k (k + i) (((k + i : Nat) : Int) :: L) = none := by simpa using h4
              have hb : onB B k (k + i) (((k + i : Nat) : Int) :: L) = 0 := by rw [onB, hv]
              rw [hv, hb]
              refine Chk.mk (show InK .i64 (((k + i : Nat) : Int) + 1) from ⟨by omega, by omega⟩) ⟨⟨i + 1, fun j hj => ?_⟩, ?_, (by show below - (k + (i + 1)) < below - (k + i); omega)⟩
              · rcases (show j < i ∨ j = i by omega) with hj | rfl
                · exact hi j hj
                · exact hv
              refine ⟨?_, ?_, rfl, rfl, rfl⟩
              · repeat' (first | exact trivial | exact rfl | (show ((k + i : Nat) : Int) + 1 = ((k + (i + 1) : Nat) : Int); omega) | refine And.intro ?_ ?_)
              · repeat' (first | exact trivial | exact rfl | (intro i hi; exact rfl) | refine And.intro ?_ ?_)
      · have h3 : ¬ ((k + i : Nat) : Int) < (below : Int) := of_decide_eq_false h3
        have hv : onV B (k + 1) below L = none := findS_none fun j hj => hi j (by omega)
        have hb : onB B (k + 1) below L = 0 := by rw [onB, hv]
        rw [hv, hb]
        refine ⟨fun j => j, ?_, rfl, rfl, rfl, rfl, rfl⟩
        repeat' (first | exact trivial | exact rfl | (intro i hi; exact ⟨rfl, rfl⟩) | refine And.intro ?_ ?_)
theorem s94_3 {mk l1 l2 c1 c2 : Int} {n : Nat} {rd : Nat → Rd} (hok : blkOk ⟨mk, l1, l2, c1, c2, (List.range n).map rd⟩ = true) (hn : n ≤ 5) {k below : Nat} {kk bb : Int} (hkk : kk = (k : Int)) (hbb : bb = (below : Int)) (hkd : k + 3 ≤ n) (hbn : below ≤ n) {L : List Int} (hL : L.length = 3) (hLb : ∀ x ∈ L, 0 ≤ x ∧ x < (n : Int))
    {g0 g1 g2 : List Int}
    {Rv : SV → List (Nat × HB) → Nat → Prop} {Rp : List PanicEntry → List (Nat × HB) → Nat → Prop}
    (hRv : Rv (.sb (onV ⟨mk, l1, l2, c1, c2, (List.range n).map rd⟩ k below L).isSome) ([(18, .vec 3 1 3 (lC L)), (16, .vec 3 1 2 (lC g2)), (14, .vec 3 1 1 (lC g1)), (12, .vec 3 1 0 (lC g0))] ++ hB mk l1 l2 c1 c2 n rd (onB ⟨mk, l1, l2, c1, c2, (List.range n).map rd⟩ k below L) (onV ⟨mk, l1, l2, c1, c2, (List.range n).map rd⟩ k below L).isSome) 19) :
    CallS P 94 [.si .i64 kk, .si .i64 bb, .sl 18, .sp 8 0, .sp 9 0, .sp 10 0, .sp 11 0] ([(18, .vec 3 1 3 (lC L)), (16, .vec 3 1 2 (lC g2)), (14, .vec 3 1 1 (lC g1)), (12, .vec 3 1 0 (lC g0))] ++ hB mk l1 l2 c1 c2 n rd 0 false) 19 Rv Rp := by
  have g := g93 good0
  refine callS_to g.ok Try.func94 (c := code Try.f94) rfl (Nat.le_of_ble_eq_true rfl) _ _ _ (fun G2 hG2 => ?_) hRv
  obtain ⟨B, hB'⟩ : ∃ B : Blk, (⟨mk, l1, l2, c1, c2, (List.range n).map rd⟩ : Blk) = B := ⟨_, rfl⟩
  have hB2 : (⟨mk, l1, l2, c1, c2, rdL n fun i => rdC (rd i)⟩ : Blk) = B := hB'
  rw [hB'] at hok ⊢
  have hnth : ∀ i, i < 3 → 0 ≤ L.getD i 0 ∧ L.getD i 0 < (n : Int) := fun i hi => by
    refine hLb _ ?_
    rw [List.getD_eq_getElem?_getD, List.getElem?_eq_getElem (by omega)]
    exact List.getElem_mem _
  subst hkk hbb
  refine Br.mk (fun h => ?_) (fun h => ?_)
  · replace h : (k : Int) = 0 := of_decide_eq_true h
    obtain rfl : k = 0 := by omega
    have hlc : intL 3 (lC L) = L := by rw [← hL]; exact lC_list L
    refine Chk.mk ⟨rds_rd _ _, by rw [hB2]; exact hok, lC_ints _ _, by omega, hnth⟩ ?_
    refine Br.mk (fun h2 => ?_) (fun h2 => ?_)
    · have h2 : decide (0 < (pairsV (subV ⟨mk, l1, l2, c1, c2, rdL n fun i => rdC (rd i)⟩ (intL 3 (lC L)))).length) = true := h2
      rw [hlc, hB2] at h2
      have hon : onV B 0 below L = none := by rw [onV, canB, h2]; rfl
      have honb : onB B 0 below L = 0 := by rw [onB, hon]
      rw [hon, honb]
      refine ⟨fun j => j, ?_, rfl, rfl, rfl, rfl, rfl⟩
      repeat' (first | exact trivial | exact rfl | (intro i hi; exact ⟨rfl, rfl⟩) | refine And.intro ?_ ?_)
    · have h2 : decide (0 < (pairsV (subV ⟨mk, l1, l2, c1, c2, rdL n fun i => rdC (rd i)⟩ (intL 3 (lC L)))).length) = false := h2
      rw [hlc, hB2] at h2
      have hon : onV B 0 below L = some L := by rw [onV, canB, h2]; rfl
      have honb : onB B 0 below L = bst L 3 := by rw [onB, hon, ← hL]
      rw [hon, honb]
      have hbb : ∀ i, i ≤ 3 → 0 ≤ bst L i ∧ bst L i < 32 := fun i hi => bst_b (fun x hx => by have := hLb x hx; omega) i (by omega)
      refine loop_ok (g.ok _ _ _) (fun x : {i : Nat // i ≤ 3} => ⟨[(4, ⟨[], .sp 9 0⟩), (5, ⟨[], .sp 10 0⟩), (19, ⟨[], .sl 18⟩), (20, ⟨[], .si .i64 (3 : Nat)⟩), (21, ⟨[], .si .i64 (x.1 : Nat)⟩)], [],
        [(18, .vec 3 1 3 (lC L)), (16, .vec 3 1 2 (lC g2)), (14, .vec 3 1 1 (lC g1)), (12, .vec 3 1 0 (lC g0))] ++ hB mk l1 l2 c1 c2 n rd (bst L x.1) false, 19, []⟩) (fun x => 3 - x.1) (fun _ j hj => hG2 j hj) ⟨0, Nat.zero_le _⟩ ?_ ?_
      · refine ⟨?_, ?_, rfl, rfl, rfl⟩
        · repeat' (first | exact trivial | exact rfl | refine And.intro ?_ ?_)
        · repeat' (first | exact trivial | exact rfl | (intro i hi; exact rfl) | refine And.intro ?_ ?_)
      · rintro ⟨i, hi⟩
        refine Br.mk (fun h3 => ?_) (fun h3 => ?_)
        · have h3 : (i : Int) < ((3 : Nat) : Int) := of_decide_eq_true h3
          have hb1 := hbb i hi
          have hb2 := hbb (i + 1) (by omega)
          have hx := hnth i (by omega)
          have hp : (0 : Int) ≤ 1 * 2 ^ (L.getD i 0).toNat ∧ (1 : Int) * 2 ^ (L.getD i 0).toNat ≤ 16 := by
            rcases (show L.getD i 0 = 0 ∨ L.getD i 0 = 1 ∨ L.getD i 0 = 2 ∨ L.getD i 0 = 3 ∨ L.getD i 0 = 4 by omega) with h | h | h | h | h <;> rw [h] <;> decide
          refine Chk.mk (show (0 : Int) ≤ (i : Int) ∧ (i : Int) < ((3 : Nat) : Int) from ⟨by omega, h3⟩) ?_
          refine drawn_ok (g.ok _ _ _) fol [0,0,2,7,15] [(4, 9)] 5 (by kernel_rfl) ?_
          refine Chk.mk (show 0 ≤ L.getD i 0 ∧ (L.getD i 0).toNat ≤ 64 ∧ InK .i64 (1 * 2 ^ (L.getD i 0).toNat) from ⟨by omega, by omega, by have := hp; exact ⟨by omega, by omega⟩⟩) ?_
          refine Chk.mk (show 0 ≤ bst L i ∧ (0 : Int) ≤ 1 * 2 ^ (L.getD i 0).toNat ∧ InK .i64 (bst L i) ∧ InK .i64 (1 * 2 ^ (L.getD i 0).toNat) from ⟨by omega, by omega, ⟨by omega, by omega⟩, by have := hp; exact ⟨by omega, by omega⟩⟩) ?_
          refine Chk.mk (show InK .i64 ((i : Int) + 1) from ⟨by omega, by omega⟩) ⟨⟨i + 1, by omega⟩, ?_, (by show 3 - (i + 1) < 3 - i; omega)⟩
          refine ⟨?_, ?_, rfl, rfl, rfl⟩
          · repeat' (first | exact trivial | exact rfl | refine And.intro ?_ ?_)
          · repeat' (first | exact trivial | exact rfl | (intro i hi; exact rfl) | refine And.intro ?_ ?_)
        · have h3 : ¬ (i : Int) < ((3 : Nat) : Int) := of_decide_eq_false h3
          obtain rfl : i = 3 := by omega
          refine ⟨fun j => j, ?_, rfl, rfl, rfl, rfl, rfl⟩
          repeat' (first | exact trivial | exact rfl | (intro i hi; exact ⟨rfl, rfl⟩) | refine And.intro ?_ ?_)
  · replace h : ¬ (k : Int) = 0 := of_decide_eq_false h
    obtain ⟨k, rfl⟩ : ∃ j, k = j + 1 := ⟨k - 1, by omega⟩
    have hk1 : ((k + 1 : Nat) : Int) - 1 = (k : Int) := by omega
    refine Chk.mk (show InK .i64 (((k + 1 : Nat) : Int) - 1) from ⟨by omega, by omega⟩) ?_
    refine loop_ok (g.ok _ _ _) (fun x : {i : Nat // ∀ j, j < i → onV B k (k + j) (((k + j : Nat) : Int) :: L) = none} => ⟨[(0, ⟨[], .si .i64 ((k + 1 : Nat) : Int)⟩), (1, ⟨[], .si .i64 (below : Int)⟩), (2, ⟨[], .sl 18⟩), (6, ⟨[], .sp 11 0⟩), (13, ⟨[], .si .i64 ((k + x.1 : Nat) : Int)⟩)], [],
      [(18, .vec 3 1 3 (lC L)), (16, .vec 3 1 2 (lC g2)), (14, .vec 3 1 1 (lC g1)), (12, .vec 3 1 0 (lC g0))] ++ hB mk l1 l2 c1 c2 n rd 0 false, 19, []⟩) (fun x => below - (k + x.1)) (fun _ j hj => hG2 j hj) ⟨0, fun j hj => by omega⟩ ?_ ?_
    · refine ⟨?_, ?_, rfl, rfl, rfl⟩
      · repeat' (first | exact trivial | exact rfl | (show ((k + 1 : Nat) : Int) - 1 = ((k + 0 : Nat) : Int); omega) | refine And.intro ?_ ?_)
      · repeat' (first | exact trivial | exact rfl | (intro i hi; exact rfl) | refine And.intro ?_ ?_)
    · rintro ⟨i, hi⟩
      refine Br.mk (fun h3 => ?_) (fun h3 => ?_)
      · have h3 : ((k + i : Nat) : Int) < (below : Int) := of_decide_eq_true h3
        refine any_region (by kernel_rfl) ?_
        show AnyS _ _ 9 _ _ _
        refine any_take 1 (g.ok _ _ _) rfl rfl rfl rfl rfl rfl rfl (by kernel_rfl) (by kernel_rfl) (by kernel_rfl) ?_
        refine any_take 2 (g.ok _ _ _) rfl rfl rfl rfl rfl rfl rfl (by kernel_rfl) (by kernel_rfl) (by kernel_rfl) ?_
        refine Chk.mk (show InK .i64 (((k + 1 : Nat) : Int) - 1) from ⟨by omega, by omega⟩) ?_
        refine any_take 3 (g.ok _ _ _) rfl rfl rfl rfl rfl rfl rfl (by kernel_rfl) (by kernel_rfl) (by kernel_rfl) ?_
        refine any_take 4 (g.ok _ _ _) rfl rfl rfl rfl rfl rfl rfl (by kernel_rfl) (by kernel_rfl) (by kernel_rfl) ?_
        refine any_take 6 (g.ok _ _ _) rfl rfl rfl rfl rfl rfl rfl (by kernel_rfl) (by kernel_rfl) (by kernel_rfl) ?_
        have hcall : True := trivial
        refine any_step [0, 5] (g.ok _ _ _) (by kernel_rfl) (by decide) ⟨?_, ?_, trivial⟩
        · skip
          refine any_step [5] (g.ok _ _ _) (by kernel_rfl) (by decide) ⟨?_, trivial⟩
          refine any_step [7] (g.ok _ _ _) (by kernel_rfl) (by decide) ⟨?_, trivial⟩
          refine fb_row 19 3 1 1 [.si .i64 ((k + i : Nat) : Int)] (fun _ => [.si .i64 ((k + i : Nat) : Int)]) rfl (fun q hq => ?_) ?_
          · obtain rfl : q = 0 := by omega
            rfl
          refine fb_append (Te := 0) 19 18 1 3 (fun _ => [.si .i64 ((k + i : Nat) : Int)]) (lC L) (lC (((k + i : Nat) : Int) :: L)) (g.ok _ _ _) cont_any rfl rfl rfl rfl rfl rfl rfl rfl rfl rfl rfl rfl (Nat.le_of_ble_eq_true rfl) (Nat.le_of_ble_eq_true rfl) rfl rfl rfl rfl (by decide) (fun q hq => ?_) ?_
          · cases q with
            | zero => rfl
            | succ q => rfl
          refine any_step [8] (g.ok _ _ _) (by kernel_rfl) (by decide) ⟨?_, trivial⟩
          refine fb_call (g.ok _ _ _) cont_any rfl rfl rfl rfl ?_
          refine ⟨b94, ?_⟩
          refine callS_sub ([(20, .vec 3 1 4 (lC (((k + i : Nat) : Int) :: L))), (18, .vec 3 1 3 (lC L)), (16, .vec 3 1 2 (lC g2)), (14, .vec 3 1 1 (lC g1)), (12, .vec 3 1 0 (lC g0))] ++ hB mk l1 l2 c1 c2 n rd 0 false) ?_ ?_
          · repeat' (first | exact trivial | exact rfl | (intro i hi; exact ⟨rfl, rfl⟩) | refine And.intro ?_ ?_)
          refine s94_4 (k := k) (below := k + i) (by rw [hB']; exact hok) hn (by omega) rfl (by omega) (by omega) (by simp [hL]) (fun x hx => ?_) ?_
          · rcases List.mem_cons.1 hx with rfl | hx
            · omega
            · exact hLb x hx
          rw [hB']
          refine any_done (by kernel_rfl) ?_
          refine Br.mk (fun h4 => ?_) (fun h4 => ?_)
          · have h4 : (onV B k (k + i) (((k + i : Nat) : Int) :: L)).isSome = true := h4
            have hv : onV B (k + 1) below L = onV B k (k + i) (((k + i : Nat) : Int) :: L) := findS_range (f := fun i => onV B k (k + i) (((k + i : Nat) : Int) :: L)) (by omega) hi h4
            have hb : onB B (k + 1) below L = onB B k (k + i) (((k + i : Nat) : Int) :: L) := by rw [onB, onB, hv]
            rw [hv, hb, h4]
            refine ⟨fun j => j, ?_, rfl, rfl, rfl, rfl, rfl⟩
            repeat' (first | exact trivial | exact rfl | (intro i hi; exact ⟨rfl, rfl⟩) | refine And.intro ?_ ?_)
          · have h4 : (onV B k (k + i) (((k + i : Nat) : Int) :: L)).isSome = false := h4
            have hv : onV B k (k + i) (((k + i : Nat) : Int) :: L) = none := by simpa using h4
            have hb : onB B k (k + i) (((k + i : Nat) : Int) :: L) = 0 := by rw [onB, hv]
            rw [hv, hb]
            refine Chk.mk (show InK .i64 (((k + i : Nat) : Int) + 1) from ⟨by omega, by omega⟩) ⟨⟨i + 1, fun j hj => ?_⟩, ?_, (by show below - (k + (i + 1)) < below - (k + i); omega)⟩
            · rcases (show j < i ∨ j = i by omega) with hj | rfl
              · exact hi j hj
              · exact hv
            refine ⟨?_, ?_, rfl, rfl, rfl⟩
            · repeat' (first | exact trivial | exact rfl | (show ((k + i : Nat) : Int) + 1 = ((k + (i + 1) : Nat) : Int); omega) | refine And.intro ?_ ?_)
            · repeat' (first | exact trivial | exact rfl | (intro i hi; exact rfl) | refine And.intro ?_ ?_)
        · skip
          refine any_step [0, 7] (g.ok _ _ _) (by kernel_rfl) (by decide) ⟨?_, ?_, trivial⟩
          · skip
            refine any_step [7] (g.ok _ _ _) (by kernel_rfl) (by decide) ⟨?_, trivial⟩
            refine fb_row 19 3 1 1 [.si .i64 ((k + i : Nat) : Int)] (fun _ => [.si .i64 ((k + i : Nat) : Int)]) rfl (fun q hq => ?_) ?_
            · obtain rfl : q = 0 := by omega
              rfl
            refine fb_append (Te := 0) 19 18 1 3 (fun _ => [.si .i64 ((k + i : Nat) : Int)]) (lC L) (lC (((k + i : Nat) : Int) :: L)) (g.ok _ _ _) cont_any rfl rfl rfl rfl rfl rfl rfl rfl rfl rfl rfl rfl (Nat.le_of_ble_eq_true rfl) (Nat.le_of_ble_eq_true rfl) rfl rfl rfl rfl (by decide) (fun q hq => ?_) ?_
            · cases q with
              | zero => rfl
              | succ q => rfl
            refine any_step [8] (g.ok _ _ _) (by kernel_rfl) (by decide) ⟨?_, trivial⟩
            refine fb_call (g.ok _ _ _) cont_any rfl rfl rfl rfl ?_
            refine ⟨b94, ?_⟩
            refine callS_sub ([(20, .vec 3 1 4 (lC (((k + i : Nat) : Int) :: L))), (18, .vec 3 1 3 (lC L)), (16, .vec 3 1 2 (lC g2)), (14, .vec 3 1 1 (lC g1)), (12, .vec 3 1 0 (lC g0))] ++ hB mk l1 l2 c1 c2 n rd 0 false) ?_ ?_
            · repeat' (first | exact trivial | exact rfl | (intro i hi; exact ⟨rfl, rfl⟩) | refine And.intro ?_ ?_)
            refine s94_4 (k := k) (below := k + i) (by rw [hB']; exact hok) hn (by omega) rfl (by omega) (by omega) (by simp [hL]) (fun x hx => ?_) ?_
            · rcases List.mem_cons.1 hx with rfl | hx
              · omega
              · exact hLb x hx
            rw [hB']
            refine any_done (by kernel_rfl) ?_
            refine Br.mk (fun h4 => ?_) (fun h4 => ?_)
            · have h4 : (onV B k (k + i) (((k + i : Nat) : Int) :: L)).isSome = true := h4
              have hv : onV B (k + 1) below L = onV B k (k + i) (((k + i : Nat) : Int) :: L) := findS_range (f := fun i => onV B k (k + i) (((k + i : Nat) : Int) :: L)) (by omega) hi h4
              have hb : onB B (k + 1) below L = onB B k (k + i) (((k + i : Nat) : Int) :: L) := by rw [onB, onB, hv]
              rw [hv, hb, h4]
              refine ⟨fun j => j, ?_, rfl, rfl, rfl, rfl, rfl⟩
              repeat' (first | exact trivial | exact rfl | (intro i hi; exact ⟨rfl, rfl⟩) | refine And.intro ?_ ?_)
            · have h4 : (onV B k (k + i) (((k + i : Nat) : Int) :: L)).isSome = false := h4
              have hv : onV B k (k + i) (((k + i : Nat) : Int) :: L) = none := by simpa using h4
              have hb : onB B k (k + i) (((k + i : Nat) : Int) :: L) = 0 := by rw [onB, hv]
              rw [hv, hb]
              refine Chk.mk (show InK .i64 (((k + i : Nat) : Int) + 1) from ⟨by omega, by omega⟩) ⟨⟨i + 1, fun j hj => ?_⟩, ?_, (by show below - (k + (i + 1)) < below - (k + i); omega)⟩
              · rcases (show j < i ∨ j = i by omega) with hj | rfl
                · exact hi j hj
                · exact hv
              refine ⟨?_, ?_, rfl, rfl, rfl⟩
              · repeat' (first | exact trivial | exact rfl | (show ((k + i : Nat) : Int) + 1 = ((k + (i + 1) : Nat) : Int); omega) | refine And.intro ?_ ?_)
              · repeat' (first | exact trivial | exact rfl | (intro i hi; exact rfl) | refine And.intro ?_ ?_)
          · skip
            refine fb_row 19 3 1 1 [.si .i64 ((k + i : Nat) : Int)] (fun _ => [.si .i64 ((k + i : Nat) : Int)]) rfl (fun q hq => ?_) ?_
            · obtain rfl : q = 0 := by omega
              rfl
            refine fb_append (Te := 0) 19 18 1 3 (fun _ => [.si .i64 ((k + i : Nat) : Int)]) (lC L) (lC (((k + i : Nat) : Int) :: L)) (g.ok _ _ _) cont_any rfl rfl rfl rfl rfl rfl rfl rfl rfl rfl rfl rfl (Nat.le_of_ble_eq_true rfl) (Nat.le_of_ble_eq_true rfl) rfl rfl rfl rfl (by decide) (fun q hq => ?_) ?_
            · cases q with
              | zero => rfl
              | succ q => rfl
            refine any_step [0] (g.ok _ _ _) (by kernel_rfl) (by decide) ⟨?_, trivial⟩
            refine any_step [8] (g.ok _ _ _) (by kernel_rfl) (by decide) ⟨?_, trivial⟩
            refine fb_call (g.ok _ _ _) cont_any rfl rfl rfl rfl ?_
            refine ⟨b94, ?_⟩
            refine callS_sub ([(20, .vec 3 1 4 (lC (((k + i : Nat) : Int) :: L))), (18, .vec 3 1 3 (lC L)), (16, .vec 3 1 2 (lC g2)), (14, .vec 3 1 1 (lC g1)), (12, .vec 3 1 0 (lC g0))] ++ hB mk l1 l2 c1 c2 n rd 0 false) ?_ ?_
            · repeat' (first | exact trivial | exact rfl | (intro i hi; exact ⟨rfl, rfl⟩) | refine And.intro ?_ ?_)
            refine s94_4 (k := k) (below := k + i) (by rw [hB']; exact hok) hn (by omega) rfl (by omega) (by omega) (by simp [hL]) (fun x hx => ?_) ?_
            · rcases List.mem_cons.1 hx with rfl | hx
              · omega
              · exact hLb x hx
            rw [hB']
            refine any_done (by kernel_rfl) ?_
            refine Br.mk (fun h4 => ?_) (fun h4 => ?_)
            · have h4 : (onV B k (k + i) (((k + i : Nat) : Int) :: L)).isSome = true := h4
              have hv : onV B (k + 1) below L = onV B k (k + i) (((k + i : Nat) : Int) :: L) := findS_range (f := fun i => onV B k (k + i) (((k + i : Nat) : Int) :: L)) (by omega) hi h4
              have hb : onB B (k + 1) below L = onB B k (k + i) (((k + i : Nat) : Int) :: L) := by rw [onB, onB, hv]
              rw [hv, hb, h4]
              refine ⟨fun j => j, ?_, rfl, rfl, rfl, rfl, rfl⟩
              repeat' (first | exact trivial | exact rfl | (intro i hi; exact ⟨rfl, rfl⟩) | refine And.intro ?_ ?_)
            · have h4 : (onV B k (k + i) (((k + i : Nat) : Int) :: L)).isSome = false := h4
              have hv : onV B k (k + i) (((k + i : Nat) : Int) :: L) = none := by simpa using h4
              have hb : onB B k (k + i) (((k + i : Nat) : Int) :: L) = 0 := by rw [onB, hv]
              rw [hv, hb]
              refine Chk.mk (show InK .i64 (((k + i : Nat) : Int) + 1) from ⟨by omega, by omega⟩) ⟨⟨i + 1, fun j hj => ?_⟩, ?_, (by show below - (k + (i + 1)) < below - (k + i); omega)⟩
              · rcases (show j < i ∨ j = i by omega) with hj | rfl
                · exact hi j hj
                · exact hv
              refine ⟨?_, ?_, rfl, rfl, rfl⟩
              · repeat' (first | exact trivial | exact rfl | (show ((k + i : Nat) : Int) + 1 = ((k + (i + 1) : Nat) : Int); omega) | refine And.intro ?_ ?_)
              · repeat' (first | exact trivial | exact rfl | (intro i hi; exact rfl) | refine And.intro ?_ ?_)
      · have h3 : ¬ ((k + i : Nat) : Int) < (below : Int) := of_decide_eq_false h3
        have hv : onV B (k + 1) below L = none := findS_none fun j hj => hi j (by omega)
        have hb : onB B (k + 1) below L = 0 := by rw [onB, hv]
        rw [hv, hb]
        refine ⟨fun j => j, ?_, rfl, rfl, rfl, rfl, rfl⟩
        repeat' (first | exact trivial | exact rfl | (intro i hi; exact ⟨rfl, rfl⟩) | refine And.intro ?_ ?_)
theorem s94_2 {mk l1 l2 c1 c2 : Int} {n : Nat} {rd : Nat → Rd} (hok : blkOk ⟨mk, l1, l2, c1, c2, (List.range n).map rd⟩ = true) (hn : n ≤ 5) {k below : Nat} {kk bb : Int} (hkk : kk = (k : Int)) (hbb : bb = (below : Int)) (hkd : k + 2 ≤ n) (hbn : below ≤ n) {L : List Int} (hL : L.length = 2) (hLb : ∀ x ∈ L, 0 ≤ x ∧ x < (n : Int))
    {g0 g1 : List Int}
    {Rv : SV → List (Nat × HB) → Nat → Prop} {Rp : List PanicEntry → List (Nat × HB) → Nat → Prop}
    (hRv : Rv (.sb (onV ⟨mk, l1, l2, c1, c2, (List.range n).map rd⟩ k below L).isSome) ([(16, .vec 3 1 2 (lC L)), (14, .vec 3 1 1 (lC g1)), (12, .vec 3 1 0 (lC g0))] ++ hB mk l1 l2 c1 c2 n rd (onB ⟨mk, l1, l2, c1, c2, (List.range n).map rd⟩ k below L) (onV ⟨mk, l1, l2, c1, c2, (List.range n).map rd⟩ k below L).isSome) 17) :
    CallS P 94 [.si .i64 kk, .si .i64 bb, .sl 16, .sp 8 0, .sp 9 0, .sp 10 0, .sp 11 0] ([(16, .vec 3 1 2 (lC L)), (14, .vec 3 1 1 (lC g1)), (12, .vec 3 1 0 (lC g0))] ++ hB mk l1 l2 c1 c2 n rd 0 false) 17 Rv Rp := by
  have g := g93 good0
  refine callS_to g.ok Try.func94 (c := code Try.f94) rfl (Nat.le_of_ble_eq_true rfl) _ _ _ (fun G2 hG2 => ?_) hRv
  obtain ⟨B, hB'⟩ : ∃ B : Blk, (⟨mk, l1, l2, c1, c2, (List.range n).map rd⟩ : Blk) = B := ⟨_, rfl⟩
  have hB2 : (⟨mk, l1, l2, c1, c2, rdL n fun i => rdC (rd i)⟩ : Blk) = B := hB'
  rw [hB'] at hok ⊢
  have hnth : ∀ i, i < 2 → 0 ≤ L.getD i 0 ∧ L.getD i 0 < (n : Int) := fun i hi => by
    refine hLb _ ?_
    rw [List.getD_eq_getElem?_getD, List.getElem?_eq_getElem (by omega)]
    exact List.getElem_mem _
  subst hkk hbb
  refine Br.mk (fun h => ?_) (fun h => ?_)
  · replace h : (k : Int) = 0 := of_decide_eq_true h
    obtain rfl : k = 0 := by omega
    have hlc : intL 2 (lC L) = L := by rw [← hL]; exact lC_list L
    refine Chk.mk ⟨rds_rd _ _, by rw [hB2]; exact hok, lC_ints _ _, by omega, hnth⟩ ?_
    refine Br.mk (fun h2 => ?_) (fun h2 => ?_)
    · have h2 : decide (0 < (pairsV (subV ⟨mk, l1, l2, c1, c2, rdL n fun i => rdC (rd i)⟩ (intL 2 (lC L)))).length) = true := h2
      rw [hlc, hB2] at h2
      have hon : onV B 0 below L = none := by rw [onV, canB, h2]; rfl
      have honb : onB B 0 below L = 0 := by rw [onB, hon]
      rw [hon, honb]
      refine ⟨fun j => j, ?_, rfl, rfl, rfl, rfl, rfl⟩
      repeat' (first | exact trivial | exact rfl | (intro i hi; exact ⟨rfl, rfl⟩) | refine And.intro ?_ ?_)
    · have h2 : decide (0 < (pairsV (subV ⟨mk, l1, l2, c1, c2, rdL n fun i => rdC (rd i)⟩ (intL 2 (lC L)))).length) = false := h2
      rw [hlc, hB2] at h2
      have hon : onV B 0 below L = some L := by rw [onV, canB, h2]; rfl
      have honb : onB B 0 below L = bst L 2 := by rw [onB, hon, ← hL]
      rw [hon, honb]
      have hbb : ∀ i, i ≤ 2 → 0 ≤ bst L i ∧ bst L i < 32 := fun i hi => bst_b (fun x hx => by have := hLb x hx; omega) i (by omega)
      refine loop_ok (g.ok _ _ _) (fun x : {i : Nat // i ≤ 2} => ⟨[(4, ⟨[], .sp 9 0⟩), (5, ⟨[], .sp 10 0⟩), (19, ⟨[], .sl 16⟩), (20, ⟨[], .si .i64 (2 : Nat)⟩), (21, ⟨[], .si .i64 (x.1 : Nat)⟩)], [],
        [(16, .vec 3 1 2 (lC L)), (14, .vec 3 1 1 (lC g1)), (12, .vec 3 1 0 (lC g0))] ++ hB mk l1 l2 c1 c2 n rd (bst L x.1) false, 17, []⟩) (fun x => 2 - x.1) (fun _ j hj => hG2 j hj) ⟨0, Nat.zero_le _⟩ ?_ ?_
      · refine ⟨?_, ?_, rfl, rfl, rfl⟩
        · repeat' (first | exact trivial | exact rfl | refine And.intro ?_ ?_)
        · repeat' (first | exact trivial | exact rfl | (intro i hi; exact rfl) | refine And.intro ?_ ?_)
      · rintro ⟨i, hi⟩
        refine Br.mk (fun h3 => ?_) (fun h3 => ?_)
        · have h3 : (i : Int) < ((2 : Nat) : Int) := of_decide_eq_true h3
          have hb1 := hbb i hi
          have hb2 := hbb (i + 1) (by omega)
          have hx := hnth i (by omega)
          have hp : (0 : Int) ≤ 1 * 2 ^ (L.getD i 0).toNat ∧ (1 : Int) * 2 ^ (L.getD i 0).toNat ≤ 16 := by
            rcases (show L.getD i 0 = 0 ∨ L.getD i 0 = 1 ∨ L.getD i 0 = 2 ∨ L.getD i 0 = 3 ∨ L.getD i 0 = 4 by omega) with h | h | h | h | h <;> rw [h] <;> decide
          refine Chk.mk (show (0 : Int) ≤ (i : Int) ∧ (i : Int) < ((2 : Nat) : Int) from ⟨by omega, h3⟩) ?_
          refine drawn_ok (g.ok _ _ _) fol [0,0,2,7,15] [(4, 9)] 5 (by kernel_rfl) ?_
          refine Chk.mk (show 0 ≤ L.getD i 0 ∧ (L.getD i 0).toNat ≤ 64 ∧ InK .i64 (1 * 2 ^ (L.getD i 0).toNat) from ⟨by omega, by omega, by have := hp; exact ⟨by omega, by omega⟩⟩) ?_
          refine Chk.mk (show 0 ≤ bst L i ∧ (0 : Int) ≤ 1 * 2 ^ (L.getD i 0).toNat ∧ InK .i64 (bst L i) ∧ InK .i64 (1 * 2 ^ (L.getD i 0).toNat) from ⟨by omega, by omega, ⟨by omega, by omega⟩, by have := hp; exact ⟨by omega, by omega⟩⟩) ?_
          refine Chk.mk (show InK .i64 ((i : Int) + 1) from ⟨by omega, by omega⟩) ⟨⟨i + 1, by omega⟩, ?_, (by show 2 - (i + 1) < 2 - i; omega)⟩
          refine ⟨?_, ?_, rfl, rfl, rfl⟩
          · repeat' (first | exact trivial | exact rfl | refine And.intro ?_ ?_)
          · repeat' (first | exact trivial | exact rfl | (intro i hi; exact rfl) | refine And.intro ?_ ?_)
        · have h3 : ¬ (i : Int) < ((2 : Nat) : Int) := of_decide_eq_false h3
          obtain rfl : i = 2 := by omega
          refine ⟨fun j => j, ?_, rfl, rfl, rfl, rfl, rfl⟩
          repeat' (first | exact trivial | exact rfl | (intro i hi; exact ⟨rfl, rfl⟩) | refine And.intro ?_ ?_)
  · replace h : ¬ (k : Int) = 0 := of_decide_eq_false h
    obtain ⟨k, rfl⟩ : ∃ j, k = j + 1 := ⟨k - 1, by omega⟩
    have hk1 : ((k + 1 : Nat) : Int) - 1 = (k : Int) := by omega
    refine Chk.mk (show InK .i64 (((k + 1 : Nat) : Int) - 1) from ⟨by omega, by omega⟩) ?_
    refine loop_ok (g.ok _ _ _) (fun x : {i : Nat // ∀ j, j < i → onV B k (k + j) (((k + j : Nat) : Int) :: L) = none} => ⟨[(0, ⟨[], .si .i64 ((k + 1 : Nat) : Int)⟩), (1, ⟨[], .si .i64 (below : Int)⟩), (2, ⟨[], .sl 16⟩), (6, ⟨[], .sp 11 0⟩), (13, ⟨[], .si .i64 ((k + x.1 : Nat) : Int)⟩)], [],
      [(16, .vec 3 1 2 (lC L)), (14, .vec 3 1 1 (lC g1)), (12, .vec 3 1 0 (lC g0))] ++ hB mk l1 l2 c1 c2 n rd 0 false, 17, []⟩) (fun x => below - (k + x.1)) (fun _ j hj => hG2 j hj) ⟨0, fun j hj => by omega⟩ ?_ ?_
    · refine ⟨?_, ?_, rfl, rfl, rfl⟩
      · repeat' (first | exact trivial | exact rfl | (show ((k + 1 : Nat) : Int) - 1 = ((k + 0 : Nat) : Int); omega) | refine And.intro ?_ ?_)
      · repeat' (first | exact trivial | exact rfl | (intro i hi; exact rfl) | refine And.intro ?_ ?_)
    · rintro ⟨i, hi⟩
      refine Br.mk (fun h3 => ?_) (fun h3 => ?_)
      · have h3 : ((k + i : Nat) : Int) < (below : Int) := of_decide_eq_true h3
        refine any_region (by kernel_rfl) ?_
        show AnyS _ _ 9 _ _ _
        refine any_take 1 (g.ok _ _ _) rfl rfl rfl rfl rfl rfl rfl (by kernel_rfl) (by kernel_rfl) (by kernel_rfl) ?_
        refine any_take 2 (g.ok _ _ _) rfl rfl rfl rfl rfl rfl rfl (by kernel_rfl) (by kernel_rfl) (by kernel_rfl) ?_
        refine Chk.mk (show InK .i64 (((k + 1 : Nat) : Int) - 1) from ⟨by omega, by omega⟩) ?_
        refine any_take 3 (g.ok _ _ _) rfl rfl rfl rfl rfl rfl rfl (by kernel_rfl) (by kernel_rfl) (by kernel_rfl) ?_
        refine any_take 4 (g.ok _ _ _) rfl rfl rfl rfl rfl rfl rfl (by kernel_rfl) (by kernel_rfl) (by kernel_rfl) ?_
        refine any_take 6 (g.ok _ _ _) rfl rfl rfl rfl rfl rfl rfl (by kernel_rfl) (by kernel_rfl) (by kernel_rfl) ?_
        have hcall : True := trivial
        refine any_step [0, 5] (g.ok _ _ _) (by kernel_rfl) (by decide) ⟨?_, ?_, trivial⟩
        · skip
          refine any_step [5] (g.ok _ _ _) (by kernel_rfl) (by decide) ⟨?_, trivial⟩
          refine any_step [7] (g.ok _ _ _) (by kernel_rfl) (by decide) ⟨?_, trivial⟩
          refine fb_row 17 3 1 1 [.si .i64 ((k + i : Nat) : Int)] (fun _ => [.si .i64 ((k + i : Nat) : Int)]) rfl (fun q hq => ?_) ?_
          · obtain rfl : q = 0 := by omega
            rfl
          refine fb_append (Te := 0) 17 16 1 2 (fun _ => [.si .i64 ((k + i : Nat) : Int)]) (lC L) (lC (((k + i : Nat) : Int) :: L)) (g.ok _ _ _) cont_any rfl rfl rfl rfl rfl rfl rfl rfl rfl rfl rfl rfl (Nat.le_of_ble_eq_true rfl) (Nat.le_of_ble_eq_true rfl) rfl rfl rfl rfl (by decide) (fun q hq => ?_) ?_
          · cases q with
            | zero => rfl
            | succ q => rfl
          refine any_step [8] (g.ok _ _ _) (by kernel_rfl) (by decide) ⟨?_, trivial⟩
          refine fb_call (g.ok _ _ _) cont_any rfl rfl rfl rfl ?_
          refine ⟨b94, ?_⟩
          refine callS_sub ([(18, .vec 3 1 3 (lC (((k + i : Nat) : Int) :: L))), (16, .vec 3 1 2 (lC L)), (14, .vec 3 1 1 (lC g1)), (12, .vec 3 1 0 (lC g0))] ++ hB mk l1 l2 c1 c2 n rd 0 false) ?_ ?_
          · repeat' (first | exact trivial | exact rfl | (intro i hi; exact ⟨rfl, rfl⟩) | refine And.intro ?_ ?_)
          refine s94_3 (k := k) (below := k + i) (by rw [hB']; exact hok) hn (by omega) rfl (by omega) (by omega) (by simp [hL]) (fun x hx => ?_) ?_
          · rcases List.mem_cons.1 hx with rfl | hx
            · omega
            · exact hLb x hx
          rw [hB']
          refine any_done (by kernel_rfl) ?_
          refine Br.mk (fun h4 => ?_) (fun h4 => ?_)
          · have h4 : (onV B k (k + i) (((k + i : Nat) : Int) :: L)).isSome = true := h4
            have hv : onV B (k + 1) below L = onV B k (k + i) (((k + i : Nat) : Int) :: L) := findS_range (f := fun i => onV B k (k + i) (((k + i : Nat) : Int) :: L)) (by omega) hi h4
            have hb : onB B (k + 1) below L = onB B k (k + i) (((k + i : Nat) : Int) :: L) := by rw [onB, onB, hv]
            rw [hv, hb, h4]
            refine ⟨fun j => j, ?_, rfl, rfl, rfl, rfl, rfl⟩
            repeat' (first | exact trivial | exact rfl | (intro i hi; exact ⟨rfl, rfl⟩) | refine And.intro ?_ ?_)
          · have h4 : (onV B k (k + i) (((k + i : Nat) : Int) :: L)).isSome = false := h4
            have hv : onV B k (k + i) (((k + i : Nat) : Int) :: L) = none := by simpa using h4
            have hb : onB B k (k + i) (((k + i : Nat) : Int) :: L) = 0 := by rw [onB, hv]
            rw [hv, hb]
            refine Chk.mk (show InK .i64 (((k + i : Nat) : Int) + 1) from ⟨by omega, by omega⟩) ⟨⟨i + 1, fun j hj => ?_⟩, ?_, (by show below - (k + (i + 1)) < below - (k + i); omega)⟩
            · rcases (show j < i ∨ j = i by omega) with hj | rfl
              · exact hi j hj
              · exact hv
            refine ⟨?_, ?_, rfl, rfl, rfl⟩
            · repeat' (first | exact trivial | exact rfl | (show ((k + i : Nat) : Int) + 1 = ((k + (i + 1) : Nat) : Int); omega) | refine And.intro ?_ ?_)
            · repeat' (first | exact trivial | exact rfl | (intro i hi; exact rfl) | refine And.intro ?_ ?_)
        · skip
          refine any_step [0, 7] (g.ok _ _ _) (by kernel_rfl) (by decide) ⟨?_, ?_, trivial⟩
          · skip
            refine any_step [7] (g.ok _ _ _) (by kernel_rfl) (by decide) ⟨?_, trivial⟩
            refine fb_row 17 3 1 1 [.si .i64 ((k + i : Nat) : Int)] (fun _ => [.si .i64 ((k + i : Nat) : Int)]) rfl (fun q hq => ?_) ?_
            · obtain rfl : q = 0 := by omega
              rfl
            refine fb_append (Te := 0) 17 16 1 2 (fun _ => [.si .i64 ((k + i : Nat) : Int)]) (lC L) (lC (((k + i : Nat) : Int) :: L)) (g.ok _ _ _) cont_any rfl rfl rfl rfl rfl rfl rfl rfl rfl rfl rfl rfl (Nat.le_of_ble_eq_true rfl) (Nat.le_of_ble_eq_true rfl) rfl rfl rfl rfl (by decide) (fun q hq => ?_) ?_
            · cases q with
              | zero => rfl
              | succ q => rfl
            refine any_step [8] (g.ok _ _ _) (by kernel_rfl) (by decide) ⟨?_, trivial⟩
            refine fb_call (g.ok _ _ _) cont_any rfl rfl rfl rfl ?_
            refine ⟨b94, ?_⟩
            refine callS_sub ([(18, .vec 3 1 3 (lC (((k + i : Nat) : Int) :: L))), (16, .vec 3 1 2 (lC L)), (14, .vec 3 1 1 (lC g1)), (12, .vec 3 1 0 (lC g0))] ++ hB mk l1 l2 c1 c2 n rd 0 false) ?_ ?_
            · repeat' (first | exact trivial | exact rfl | (intro i hi; exact ⟨rfl, rfl⟩) | refine And.intro ?_ ?_)
            refine s94_3 (k := k) (below := k + i) (by rw [hB']; exact hok) hn (by omega) rfl (by omega) (by omega) (by simp [hL]) (fun x hx => ?_) ?_
            · rcases List.mem_cons.1 hx with rfl | hx
              · omega
              · exact hLb x hx
            rw [hB']
            refine any_done (by kernel_rfl) ?_
            refine Br.mk (fun h4 => ?_) (fun h4 => ?_)
            · have h4 : (onV B k (k + i) (((k + i : Nat) : Int) :: L)).isSome = true := h4
              have hv : onV B (k + 1) below L = onV B k (k + i) (((k + i : Nat) : Int) :: L) := findS_range (f := fun i => onV B k (k + i) (((k + i : Nat) : Int) :: L)) (by omega) hi h4
              have hb : onB B (k + 1) below L = onB B k (k + i) (((k + i : Nat) : Int) :: L) := by rw [onB, onB, hv]
              rw [hv, hb, h4]
              refine ⟨fun j => j, ?_, rfl, rfl, rfl, rfl, rfl⟩
              repeat' (first | exact trivial | exact rfl | (intro i hi; exact ⟨rfl, rfl⟩) | refine And.intro ?_ ?_)
            · have h4 : (onV B k (k + i) (((k + i : Nat) : Int) :: L)).isSome = false := h4
              have hv : onV B k (k + i) (((k + i : Nat) : Int) :: L) = none := by simpa using h4
              have hb : onB B k (k + i) (((k + i : Nat) : Int) :: L) = 0 := by rw [onB, hv]
              rw [hv, hb]
              refine Chk.mk (show InK .i64 (((k + i : Nat) : Int) + 1) from ⟨by omega, by omega⟩) ⟨⟨i + 1, fun j hj => ?_⟩, ?_, (by show below - (k + (i + 1)) < below - (k + i); omega)⟩
              · rcases (show j < i ∨ j = i by omega) with hj | rfl
                · exact hi j hj
                · exact hv
              refine ⟨?_, ?_, rfl, rfl, rfl⟩
              · repeat' (first | exact trivial | exact rfl | (show ((k + i : Nat) : Int) + 1 = ((k + (i + 1) : Nat) : Int); omega) | refine And.intro ?_ ?_)
              · repeat' (first | exact trivial | exact rfl | (intro i hi; exact rfl) | refine And.intro ?_ ?_)
          · skip
            refine fb_row 17 3 1 1 [.si .i64 ((k + i : Nat) : Int)] (fun _ => [.si .i64 ((k + i : Nat) : Int)]) rfl (fun q hq => ?_) ?_
            · obtain rfl : q = 0 := by omega
              rfl
            refine fb_append (Te := 0) 17 16 1 2 (fun _ => [.si .i64 ((k + i : Nat) : Int)]) (lC L) (lC (((k + i : Nat) : Int) :: L)) (g.ok _ _ _) cont_any rfl rfl rfl rfl rfl rfl rfl rfl rfl rfl rfl rfl (Nat.le_of_ble_eq_true rfl) (Nat.le_of_ble_eq_true rfl) rfl rfl rfl rfl (by decide) (fun q hq => ?_) ?_
            · cases q with
              | zero => rfl
              | succ q => rfl
            refine any_step [0] (g.ok _ _ _) (by kernel_rfl) (by decide) ⟨?_, trivial⟩
            refine any_step [8] (g.ok _ _ _) (by kernel_rfl) (by decide) ⟨?_, trivial⟩
            refine fb_call (g.ok _ _ _) cont_any rfl rfl rfl rfl ?_
            refine ⟨b94, ?_⟩
            refine callS_sub ([(18, .vec 3 1 3 (lC (((k + i : Nat) : Int) :: L))), (16, .vec 3 1 2 (lC L)), (14, .vec 3 1 1 (lC g1)), (12, .vec 3 1 0 (lC g0))] ++ hB mk l1 l2 c1 c2 n rd 0 false) ?_ ?_
            · repeat' (first | exact trivial | exact rfl | (intro i hi; exact ⟨rfl, rfl⟩) | refine And.intro ?_ ?_)
            refine s94_3 (k := k) (below := k + i) (by rw [hB']; exact hok) hn (by omega) rfl (by omega) (by omega) (by simp [hL]) (fun x hx => ?_) ?_
            · rcases List.mem_cons.1 hx with rfl | hx
              · omega
              · exact hLb x hx
            rw [hB']
            refine any_done (by kernel_rfl) ?_
            refine Br.mk (fun h4 => ?_) (fun h4 => ?_)
            · have h4 : (onV B k (k + i) (((k + i : Nat) : Int) :: L)).isSome = true := h4
              have hv : onV B (k + 1) below L = onV B k (k + i) (((k + i : Nat) : Int) :: L) := findS_range (f := fun i => onV B k (k + i) (((k + i : Nat) : Int) :: L)) (by omega) hi h4
              have hb : onB B (k + 1) below L = onB B k (k + i) (((k + i : Nat) : Int) :: L) := by rw [onB, onB, hv]
              rw [hv, hb, h4]
              refine ⟨fun j => j, ?_, rfl, rfl, rfl, rfl, rfl⟩
              repeat' (first | exact trivial | exact rfl | (intro i hi; exact ⟨rfl, rfl⟩) | refine And.intro ?_ ?_)
            · have h4 : (onV B k (k + i) (((k + i : Nat) : Int) :: L)).isSome = false := h4
              have hv : onV B k (k + i) (((k + i : Nat) : Int) :: L) = none := by simpa using h4
              have hb : onB B k (k + i) (((k + i : Nat) : Int) :: L) = 0 := by rw [onB, hv]
              rw [hv, hb]
              refine Chk.mk (show InK .i64 (((k + i : Nat) : Int) + 1) from ⟨by omega, by omega⟩) ⟨⟨i + 1, fun j hj => ?_⟩, ?_, (by show below - (k + (i + 1)) < below - (k + i); omega)⟩
              · rcases (show j < i ∨ j = i by omega) with hj | rfl
                · exact hi j hj
                · exact hv
              refine ⟨?_, ?_, rfl, rfl, rfl⟩
              · repeat' (first | exact trivial | exact rfl | (show ((k + i : Nat) : Int) + 1 = ((k + (i + 1) : Nat) : Int); omega) | refine And.intro ?_ ?_)
              · repeat' (first | exact trivial | exact rfl | (intro i hi; exact rfl) | refine And.intro ?_ ?_)
      · have h3 : ¬ ((k + i : Nat) : Int) < (below : Int) := of_decide_eq_false h3
        have hv : onV B (k + 1) below L = none := findS_none fun j hj => hi j (by omega)
        have hb : onB B (k + 1) below L = 0 := by rw [onB, hv]
        rw [hv, hb]
        refine ⟨fun j => j, ?_, rfl, rfl, rfl, rfl, rfl⟩
        repeat' (first | exact trivial | exact rfl | (intro i hi; exact ⟨rfl, rfl⟩) | refine And.intro ?_ ?_)
theorem s94_1 {mk l1 l2 c1 c2 : Int} {n : Nat} {rd : Nat → Rd} (hok : blkOk ⟨mk, l1, l2, c1, c2, (List.range n).map rd⟩ = true) (hn : n ≤ 5) {k below : Nat} {kk bb : Int} (hkk : kk = (k : Int)) (hbb : bb = (below : Int)) (hkd : k + 1 ≤ n) (hbn : below ≤ n) {L : List Int} (hL : L.length = 1) (hLb : ∀ x ∈ L, 0 ≤ x ∧ x < (n : Int))
    {g0 : List Int}
    {Rv : SV → List (Nat × HB) → Nat → Prop} {Rp : List PanicEntry → List (Nat × HB) → Nat → Prop}
    (hRv : Rv (.sb (onV ⟨mk, l1, l2, c1, c2, (List.range n).map rd⟩ k below L).isSome) ([(14, .vec 3 1 1 (lC L)), (12, .vec 3 1 0 (lC g0))] ++ hB mk l1 l2 c1 c2 n rd (onB ⟨mk, l1, l2, c1, c2, (List.range n).map rd⟩ k below L) (onV ⟨mk, l1, l2, c1, c2, (List.range n).map rd⟩ k below L).isSome) 15) :
    CallS P 94 [.si .i64 kk, .si .i64 bb, .sl 14, .sp 8 0, .sp 9 0, .sp 10 0, .sp 11 0] ([(14, .vec 3 1 1 (lC L)), (12, .vec 3 1 0 (lC g0))] ++ hB mk l1 l2 c1 c2 n rd 0 false) 15 Rv Rp := by
  have g := g93 good0
  refine callS_to g.ok Try.func94 (c := code Try.f94) rfl (Nat.le_of_ble_eq_true rfl) _ _ _ (fun G2 hG2 => ?_) hRv
  obtain ⟨B, hB'⟩ : ∃ B : Blk, (⟨mk, l1, l2, c1, c2, (List.range n).map rd⟩ : Blk) = B := ⟨_, rfl⟩
  have hB2 : (⟨mk, l1, l2, c1, c2, rdL n fun i => rdC (rd i)⟩ : Blk) = B := hB'
  rw [hB'] at hok ⊢
  have hnth : ∀ i, i < 1 → 0 ≤ L.getD i 0 ∧ L.getD i 0 < (n : Int) := fun i hi => by
    refine hLb _ ?_
    rw [List.getD_eq_getElem?_getD, List.getElem?_eq_getElem (by omega)]
    exact List.getElem_mem _
  subst hkk hbb
  refine Br.mk (fun h => ?_) (fun h => ?_)
  · replace h : (k : Int) = 0 := of_decide_eq_true h
    obtain rfl : k = 0 := by omega
    have hlc : intL 1 (lC L) = L := by rw [← hL]; exact lC_list L
    refine Chk.mk ⟨rds_rd _ _, by rw [hB2]; exact hok, lC_ints _ _, by omega, hnth⟩ ?_
    refine Br.mk (fun h2 => ?_) (fun h2 => ?_)
    · have h2 : decide (0 < (pairsV (subV ⟨mk, l1, l2, c1, c2, rdL n fun i => rdC (rd i)⟩ (intL 1 (lC L)))).length) = true := h2
      rw [hlc, hB2] at h2
      have hon : onV B 0 below L = none := by rw [onV, canB, h2]; rfl
      have honb : onB B 0 below L = 0 := by rw [onB, hon]
      rw [hon, honb]
      refine ⟨fun j => j, ?_, rfl, rfl, rfl, rfl, rfl⟩
      repeat' (first | exact trivial | exact rfl | (intro i hi; exact ⟨rfl, rfl⟩) | refine And.intro ?_ ?_)
    · have h2 : decide (0 < (pairsV (subV ⟨mk, l1, l2, c1, c2, rdL n fun i => rdC (rd i)⟩ (intL 1 (lC L)))).length) = false := h2
      rw [hlc, hB2] at h2
      have hon : onV B 0 below L = some L := by rw [onV, canB, h2]; rfl
      have honb : onB B 0 below L = bst L 1 := by rw [onB, hon, ← hL]
      rw [hon, honb]
      have hbb : ∀ i, i ≤ 1 → 0 ≤ bst L i ∧ bst L i < 32 := fun i hi => bst_b (fun x hx => by have := hLb x hx; omega) i (by omega)
      refine loop_ok (g.ok _ _ _) (fun x : {i : Nat // i ≤ 1} => ⟨[(4, ⟨[], .sp 9 0⟩), (5, ⟨[], .sp 10 0⟩), (19, ⟨[], .sl 14⟩), (20, ⟨[], .si .i64 (1 : Nat)⟩), (21, ⟨[], .si .i64 (x.1 : Nat)⟩)], [],
        [(14, .vec 3 1 1 (lC L)), (12, .vec 3 1 0 (lC g0))] ++ hB mk l1 l2 c1 c2 n rd (bst L x.1) false, 15, []⟩) (fun x => 1 - x.1) (fun _ j hj => hG2 j hj) ⟨0, Nat.zero_le _⟩ ?_ ?_
      · refine ⟨?_, ?_, rfl, rfl, rfl⟩
        · repeat' (first | exact trivial | exact rfl | refine And.intro ?_ ?_)
        · repeat' (first | exact trivial | exact rfl | (intro i hi; exact rfl) | refine And.intro ?_ ?_)
      · rintro ⟨i, hi⟩
        refine Br.mk (fun h3 => ?_) (fun h3 => ?_)
        · have h3 : (i : Int) < ((1 : Nat) : Int) := of_decide_eq_true h3
          have hb1 := hbb i hi
          have hb2 := hbb (i + 1) (by omega)
          have hx := hnth i (by omega)
          have hp : (0 : Int) ≤ 1 * 2 ^ (L.getD i 0).toNat ∧ (1 : Int) * 2 ^ (L.getD i 0).toNat ≤ 16 := by
            rcases (show L.getD i 0 = 0 ∨ L.getD i 0 = 1 ∨ L.getD i 0 = 2 ∨ L.getD i 0 = 3 ∨ L.getD i 0 = 4 by omega) with h | h | h | h | h <;> rw [h] <;> decide
          refine Chk.mk (show (0 : Int) ≤ (i : Int) ∧ (i : Int) < ((1 : Nat) : Int) from ⟨by omega, h3⟩) ?_
          refine drawn_ok (g.ok _ _ _) fol [0,0,2,7,15] [(4, 9)] 5 (by kernel_rfl) ?_
          refine Chk.mk (show 0 ≤ L.getD i 0 ∧ (L.getD i 0).toNat ≤ 64 ∧ InK .i64 (1 * 2 ^ (L.getD i 0).toNat) from ⟨by omega, by omega, by have := hp; exact ⟨by omega, by omega⟩⟩) ?_
          refine Chk.mk (show 0 ≤ bst L i ∧ (0 : Int) ≤ 1 * 2 ^ (L.getD i 0).toNat ∧ InK .i64 (bst L i) ∧ InK .i64 (1 * 2 ^ (L.getD i 0).toNat) from ⟨by omega, by omega, ⟨by omega, by omega⟩, by have := hp; exact ⟨by omega, by omega⟩⟩) ?_
          refine Chk.mk (show InK .i64 ((i : Int) + 1) from ⟨by omega, by omega⟩) ⟨⟨i + 1, by omega⟩, ?_, (by show 1 - (i + 1) < 1 - i; omega)⟩
          refine ⟨?_, ?_, rfl, rfl, rfl⟩
          · repeat' (first | exact trivial | exact rfl | refine And.intro ?_ ?_)
          · repeat' (first | exact trivial | exact rfl | (intro i hi; exact rfl) | refine And.intro ?_ ?_)
        · have h3 : ¬ (i : Int) < ((1 : Nat) : Int) := of_decide_eq_false h3
          obtain rfl : i = 1 := by omega
          refine ⟨fun j => j, ?_, rfl, rfl, rfl, rfl, rfl⟩
          repeat' (first | exact trivial | exact rfl | (intro i hi; exact ⟨rfl, rfl⟩) | refine And.intro ?_ ?_)
  · replace h : ¬ (k : Int) = 0 := of_decide_eq_false h
    obtain ⟨k, rfl⟩ : ∃ j, k = j + 1 := ⟨k - 1, by omega⟩
    have hk1 : ((k + 1 : Nat) : Int) - 1 = (k : Int) := by omega
    refine Chk.mk (show InK .i64 (((k + 1 : Nat) : Int) - 1) from ⟨by omega, by omega⟩) ?_
    refine loop_ok (g.ok _ _ _) (fun x : {i : Nat // ∀ j, j < i → onV B k (k + j) (((k + j : Nat) : Int) :: L) = none} => ⟨[(0, ⟨[], .si .i64 ((k + 1 : Nat) : Int)⟩), (1, ⟨[], .si .i64 (below : Int)⟩), (2, ⟨[], .sl 14⟩), (6, ⟨[], .sp 11 0⟩), (13, ⟨[], .si .i64 ((k + x.1 : Nat) : Int)⟩)], [],
      [(14, .vec 3 1 1 (lC L)), (12, .vec 3 1 0 (lC g0))] ++ hB mk l1 l2 c1 c2 n rd 0 false, 15, []⟩) (fun x => below - (k + x.1)) (fun _ j hj => hG2 j hj) ⟨0, fun j hj => by omega⟩ ?_ ?_
    · refine ⟨?_, ?_, rfl, rfl, rfl⟩
      · repeat' (first | exact trivial | exact rfl | (show ((k + 1 : Nat) : Int) - 1 = ((k + 0 : Nat) : Int); omega) | refine And.intro ?_ ?_)
      · repeat' (first | exact trivial | exact rfl | (intro i hi; exact rfl) | refine And.intro ?_ ?_)
    · rintro ⟨i, hi⟩
      refine Br.mk (fun h3 => ?_) (fun h3 => ?_)
      · have h3 : ((k + i : Nat) : Int) < (below : Int) := of_decide_eq_true h3
        refine any_region (by kernel_rfl) ?_
        show AnyS _ _ 9 _ _ _
        refine any_take 1 (g.ok _ _ _) rfl rfl rfl rfl rfl rfl rfl (by kernel_rfl) (by kernel_rfl) (by kernel_rfl) ?_
        refine any_take 2 (g.ok _ _ _) rfl rfl rfl rfl rfl rfl rfl (by kernel_rfl) (by kernel_rfl) (by kernel_rfl) ?_
        refine Chk.mk (show InK .i64 (((k + 1 : Nat) : Int) - 1) from ⟨by omega, by omega⟩) ?_
        refine any_take 3 (g.ok _ _ _) rfl rfl rfl rfl rfl rfl rfl (by kernel_rfl) (by kernel_rfl) (by kernel_rfl) ?_
        refine any_take 4 (g.ok _ _ _) rfl rfl rfl rfl rfl rfl rfl (by kernel_rfl) (by kernel_rfl) (by kernel_rfl) ?_
        refine any_take 6 (g.ok _ _ _) rfl rfl rfl rfl rfl rfl rfl (by kernel_rfl) (by kernel_rfl) (by kernel_rfl) ?_
        have hcall : True := trivial
        refine any_step [0, 5] (g.ok _ _ _) (by kernel_rfl) (by decide) ⟨?_, ?_, trivial⟩
        · skip
          refine any_step [5] (g.ok _ _ _) (by kernel_rfl) (by decide) ⟨?_, trivial⟩
          refine any_step [7] (g.ok _ _ _) (by kernel_rfl) (by decide) ⟨?_, trivial⟩
          refine fb_row 15 3 1 1 [.si .i64 ((k + i : Nat) : Int)] (fun _ => [.si .i64 ((k + i : Nat) : Int)]) rfl (fun q hq => ?_) ?_
          · obtain rfl : q = 0 := by omega
            rfl
          refine fb_append (Te := 0) 15 14 1 1 (fun _ => [.si .i64 ((k + i : Nat) : Int)]) (lC L) (lC (((k + i : Nat) : Int) :: L)) (g.ok _ _ _) cont_any rfl rfl rfl rfl rfl rfl rfl rfl rfl rfl rfl rfl (Nat.le_of_ble_eq_true rfl) (Nat.le_of_ble_eq_true rfl) rfl rfl rfl rfl (by decide) (fun q hq => ?_) ?_
          · cases q with
            | zero => rfl
            | succ q => rfl
          refine any_step [8] (g.ok _ _ _) (by kernel_rfl) (by decide) ⟨?_, trivial⟩
          refine fb_call (g.ok _ _ _) cont_any rfl rfl rfl rfl ?_
          refine ⟨b94, ?_⟩
          refine callS_sub ([(16, .vec 3 1 2 (lC (((k + i : Nat) : Int) :: L))), (14, .vec 3 1 1 (lC L)), (12, .vec 3 1 0 (lC g0))] ++ hB mk l1 l2 c1 c2 n rd 0 false) ?_ ?_
          · repeat' (first | exact trivial | exact rfl | (intro i hi; exact ⟨rfl, rfl⟩) | refine And.intro ?_ ?_)
          refine s94_2 (k := k) (below := k + i) (by rw [hB']; exact hok) hn (by omega) rfl (by omega) (by omega) (by simp [hL]) (fun x hx => ?_) ?_
          · rcases List.mem_cons.1 hx with rfl | hx
            · omega
            · exact hLb x hx
          rw [hB']
          refine any_done (by kernel_rfl) ?_
          refine Br.mk (fun h4 => ?_) (fun h4 => ?_)
          · have h4 : (onV B k (k + i) (((k + i : Nat) : Int) :: L)).isSome = true := h4
            have hv : onV B (k + 1) below L = onV B k (k + i) (((k + i : Nat) : Int) :: L) := findS_range (f := fun i => onV B k (k + i) (((k + i : Nat) : Int) :: L)) (by omega) hi h4
            have hb : onB B (k + 1) below L = onB B k (k + i) (((k + i : Nat) : Int) :: L) := by rw [onB, onB, hv]
            rw [hv, hb, h4]
            refine ⟨fun j => j, ?_, rfl, rfl, rfl, rfl, rfl⟩
            repeat' (first | exact trivial | exact rfl | (intro i hi; exact ⟨rfl, rfl⟩) | refine And.intro ?_ ?_)
          · have h4 : (onV B k (k + i) (((k + i : Nat) : Int) :: L)).isSome = false := h4
            have hv : onV B k (k + i) (((k + i : Nat) : Int) :: L) = none := by simpa using h4
            have hb : onB B k (k + i) (((k + i : Nat) : Int) :: L) = 0 := by rw [onB, hv]
            rw [hv, hb]
            refine Chk.mk (show InK .i64 (((k + i : Nat) : Int) + 1) from ⟨by omega, by omega⟩) ⟨⟨i + 1, fun j hj => ?_⟩, ?_, (by show below - (k + (i + 1)) < below - (k + i); omega)⟩
            · rcases (show j < i ∨ j = i by omega) with hj | rfl
              · exact hi j hj
              · exact hv
            refine ⟨?_, ?_, rfl, rfl, rfl⟩
            · repeat' (first | exact trivial | exact rfl | (show ((k + i : Nat) : Int) + 1 = ((k + (i + 1) : Nat) : Int); omega) | refine And.intro ?_ ?_)
            · repeat' (first | exact trivial | exact rfl | (intro i hi; exact rfl) | refine And.intro ?_ ?_)
        · skip
          refine any_step [0, 7] (g.ok _ _ _) (by kernel_rfl) (by decide) ⟨?_, ?_, trivial⟩
          · skip
            refine any_step [7] (g.ok _ _ _) (by kernel_rfl) (by decide) ⟨?_, trivial⟩
            refine fb_row 15 3 1 1 [.si .i64 ((k + i : Nat) : Int)] (fun _ => [.si .i64 ((k + i : Nat) : Int)]) rfl (fun q hq => ?_) ?_
            · obtain rfl : q = 0 := by omega
              rfl
            refine fb_append (Te := 0) 15 14 1 1 (fun _ => [.si .i64 ((k + i : Nat) : Int)]) (lC L) (lC (((k + i : Nat) : Int) :: L)) (g.ok _ _ _) cont_any rfl rfl rfl rfl rfl rfl rfl rfl rfl rfl rfl rfl (Nat.le_of_ble_eq_true rfl) (Nat.le_of_ble_eq_true rfl) rfl rfl rfl rfl (by decide) (fun q hq => ?_) ?_
            · cases q with
              | zero => rfl
              | succ q => rfl
            refine any_step [8] (g.ok _ _ _) (by kernel_rfl) (by decide) ⟨?_, trivial⟩
            refine fb_call (g.ok _ _ _) cont_any rfl rfl rfl rfl ?_
            refine ⟨b94, ?_⟩
            refine callS_sub ([(16, .vec 3 1 2 (lC (((k + i : Nat) : Int) :: L))), (14, .vec 3 1 1 (lC L)), (12, .vec 3 1 0 (lC g0))] ++ hB mk l1 l2 c1 c2 n rd 0 false) ?_ ?_
            · repeat' (first | exact trivial | exact rfl | (intro i hi; exact ⟨rfl, rfl⟩) | refine And.intro ?_ ?_)
            refine s94_2 (k := k) (below := k + i) (by rw [hB']; exact hok) hn (by omega) rfl (by omega) (by omega) (by simp [hL]) (fun x hx => ?_) ?_
            · rcases List.mem_cons.1 hx with rfl | hx
              · omega
              · exact hLb x hx
            rw [hB']
            refine any_done (by kernel_rfl) ?_
            refine Br.mk (fun h4 => ?_) (fun h4 => ?_)
            · have h4 : (onV B k (k + i) (((k + i : Nat) : Int) :: L)).isSome = true := h4
              have hv : onV B (k + 1) below L = onV B k (k + i) (((k + i : Nat) : Int) :: L) := findS_range (f := fun i => onV B k (k + i) (((k + i : Nat) : Int) :: L)) (by omega) hi h4
              have hb : onB B (k + 1) below L = onB B k (k + i) (((k + i : Nat) : Int) :: L) := by rw [onB, onB, hv]
              rw [hv, hb, h4]
              refine ⟨fun j => j, ?_, rfl, rfl, rfl, rfl, rfl⟩
              repeat' (first | exact trivial | exact rfl | (intro i hi; exact ⟨rfl, rfl⟩) | refine And.intro ?_ ?_)
            · have h4 : (onV B k (k + i) (((k + i : Nat) : Int) :: L)).isSome = false := h4
              have hv : onV B k (k + i) (((k + i : Nat) : Int) :: L) = none := by simpa using h4
              have hb : onB B k (k + i) (((k + i : Nat) : Int) :: L) = 0 := by rw [onB, hv]
              rw [hv, hb]
              refine Chk.mk (show InK .i64 (((k + i : Nat) : Int) + 1) from ⟨by omega, by omega⟩) ⟨⟨i + 1, fun j hj => ?_⟩, ?_, (by show below - (k + (i + 1)) < below - (k + i); omega)⟩
              · rcases (show j < i ∨ j = i by omega) with hj | rfl
                · exact hi j hj
                · exact hv
              refine ⟨?_, ?_, rfl, rfl, rfl⟩
              · repeat' (first | exact trivial | exact rfl | (show ((k + i : Nat) : Int) + 1 = ((k + (i + 1) : Nat) : Int); omega) | refine And.intro ?_ ?_)
              · repeat' (first | exact trivial | exact rfl | (intro i hi; exact rfl) | refine And.intro ?_ ?_)
          · skip
            refine fb_row 15 3 1 1 [.si .i64 ((k + i : Nat) : Int)] (fun _ => [.si .i64 ((k + i : Nat) : Int)]) rfl (fun q hq => ?_) ?_
            · obtain rfl : q = 0 := by omega
              rfl
            refine fb_append (Te := 0) 15 14 1 1 (fun _ => [.si .i64 ((k + i : Nat) : Int)]) (lC L) (lC (((k + i : Nat) : Int) :: L)) (g.ok _ _ _) cont_any rfl rfl rfl rfl rfl rfl rfl rfl rfl rfl rfl rfl (Nat.le_of_ble_eq_true rfl) (Nat.le_of_ble_eq_true rfl) rfl rfl rfl rfl (by decide) (fun q hq => ?_) ?_
            · cases q with
              | zero => rfl
              | succ q => rfl
            refine any_step [0] (g.ok _ _ _) (by kernel_rfl) (by decide) ⟨?_, trivial⟩
            refine any_step [8] (g.ok _ _ _) (by kernel_rfl) (by decide) ⟨?_, trivial⟩
            refine fb_call (g.ok _ _ _) cont_any rfl rfl rfl rfl ?_
            refine ⟨b94, ?_⟩
            refine callS_sub ([(16, .vec 3 1 2 (lC (((k + i : Nat) : Int) :: L))), (14, .vec 3 1 1 (lC L)), (12, .vec 3 1 0 (lC g0))] ++ hB mk l1 l2 c1 c2 n rd 0 false) ?_ ?_
            · repeat' (first | exact trivial | exact rfl | (intro i hi; exact ⟨rfl, rfl⟩) | refine And.intro ?_ ?_)
            refine s94_2 (k := k) (below := k + i) (by rw [hB']; exact hok) hn (by omega) rfl (by omega) (by omega) (by simp [hL]) (fun x hx => ?_) ?_
            · rcases List.mem_cons.1 hx with rfl | hx
              · omega
              · exact hLb x hx
            rw [hB']
            refine any_done (by kernel_rfl) ?_
            refine Br.mk (fun h4 => ?_) (fun h4 => ?_)
            · have h4 : (onV B k (k + i) (((k + i : Nat) : Int) :: L)).isSome = true := h4
              have hv : onV B (k + 1) below L = onV B k (k + i) (((k + i : Nat) : Int) :: L) := findS_range (f := fun i => onV B k (k + i) (((k + i : Nat) : Int) :: L)) (by omega) hi h4
              have hb : onB B (k + 1) below L = onB B k (k + i) (((k + i : Nat) : Int) :: L) := by rw [onB, onB, hv]
              rw [hv, hb, h4]
              refine ⟨fun j => j, ?_, rfl, rfl, rfl, rfl, rfl⟩
              repeat' (first | exact trivial | exact rfl | (intro i hi; exact ⟨rfl, rfl⟩) | refine And.intro ?_ ?_)
            · have h4 : (onV B k (k + i) (((k + i : Nat) : Int) :: L)).isSome = false := h4
              have hv : onV B k (k + i) (((k + i : Nat) : Int) :: L) = none := by simpa using h4
              have hb : onB B k (k + i) (((k + i : Nat) : Int) :: L) = 0 := by rw [onB, hv]
              rw [hv, hb]
              refine Chk.mk (show InK .i64 (((k + i : Nat) : Int) + 1) from ⟨by omega, by omega⟩) ⟨⟨i + 1, fun j hj => ?_⟩, ?_, (by show below - (k + (i + 1)) < below - (k + i); omega)⟩
              · rcases (show j < i ∨ j = i by omega) with hj | rfl
                · exact hi j hj
                · exact hv
              refine ⟨?_, ?_, rfl, rfl, rfl⟩
              · repeat' (first | exact trivial | exact rfl | (show ((k + i : Nat) : Int) + 1 = ((k + (i + 1) : Nat) : Int); omega) | refine And.intro ?_ ?_)
              · repeat' (first | exact trivial | exact rfl | (intro i hi; exact rfl) | refine And.intro ?_ ?_)
      · have h3 : ¬ ((k + i : Nat) : Int) < (below : Int) := of_decide_eq_false h3
        have hv : onV B (k + 1) below L = none := findS_none fun j hj => hi j (by omega)
        have hb : onB B (k + 1) below L = 0 := by rw [onB, hv]
        rw [hv, hb]
        refine ⟨fun j => j, ?_, rfl, rfl, rfl, rfl, rfl⟩
        repeat' (first | exact trivial | exact rfl | (intro i hi; exact ⟨rfl, rfl⟩) | refine And.intro ?_ ?_)
theorem s94_0 {mk l1 l2 c1 c2 : Int} {n : Nat} {rd : Nat → Rd} (hok : blkOk ⟨mk, l1, l2, c1, c2, (List.range n).map rd⟩ = true) (hn : n ≤ 5) {k below : Nat} {kk bb : Int} (hkk : kk = (k : Int)) (hbb : bb = (below : Int)) (hkd : k + 0 ≤ n) (hbn : below ≤ n) {L : List Int} (hL : L.length = 0) (hLb : ∀ x ∈ L, 0 ≤ x ∧ x < (n : Int))
    {Rv : SV → List (Nat × HB) → Nat → Prop} {Rp : List PanicEntry → List (Nat × HB) → Nat → Prop}
    (hRv : Rv (.sb (onV ⟨mk, l1, l2, c1, c2, (List.range n).map rd⟩ k below L).isSome) ([(12, .vec 3 1 0 (lC L))] ++ hB mk l1 l2 c1 c2 n rd (onB ⟨mk, l1, l2, c1, c2, (List.range n).map rd⟩ k below L) (onV ⟨mk, l1, l2, c1, c2, (List.range n).map rd⟩ k below L).isSome) 13) :
    CallS P 94 [.si .i64 kk, .si .i64 bb, .sl 12, .sp 8 0, .sp 9 0, .sp 10 0, .sp 11 0] ([(12, .vec 3 1 0 (lC L))] ++ hB mk l1 l2 c1 c2 n rd 0 false) 13 Rv Rp := by
  have g := g93 good0
  refine callS_to g.ok Try.func94 (c := code Try.f94) rfl (Nat.le_of_ble_eq_true rfl) _ _ _ (fun G2 hG2 => ?_) hRv
  obtain ⟨B, hB'⟩ : ∃ B : Blk, (⟨mk, l1, l2, c1, c2, (List.range n).map rd⟩ : Blk) = B := ⟨_, rfl⟩
  have hB2 : (⟨mk, l1, l2, c1, c2, rdL n fun i => rdC (rd i)⟩ : Blk) = B := hB'
  rw [hB'] at hok ⊢
  have hnth : ∀ i, i < 0 → 0 ≤ L.getD i 0 ∧ L.getD i 0 < (n : Int) := fun i hi => by
    refine hLb _ ?_
    rw [List.getD_eq_getElem?_getD, List.getElem?_eq_getElem (by omega)]
    exact List.getElem_mem _
  subst hkk hbb
  refine Br.mk (fun h => ?_) (fun h => ?_)
  · replace h : (k : Int) = 0 := of_decide_eq_true h
    obtain rfl : k = 0 := by omega
    have hlc : intL 0 (lC L) = L := by rw [← hL]; exact lC_list L
    refine Chk.mk ⟨rds_rd _ _, by rw [hB2]; exact hok, lC_ints _ _, by omega, hnth⟩ ?_
    refine Br.mk (fun h2 => ?_) (fun h2 => ?_)
    · have h2 : decide (0 < (pairsV (subV ⟨mk, l1, l2, c1, c2, rdL n fun i => rdC (rd i)⟩ (intL 0 (lC L)))).length) = true := h2
      rw [hlc, hB2] at h2
      have hon : onV B 0 below L = none := by rw [onV, canB, h2]; rfl
      have honb : onB B 0 below L = 0 := by rw [onB, hon]
      rw [hon, honb]
      refine ⟨fun j => j, ?_, rfl, rfl, rfl, rfl, rfl⟩
      repeat' (first | exact trivial | exact rfl | (intro i hi; exact ⟨rfl, rfl⟩) | refine And.intro ?_ ?_)
    · have h2 : decide (0 < (pairsV (subV ⟨mk, l1, l2, c1, c2, rdL n fun i => rdC (rd i)⟩ (intL 0 (lC L)))).length) = false := h2
      rw [hlc, hB2] at h2
      have hon : onV B 0 below L = some L := by rw [onV, canB, h2]; rfl
      have honb : onB B 0 below L = bst L 0 := by rw [onB, hon, ← hL]
      rw [hon, honb]
      have hbb : ∀ i, i ≤ 0 → 0 ≤ bst L i ∧ bst L i < 32 := fun i hi => bst_b (fun x hx => by have := hLb x hx; omega) i (by omega)
      refine loop_ok (g.ok _ _ _) (fun x : {i : Nat // i ≤ 0} => ⟨[(4, ⟨[], .sp 9 0⟩), (5, ⟨[], .sp 10 0⟩), (19, ⟨[], .sl 12⟩), (20, ⟨[], .si .i64 (0 : Nat)⟩), (21, ⟨[], .si .i64 (x.1 : Nat)⟩)], [],
        [(12, .vec 3 1 0 (lC L))] ++ hB mk l1 l2 c1 c2 n rd (bst L x.1) false, 13, []⟩) (fun x => 0 - x.1) (fun _ j hj => hG2 j hj) ⟨0, Nat.zero_le _⟩ ?_ ?_
      · refine ⟨?_, ?_, rfl, rfl, rfl⟩
        · repeat' (first | exact trivial | exact rfl | refine And.intro ?_ ?_)
        · repeat' (first | exact trivial | exact rfl | (intro i hi; exact rfl) | refine And.intro ?_ ?_)
      · rintro ⟨i, hi⟩
        refine Br.mk (fun h3 => ?_) (fun h3 => ?_)
        · have h3 : (i : Int) < ((0 : Nat) : Int) := of_decide_eq_true h3
          exfalso
          omega
        · have h3 : ¬ (i : Int) < ((0 : Nat) : Int) := of_decide_eq_false h3
          obtain rfl : i = 0 := by omega
          refine ⟨fun j => j, ?_, rfl, rfl, rfl, rfl, rfl⟩
          repeat' (first | exact trivial | exact rfl | (intro i hi; exact ⟨rfl, rfl⟩) | refine And.intro ?_ ?_)
  · replace h : ¬ (k : Int) = 0 := of_decide_eq_false h
    obtain ⟨k, rfl⟩ : ∃ j, k = j + 1 := ⟨k - 1, by omega⟩
    have hk1 : ((k + 1 : Nat) : Int) - 1 = (k : Int) := by omega
    refine Chk.mk (show InK .i64 (((k + 1 : Nat) : Int) - 1) from ⟨by omega, by omega⟩) ?_
    refine loop_ok (g.ok _ _ _) (fun x : {i : Nat // ∀ j, j < i → onV B k (k + j) (((k + j : Nat) : Int) :: L) = none} => ⟨[(0, ⟨[], .si .i64 ((k + 1 : Nat) : Int)⟩), (1, ⟨[], .si .i64 (below : Int)⟩), (2, ⟨[], .sl 12⟩), (6, ⟨[], .sp 11 0⟩), (13, ⟨[], .si .i64 ((k + x.1 : Nat) : Int)⟩)], [],
      [(12, .vec 3 1 0 (lC L))] ++ hB mk l1 l2 c1 c2 n rd 0 false, 13, []⟩) (fun x => below - (k + x.1)) (fun _ j hj => hG2 j hj) ⟨0, fun j hj => by omega⟩ ?_ ?_
    · refine ⟨?_, ?_, rfl, rfl, rfl⟩
      · repeat' (first | exact trivial | exact rfl | (show ((k + 1 : Nat) : Int) - 1 = ((k + 0 : Nat) : Int); omega) | refine And.intro ?_ ?_)
      · repeat' (first | exact trivial | exact rfl | (intro i hi; exact rfl) | refine And.intro ?_ ?_)
    · rintro ⟨i, hi⟩
      refine Br.mk (fun h3 => ?_) (fun h3 => ?_)
      · have h3 : ((k + i : Nat) : Int) < (below : Int) := of_decide_eq_true h3
        refine any_region (by kernel_rfl) ?_
        show AnyS _ _ 9 _ _ _
        refine any_take 1 (g.ok _ _ _) rfl rfl rfl rfl rfl rfl rfl (by kernel_rfl) (by kernel_rfl) (by kernel_rfl) ?_
        refine any_take 2 (g.ok _ _ _) rfl rfl rfl rfl rfl rfl rfl (by kernel_rfl) (by kernel_rfl) (by kernel_rfl) ?_
        refine Chk.mk (show InK .i64 (((k + 1 : Nat) : Int) - 1) from ⟨by omega, by omega⟩) ?_
        refine any_take 3 (g.ok _ _ _) rfl rfl rfl rfl rfl rfl rfl (by kernel_rfl) (by kernel_rfl) (by kernel_rfl) ?_
        refine any_take 4 (g.ok _ _ _) rfl rfl rfl rfl rfl rfl rfl (by kernel_rfl) (by kernel_rfl) (by kernel_rfl) ?_
        refine any_take 6 (g.ok _ _ _) rfl rfl rfl rfl rfl rfl rfl (by kernel_rfl) (by kernel_rfl) (by kernel_rfl) ?_
        have hcall : True := trivial
        refine any_step [0, 5] (g.ok _ _ _) (by kernel_rfl) (by decide) ⟨?_, ?_, trivial⟩
        · skip
          refine any_step [5] (g.ok _ _ _) (by kernel_rfl) (by decide) ⟨?_, trivial⟩
          refine any_step [7] (g.ok _ _ _) (by kernel_rfl) (by decide) ⟨?_, trivial⟩
          refine fb_row 13 3 1 1 [.si .i64 ((k + i : Nat) : Int)] (fun _ => [.si .i64 ((k + i : Nat) : Int)]) rfl (fun q hq => ?_) ?_
          · obtain rfl : q = 0 := by omega
            rfl
          refine fb_append (Te := 0) 13 12 1 0 (fun _ => [.si .i64 ((k + i : Nat) : Int)]) (lC L) (lC (((k + i : Nat) : Int) :: L)) (g.ok _ _ _) cont_any rfl rfl rfl rfl rfl rfl rfl rfl rfl rfl rfl rfl (Nat.le_of_ble_eq_true rfl) (Nat.le_of_ble_eq_true rfl) rfl rfl rfl rfl (by decide) (fun q hq => ?_) ?_
          · cases q with
            | zero => rfl
            | succ q => rfl
          refine any_step [8] (g.ok _ _ _) (by kernel_rfl) (by decide) ⟨?_, trivial⟩
          refine fb_call (g.ok _ _ _) cont_any rfl rfl rfl rfl ?_
          refine ⟨b94, ?_⟩
          refine callS_sub ([(14, .vec 3 1 1 (lC (((k + i : Nat) : Int) :: L))), (12, .vec 3 1 0 (lC L))] ++ hB mk l1 l2 c1 c2 n rd 0 false) ?_ ?_
          · repeat' (first | exact trivial | exact rfl | (intro i hi; exact ⟨rfl, rfl⟩) | refine And.intro ?_ ?_)
          refine s94_1 (k := k) (below := k + i) (by rw [hB']; exact hok) hn (by omega) rfl (by omega) (by omega) (by simp [hL]) (fun x hx => ?_) ?_
          · rcases List.mem_cons.1 hx with rfl | hx
            · omega
            · exact hLb x hx
          rw [hB']
          refine any_done (by kernel_rfl) ?_
          refine Br.mk (fun h4 => ?_) (fun h4 => ?_)
          · have h4 : (onV B k (k + i) (((k + i : Nat) : Int) :: L)).isSome = true := h4
            have hv : onV B (k + 1) below L = onV B k (k + i) (((k + i : Nat) : Int) :: L) := findS_range (f := fun i => onV B k (k + i) (((k + i : Nat) : Int) :: L)) (by omega) hi h4
            have hb : onB B (k + 1) below L = onB B k (k + i) (((k + i : Nat) : Int) :: L) := by rw [onB, onB, hv]
            rw [hv, hb, h4]
            refine ⟨fun j => j, ?_, rfl, rfl, rfl, rfl, rfl⟩
            repeat' (first | exact trivial | exact rfl | (intro i hi; exact ⟨rfl, rfl⟩) | refine And.intro ?_ ?_)
          · have h4 : (onV B k (k + i) (((k + i : Nat) : Int) :: L)).isSome = false := h4
            have hv : onV B k (k + i) (((k + i : Nat) : Int) :: L) = none := by simpa using h4
            have hb : onB B k (k + i) (((k + i : Nat) : Int) :: L) = 0 := by rw [onB, hv]
            rw [hv, hb]
            refine Chk.mk (show InK .i64 (((k + i : Nat) : Int) + 1) from ⟨by omega, by omega⟩) ⟨⟨i + 1, fun j hj => ?_⟩, ?_, (by show below - (k + (i + 1)) < below - (k + i); omega)⟩
            · rcases (show j < i ∨ j = i by omega) with hj | rfl
              · exact hi j hj
              · exact hv
            refine ⟨?_, ?_, rfl, rfl, rfl⟩
            · repeat' (first | exact trivial | exact rfl | (show ((k + i : Nat) : Int) + 1 = ((k + (i + 1) : Nat) : Int); omega) | refine And.intro ?_ ?_)
            · repeat' (first | exact trivial | exact rfl | (intro i hi; exact rfl) | refine And.intro ?_ ?_)
        · skip
          refine any_step [0, 7] (g.ok _ _ _) (by kernel_rfl) (by decide) ⟨?_, ?_, trivial⟩
          · skip
            refine any_step [7] (g.ok _ _ _) (by kernel_rfl) (by decide) ⟨?_, trivial⟩
            refine fb_row 13 3 1 1 [.si .i64 ((k + i : Nat) : Int)] (fun _ => [.si .i64 ((k + i : Nat) : Int)]) rfl (fun q hq => ?_) ?_
            · obtain rfl : q = 0 := by omega
              rfl
            refine fb_append (Te := 0) 13 12 1 0 (fun _ => [.si .i64 ((k + i : Nat) : Int)]) (lC L) (lC (((k + i : Nat) : Int) :: L)) (g.ok _ _ _) cont_any rfl rfl rfl rfl rfl rfl rfl rfl rfl rfl rfl rfl (Nat.le_of_ble_eq_true rfl) (Nat.le_of_ble_eq_true rfl) rfl rfl rfl rfl (by decide) (fun q hq => ?_) ?_
            · cases q with
              | zero => rfl
              | succ q => rfl
            refine any_step [8] (g.ok _ _ _) (by kernel_rfl) (by decide) ⟨?_, trivial⟩
            refine fb_call (g.ok _ _ _) cont_any rfl rfl rfl rfl ?_
            refine ⟨b94, ?_⟩
            refine callS_sub ([(14, .vec 3 1 1 (lC (((k + i : Nat) : Int) :: L))), (12, .vec 3 1 0 (lC L))] ++ hB mk l1 l2 c1 c2 n rd 0 false) ?_ ?_
            · repeat' (first | exact trivial | exact rfl | (intro i hi; exact ⟨rfl, rfl⟩) | refine And.intro ?_ ?_)
            refine s94_1 (k := k) (below := k + i) (by rw [hB']; exact hok) hn (by omega) rfl (by omega) (by omega) (by simp [hL]) (fun x hx => ?_) ?_
            · rcases List.mem_cons.1 hx with rfl | hx
              · omega
              · exact hLb x hx
            rw [hB']
            refine any_done (by kernel_rfl) ?_
            refine Br.mk (fun h4 => ?_) (fun h4 => ?_)
            · have h4 : (onV B k (k + i) (((k + i : Nat) : Int) :: L)).isSome = true := h4
              have hv : onV B (k + 1) below L = onV B k (k + i) (((k + i : Nat) : Int) :: L) := findS_range (f := fun i => onV B k (k + i) (((k + i : Nat) : Int) :: L)) (by omega) hi h4
              have hb : onB B (k + 1) below L = onB B k (k + i) (((k + i : Nat) : Int) :: L) := by rw [onB, onB, hv]
              rw [hv, hb, h4]
              refine ⟨fun j => j, ?_, rfl, rfl, rfl, rfl, rfl⟩
              repeat' (first | exact trivial | exact rfl | (intro i hi; exact ⟨rfl, rfl⟩) | refine And.intro ?_ ?_)
            · have h4 : (onV B k (k + i) (((k + i : Nat) : Int) :: L)).isSome = false := h4
              have hv : onV B k (k + i) (((k + i : Nat) : Int) :: L) = none := by simpa using h4
              have hb : onB B k (k + i) (((k + i : Nat) : Int) :: L) = 0 := by rw [onB, hv]
              rw [hv, hb]
              refine Chk.mk (show InK .i64 (((k + i : Nat) : Int) + 1) from ⟨by omega, by omega⟩) ⟨⟨i + 1, fun j hj => ?_⟩, ?_, (by show below - (k + (i + 1)) < below - (k + i); omega)⟩
              · rcases (show j < i ∨ j = i by omega) with hj | rfl
                · exact hi j hj
                · exact hv
              refine ⟨?_, ?_, rfl, rfl, rfl⟩
              · repeat' (first | exact trivial | exact rfl | (show ((k + i : Nat) : Int) + 1 = ((k + (i + 1) : Nat) : Int); omega) | refine And.intro ?_ ?_)
              · repeat' (first | exact trivial | exact rfl | (intro i hi; exact rfl) | refine And.intro ?_ ?_)
          · skip
            refine fb_row 13 3 1 1 [.si .i64 ((k + i : Nat) : Int)] (fun _ => [.si .i64 ((k + i : Nat) : Int)]) rfl (fun q hq => ?_) ?_
            · obtain rfl : q = 0 := by omega
              rfl
            refine fb_append (Te := 0) 13 12 1 0 (fun _ => [.si .i64 ((k + i : Nat) : Int)]) (lC L) (lC (((k + i : Nat) : Int) :: L)) (g.ok _ _ _) cont_any rfl rfl rfl rfl rfl rfl rfl rfl rfl rfl rfl rfl (Nat.le_of_ble_eq_true rfl) (Nat.le_of_ble_eq_true rfl) rfl rfl rfl rfl (by decide) (fun q hq => ?_) ?_
            · cases q with
              | zero => rfl
              | succ q => rfl
            refine any_step [0] (g.ok _ _ _) (by kernel_rfl) (by decide) ⟨?_, trivial⟩
            refine any_step [8] (g.ok _ _ _) (by kernel_rfl) (by decide) ⟨?_, trivial⟩
            refine fb_call (g.ok _ _ _) cont_any rfl rfl rfl rfl ?_
            refine ⟨b94, ?_⟩
            refine callS_sub ([(14, .vec 3 1 1 (lC (((k + i : Nat) : Int) :: L))), (12, .vec 3 1 0 (lC L))] ++ hB mk l1 l2 c1 c2 n rd 0 false) ?_ ?_
            · repeat' (first | exact trivial | exact rfl | (intro i hi; exact ⟨rfl, rfl⟩) | refine And.intro ?_ ?_)
            refine s94_1 (k := k) (below := k + i) (by rw [hB']; exact hok) hn (by omega) rfl (by omega) (by omega) (by simp [hL]) (fun x hx => ?_) ?_
            · rcases List.mem_cons.1 hx with rfl | hx
              · omega
              · exact hLb x hx
            rw [hB']
            refine any_done (by kernel_rfl) ?_
            refine Br.mk (fun h4 => ?_) (fun h4 => ?_)
            · have h4 : (onV B k (k + i) (((k + i : Nat) : Int) :: L)).isSome = true := h4
              have hv : onV B (k + 1) below L = onV B k (k + i) (((k + i : Nat) : Int) :: L) := findS_range (f := fun i => onV B k (k + i) (((k + i : Nat) : Int) :: L)) (by omega) hi h4
              have hb : onB B (k + 1) below L = onB B k (k + i) (((k + i : Nat) : Int) :: L) := by rw [onB, onB, hv]
              rw [hv, hb, h4]
              refine ⟨fun j => j, ?_, rfl, rfl, rfl, rfl, rfl⟩
              repeat' (first | exact trivial | exact rfl | (intro i hi; exact ⟨rfl, rfl⟩) | refine And.intro ?_ ?_)
            · have h4 : (onV B k (k + i) (((k + i : Nat) : Int) :: L)).isSome = false := h4
              have hv : onV B k (k + i) (((k + i : Nat) : Int) :: L) = none := by simpa using h4
              have hb : onB B k (k + i) (((k + i : Nat) : Int) :: L) = 0 := by rw [onB, hv]
              rw [hv, hb]
              refine Chk.mk (show InK .i64 (((k + i : Nat) : Int) + 1) from ⟨by omega, by omega⟩) ⟨⟨i + 1, fun j hj => ?_⟩, ?_, (by show below - (k + (i + 1)) < below - (k + i); omega)⟩
              · rcases (show j < i ∨ j = i by omega) with hj | rfl
                · exact hi j hj
                · exact hv
              refine ⟨?_, ?_, rfl, rfl, rfl⟩
              · repeat' (first | exact trivial | exact rfl | (show ((k + i : Nat) : Int) + 1 = ((k + (i + 1) : Nat) : Int); omega) | refine And.intro ?_ ?_)
              · repeat' (first | exact trivial | exact rfl | (intro i hi; exact rfl) | refine And.intro ?_ ?_)
      · have h3 : ¬ ((k + i : Nat) : Int) < (below : Int) := of_decide_eq_false h3
        have hv : onV B (k + 1) below L = none := findS_none fun j hj => hi j (by omega)
        have hb : onB B (k + 1) below L = 0 := by rw [onB, hv]
        rw [hv, hb]
        refine ⟨fun j => j, ?_, rfl, rfl, rfl, rfl, rfl⟩
        repeat' (first | exact trivial | exact rfl | (intro i hi; exact ⟨rfl, rfl⟩) | refine And.intro ?_ ?_)
end Go.X.W
end
