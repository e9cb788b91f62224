/- Contracts of functions of the document of warm, continued; both answer the same; awake. -/
import Derived.Test.YtipjgdkaocfapaaND

section
set_option linter.unusedVariables false
set_option linter.unusedSimpArgs false
set_option linter.unusedSectionVars false
/- Warm: Count, fine and Room of the document. -/
set_option linter.unusedVariables false
set_option linter.unusedSimpArgs false
set_option maxRecDepth 10000
set_option maxHeartbeats 4000000
namespace Go.X.W
open Go Go.Proofs Go.X

theorem k34 {l : List (Nat × Ct)} (g0 : Good P T l) : COk P 34 c33 := by
  have g := g16 (g86 g0)
  refine cok (C := tabC _) g.ok Try.func34 (c := code Try.f34) rfl fun fr args H out h hp => wmWalk h hp fun mk l1 l2 c1 c2 n rd r p v Rv Rp hk hp hR => ?_
  split at hk
  · cases hk
    refine ⟨Nat.le_of_ble_eq_true rfl, fun G hG => ?_⟩
    obtain ⟨B, hBe⟩ : ∃ B : Blk, (⟨mk, l1, l2, c1, c2, (List.range n).map rd⟩ : Blk) = B := ⟨_, rfl⟩
    have hB' : (⟨mk, l1, l2, c1, c2, rdL n fun i => rdC (rd i)⟩ : Blk) = B := hBe
    rw [hBe] at hR
    refine Chk.mk ⟨rds_rd _ _, rfl, trivial⟩ ?_
    refine Br.mk (fun h => ?_) (fun h => ?_)
    · have h : (!blkOk ⟨mk, l1, l2, c1, c2, rdL n fun i => rdC (rd i)⟩) = true := h
      rw [hB'] at h
      have h : ¬ blkOk B = true := by simpa using h
      have e1 : errV B 0 true = 1 := by rw [errV, if_neg h]
      have hw : cntV B = (0, 1) := by rw [cntV, e1, if_neg (by decide)]
      rw [hw] at hR
      exact hR _ _ ⟨⟨rfl, rfl⟩, ⟨rfl, rfl⟩, trivial⟩ rfl
    · have h : (!blkOk ⟨mk, l1, l2, c1, c2, rdL n fun i => rdC (rd i)⟩) = false := h
      rw [hB'] at h
      have h : blkOk B = true := by simpa using h
      have e1 : errV B 0 true = 0 := by rw [errV, if_pos h, if_pos (by decide), if_pos rfl]
      have hw : cntV B = (((pairsV B).length : Int), 0) := by rw [cntV, if_pos e1]
      rw [hw] at hR
      refine Chk.mk ⟨rds_rd _ _, rfl, by rw [hB']; exact h⟩ ?_
      exact hR _ _ ⟨⟨rfl, (by show (((pairsV ⟨mk, l1, l2, c1, c2, rdL n fun i => rdC (rd i)⟩).length : Nat) : Int) = _; rw [hB'])⟩, ⟨rfl, rfl⟩, trivial⟩ rfl
  · cases hk
theorem g34 {l : List (Nat × Ct)} (g : Good P T l) : Good P T ((34, c33) :: l) := g.add (k34 g) (wmCt_mono _) (body_of Try.func34 (c := code Try.f34) rfl (by decide))

/-! ### fine -/
def prAt (get : Nat → List SV) (i : Nat) : Pr := match get i with
  | [.si .i64 a, .si .i64 b] => (a, b)
  | _ => (0, 0)
def prC (p : Pr) : List SV := [.si .i64 p.1, .si .i64 p.2]
def Prs (n : Nat) (get : Nat → List SV) : Prop := ∀ i, i < n → get i = prC (prAt get i)
def prL (n : Nat) (get : Nat → List SV) : List Pr := (List.range n).map (prAt get)
theorem prs_pC (L : List Pr) (n : Nat) : Prs n (pC L) := fun i hi => rfl
theorem prL_pC (L : List Pr) : prL L.length (pC L) = L := by
  unfold prL
  refine List.ext_getElem (by simp) fun i h1 h2 => ?_
  simp only [List.getElem_map, List.getElem_range]
  show (L.getD i (0, 0)) = L[i]
  rw [List.getD_eq_getElem?_getD, List.getElem?_eq_getElem h2]
  rfl
/-- A contract of a function of a block, a slice of pairs, and of more that holds no ids. -/
def wmCtP (k : Blk → List Pr → List SV → Option (Option Prop × SV)) : Ct := fun _ args H =>
  match args with
  | .agg [.si .i64 mk, .si .i64 l1, .si .i64 l2, .si .i64 c1, .si .i64 c2, .sl id] :: .sl lid :: r => (match sliceOf 4 H id, sliceOf 2 H lid with
    | some (n, get), some (m, og) => (match k ⟨mk, l1, l2, c1, c2, rdL n get⟩ (prL m og) r with
      | some (p, v) => some ⟨some (Rds n get ∧ Prs m og ∧ knL 0 [] r = true ∧ PreH p), none, v, []⟩
      | none => none)
    | _, _ => none)
  | _ => none
theorem wmCtP_mono (k : Blk → List Pr → List SV → Option (Option Prop × SV)) : CtMono (wmCtP k) := by
  intro fr args H H' out hH h
  unfold wmCtP at h ⊢
  split at h
  · split at h
    · rename_i e1 e2
      simp only [sliceOf_mono hH e1, sliceOf_mono hH e2]
      exact h
    · cases h
  · cases h
theorem wmWalkP {C : Nat → Option Ct} {fn : Func} {c : Code} {k : Blk → List Pr → List SV → Option (Option Prop × SV)} {fr : Nat} {args : List SV} {H : LH} {out : COut} (ho : wmCtP k fr args H = some out) (hp : PreH out.pre)
    (h : ∀ (mk l1 l2 c1 c2 : Int) (n : Nat) (rd : Nat → Rd) (m : Nat) (pr : Nat → Pr) (r : List SV) (p : Option Prop) (v : SV) (Rv : SV → St → Prop) (Rp : List PanicEntry → St → Prop), k ⟨mk, l1, l2, c1, c2, (List.range n).map rd⟩ ((List.range m).map pr) r = some (p, v) → PreH p →
      (∀ v' st, SVeq v' v → knSV 0 [] v' = true → Rv v' st) → r.length + 2 ≤ fn.ntmps ∧
      ∀ G : Base, (∀ j, 2 ≤ j → G.ρ j = none) → exec ⟨P, T, C, G, none, fn.ntmps⟩ c (start (wA mk l1 l2 c1 c2 0 :: .sl 1 :: r) [(0, .ro 4 n fun i => rdC (rd i)), (1, .ro 2 m fun i => prC (pr i))] 2) (Fin ⟨P, T, C, G, none, fn.ntmps⟩ fn.results.toList Rv Rp)) :
    Walk P T C fn c H args fr out := by
  unfold wmCtP at ho
  split at ho
  · rename_i mk l1 l2 c1 c2 id lid r
    split at ho
    · rename_i n get m og e e2
      split at ho
      · rename_i p v hk
        cases ho
        obtain ⟨hs, hs2, hr, hp⟩ : Rds n get ∧ Prs m og ∧ knL 0 [] r = true ∧ PreH p := hp
        have hh : Hand H [(id, .ro 4 n fun i => rdC (rdAt get i)), (lid, .ro 2 m fun i => prC (prAt og i))] := hand_mk ⟨sliceOf_piece e fun i hi => by rw [hs i hi]; rfl, sliceOf_piece e2 fun i hi => by rw [hs2 i hi]; rfl, trivial⟩
          (by repeat' (first | exact trivial | (intro i hi; exact ⟨trivial, trivial, trivial, trivial, trivial⟩) | (intro i hi; exact ⟨trivial, trivial, trivial⟩) | refine And.intro ?_ ?_ | exact (by decide : (1 : Nat) < 4) | exact (by decide : (2 : Nat) < 4))) rfl
        have h0 := h mk l1 l2 c1 c2 n (rdAt get) m (prAt og) r p v (fun v' st => ((none : Option (Bool × List PanicEntry)) = none ∨ ∃ ch, (none : Option (Bool × List PanicEntry)) = some (false, ch)) ∧ EndOk [(id, .ro 4 n fun i => rdC (rdAt get i)), (lid, .ro 2 m fun i => prC (prAt og i))] [] fr ⟨some (Rds n get ∧ Prs m og ∧ knL 0 [] r = true ∧ PreH p), none, v, []⟩ v' st)
          (fun ch st => (none : Option (Bool × List PanicEntry)) = some (true, ch) ∧ keepP st.H [(0, .ro 4 n fun i => rdC (rdAt get i)), (1, .ro 2 m fun i => prC (prAt og i))]) hk hp
          (fun v' st h1 h2 => ⟨.inl rfl, end_noid h1 h2 rfl ⟨trivial, trivial, trivial⟩⟩)
        refine ⟨[(id, .ro 4 n fun i => rdC (rdAt get i)), (lid, .ro 2 m fun i => prC (prAt og i))], wA mk l1 l2 c1 c2 0 :: .sl 1 :: r, [(0, .ro 4 n fun i => rdC (rdAt get i)), (1, .ro 2 m fun i => prC (prAt og i))], 2, [], ?_, ?_, h0.1, hh, rfl, rfl, h0.2⟩
        · show _ = renSV _ _ :: renSV _ _ :: renL _ r
          rw [renL_none r hr]
          rfl
        · show (match knSV 2 [] (wA mk l1 l2 c1 c2 0) with
            | true => (match knSV 2 [] (.sl 1) with
              | true => knL 2 [] r
              | false => false)
            | false => false) = true
          exact knL_up r hr
      · cases ho
    · cases ho
  · cases ho
def fineP (mk off t : Int) (l : List Pr) : Bool := l.all fun p => inB (showV mk p t - p.1) (0 - off) off
def fineK (B : Blk) (l : List Pr) (r : List SV) : Option (Option Prop × SV) := match r with
  | [.si .i64 t, .si .i64 off] => some (some (smB 1000 B.mark ∧ smB 1000 t ∧ smB 1000000 off ∧ l.length ≤ 1000000 ∧ ∀ p ∈ l, smB 1000000 p.1 ∧ smB 1000 p.2), .sb (fineP B.mark off t l))
  | _ => none
theorem k84 {l : List (Nat × Ct)} (g0 : Good P T l) : COk P 84 (wmCtP fineK) := by
  have g := g17 (g54 g0)
  refine cok (C := tabC _) g.ok Try.func84 (c := code Try.f84) rfl fun fr args H out h hp => wmWalkP h hp fun mk l1 l2 c1 c2 n rd m pr r p v Rv Rp hk hp hR => ?_
  unfold fineK at hk
  split at hk
  · rename_i t off
    cases hk
    obtain ⟨h0, ht, ho, hm, hpr⟩ : smB 1000 mk ∧ smB 1000 t ∧ smB 1000000 off ∧ ((List.range m).map pr).length ≤ 1000000 ∧ ∀ p ∈ (List.range m).map pr, smB 1000000 p.1 ∧ smB 1000 p.2 := hp
    have hm : m ≤ 1000000 := by simpa using hm
    have hpr : ∀ i, i < m → smB 1000000 (pr i).1 ∧ smB 1000 (pr i).2 := fun i hi => hpr _ (List.mem_map.2 ⟨i, List.mem_range.2 hi, rfl⟩)
    have hfe : fineP mk off t ((List.range m).map pr) = (List.range m).all fun i => inB (showV mk (pr i) t - (pr i).1) (0 - off) off := by
      unfold fineP
      rw [List.all_map]
      rfl
    refine ⟨Nat.le_of_ble_eq_true rfl, fun G hG => ?_⟩
    refine loop_ok (g.ok _ _ _) (fun x : {i : Nat // i ≤ m ∧ ((List.range i).all fun i => inB (showV mk (pr i) t - (pr i).1) (0 - off) off) = true} => ⟨[(1, ⟨[], .sl 1⟩), (2, ⟨[], .si .i64 t⟩), (3, ⟨[], .si .i64 off⟩), (4, ⟨[], .sp 2 0⟩), (9, ⟨[], .si .i64 (x.1 : Nat)⟩)], [],
      [(2, .cells 36 (bC mk l1 l2 c1 c2 0)), (0, .ro 4 n fun i => rdC (rd i)), (1, .ro 2 m fun i => prC (pr i))], 3, []⟩) (fun x => m - x.1) (fun _ j hj => hG j (by have : 3 ≤ j := hj; omega)) ⟨0, Nat.zero_le _, rfl⟩ ?_ ?_
    · refine ⟨?_, ?_, rfl, rfl, rfl⟩
      · repeat' (first | exact trivial | exact rfl | refine And.intro ?_ ?_)
      · repeat' (first | exact trivial | exact rfl | (intro i hi; exact rfl) | refine And.intro ?_ ?_)
    · rintro ⟨i, hi, hall⟩
      refine Br.mk (fun h => ?_) (fun h => ?_)
      · have h : (i : Int) < (m : Int) := of_decide_eq_true h
        have hpi := hpr i (by omega)
        obtain ⟨hg1, hg2⟩ := growV_le h0 hpi.2 ht
        have hsv : showV mk (pr i) t = (pr i).1 + growV mk (pr i).2 t := rfl
        have hsuc := all_succ (q := fun i => inB (showV mk (pr i) t - (pr i).1) (0 - off) off) (i := i)
        rw [hall] at hsuc
        have hb1 := hpi.1
        unfold smB at hb1 hg2 ho
        refine drawn_ok (g.ok _ _ _) fol [0,0,0,6,14,0,63,0,0,384,896,1920,4095,0,8192,0,65535,131071] [] 18 (by kernel_rfl) ?_
        refine Chk.mk (show (0 : Int) ≤ (i : Int) ∧ (i : Int) < (m : Int) from ⟨by omega, h⟩) ?_
        refine Chk.mk ⟨rds_rd _ _, rfl, hpi.1, h0, hpi.2, ht⟩ ?_
        refine Chk.mk (show (0 : Int) ≤ (i : Int) ∧ (i : Int) < (m : Int) from ⟨by omega, h⟩) ?_
        refine Chk.mk (show InK .i64 (showV mk (pr i) t - (pr i).1) from ⟨by omega, by omega⟩) ?_
        refine Chk.mk (show InK .i64 (0 - off) from ⟨by omega, by omega⟩) ?_
        refine Br.mk (fun h2 => ?_) (fun h2 => ?_)
        · have h2 : (!inB (showV mk (pr i) t - (pr i).1) (0 - off) off) = true := h2
          have h2 : inB (showV mk (pr i) t - (pr i).1) (0 - off) off = false := by simpa using h2
          have hw : fineP mk off t ((List.range m).map pr) = false := by rw [hfe]; exact all_false (i := i) (by omega) h2
          rw [hw] at hR
          exact hR _ _ rfl rfl
        · have h2 : (!inB (showV mk (pr i) t - (pr i).1) (0 - off) off) = false := h2
          have h2 : inB (showV mk (pr i) t - (pr i).1) (0 - off) off = true := by simpa using h2
          rw [h2] at hsuc
          refine Chk.mk (show InK .i64 ((i : Int) + 1) from ⟨by omega, by omega⟩) ⟨⟨i + 1, by omega, by rw [hsuc]; rfl⟩, ?_, (by show m - (i + 1) < m - i; omega)⟩
          refine ⟨?_, ?_, rfl, rfl, rfl⟩
          · repeat' (first | exact trivial | exact rfl | refine And.intro ?_ ?_)
          · repeat' (first | exact trivial | exact rfl | (intro i hi; exact rfl) | refine And.intro ?_ ?_)
      · have h : ¬ (i : Int) < (m : Int) := of_decide_eq_false h
        obtain rfl : i = m := by omega
        have hw : fineP mk off t ((List.range i).map pr) = true := by rw [hfe]; exact hall
        rw [hw] at hR
        exact hR _ _ rfl rfl
  · cases hk
theorem g84 {l : List (Nat × Ct)} (g : Good P T l) : Good P T ((84, wmCtP fineK) :: l) := g.add (k84 g) (wmCtP_mono _) (body_of Try.func84 (c := code Try.f84) rfl (by decide))

/-! ### Room -/
theorem fine_cold {mk off : Int} {l : List Pr} (h1 : 0 ≤ mk) (h2 : ∀ p ∈ l, 0 ≤ p.2) (h3 : 0 ≤ off) (k : Nat) : (fineP mk off ((k : Int) + 1) l && fineP mk off (0 - (k : Int) - 1) l) = coldB mk off l (k + 1) := by
  unfold fineP coldB
  rw [Bool.eq_iff_iff, Bool.and_eq_true, List.all_eq_true, List.all_eq_true, List.all_eq_true]
  have key : ∀ p ∈ l, ((inB (showV mk p ((k : Int) + 1) - p.1) (0 - off) off = true ∧ inB (showV mk p (0 - (k : Int) - 1) - p.1) (0 - off) off = true) ↔ decide (-off ≤ growV mk p.2 (-((k + 1 : Nat) : Int))) = true) := fun p hp => by
    have hm := Int.mul_nonneg h1 (h2 p hp)
    have e1 : mk * p.2 * (0 - (k : Int) - 1) = -(mk * p.2 * ((k : Int) + 1)) := by rw [show (0 - (k : Int) - 1) = -((k : Int) + 1) by omega, Int.mul_neg]
    have e2 : mk * p.2 * (-((k + 1 : Nat) : Int)) = -(mk * p.2 * ((k : Int) + 1)) := by rw [show (((k + 1 : Nat)) : Int) = (k : Int) + 1 by push_cast; rfl, Int.mul_neg]
    have h0 : 0 ≤ mk * p.2 * ((k : Int) + 1) := Int.mul_nonneg hm (by omega)
    have s1 : showV mk p ((k : Int) + 1) = p.1 + mk * p.2 * ((k : Int) + 1) / 10 := rfl
    have s2 : showV mk p (0 - (k : Int) - 1) = p.1 + -(mk * p.2 * ((k : Int) + 1)) / 10 := by rw [← e1]; rfl
    have s3 : growV mk p.2 (-((k + 1 : Nat) : Int)) = -(mk * p.2 * ((k : Int) + 1)) / 10 := by rw [← e2]; rfl
    rw [s1, s2, s3]
    simp only [inB, Bool.and_eq_true, decide_eq_true_eq]
    omega
  constructor
  · rintro ⟨a, b⟩ p hp
    exact (key p hp).1 ⟨a p hp, b p hp⟩
  · intro a
    exact ⟨fun p hp => ((key p hp).2 (a p hp)).1, fun p hp => ((key p hp).2 (a p hp)).2⟩
theorem k32 {l : List (Nat × Ct)} (g0 : Good P T l) : COk P 32 c22 := by
  have g := g54 (g71 (g84 g0))
  refine cok (C := tabC _) g.ok Try.func32 (c := code Try.f32) rfl fun fr args H out h hp => wmWalk h hp fun mk l1 l2 c1 c2 n rd r p v Rv Rp hk hp hR => ?_
  split at hk
  · rename_i off
    cases hk
    refine ⟨Nat.le_of_ble_eq_true rfl, fun G hG => ?_⟩
    obtain ⟨B, hBe⟩ : ∃ B : Blk, (⟨mk, l1, l2, c1, c2, (List.range n).map rd⟩ : Blk) = B := ⟨_, rfl⟩
    have hB' : (⟨mk, l1, l2, c1, c2, rdL n fun i => rdC (rd i)⟩ : Blk) = B := hBe
    have hmk : mk = B.mark := by rw [← hBe]
    rw [hBe] at hR
    refine drawn_ok (g.ok _ _ _) fol [0,0,2,7,15,31,31,63,255] [] 9 (by kernel_rfl) ?_
    refine Chk.mk ⟨rds_rd _ _, rfl, trivial⟩ ?_
    refine Br.mk (fun h => ?_) (fun h => ?_)
    · have h : (!decide (tellE ⟨mk, l1, l2, c1, c2, rdL n fun i => rdC (rd i)⟩ 0 (inB off 0 30000) = 0)) = true := h
      rw [hB'] at h
      have h : ¬ tellE B 0 (inB off 0 30000) = 0 := by simpa using h
      have hw : roomE B off = (0, tellE B 0 (inB off 0 30000)) := by rw [roomE, if_neg h]
      rw [hw] at hR
      exact hR _ _ ⟨⟨rfl, rfl⟩, ⟨rfl, (by show tellE ⟨mk, l1, l2, c1, c2, rdL n fun i => rdC (rd i)⟩ 0 (inB off 0 30000) = tellE B 0 (inB off 0 30000); rw [hB'])⟩, trivial⟩ rfl
    · have h : (!decide (tellE ⟨mk, l1, l2, c1, c2, rdL n fun i => rdC (rd i)⟩ 0 (inB off 0 30000) = 0)) = false := h
      rw [hB'] at h
      have h : tellE B 0 (inB off 0 30000) = 0 := by simpa using h
      obtain ⟨hok, hist, hLL, hpos, hle⟩ := tell_some h
      have hoff : 0 ≤ off ∧ off ≤ 30000 := by simpa only [inB, Bool.and_eq_true, decide_eq_true_eq] using hist
      have hw : roomE B off = (roomV B off, 0) := by rw [roomE, if_pos h]
      rw [hw] at hR
      obtain ⟨pv, hpv⟩ : ∃ pv, pairsV B = pv := ⟨_, rfl⟩
      have hL' : tellL ⟨mk, l1, l2, c1, c2, rdL n fun i => rdC (rd i)⟩ 0 (inB off 0 30000) = pv := by rw [hB', hLL, hpv]
      have hpb : ∀ p ∈ pv, -1000 ≤ p.1 ∧ p.1 ≤ 1000 ∧ 0 ≤ p.2 ∧ p.2 ≤ 20 := fun p hp => pair_b hok (by rw [hpv]; exact hp)
      have hmb := (blk_b hok).1
      rw [← hmk] at hmb
      have hrv : roomV B off = (downTo (coldB mk off pv) 100 : Nat) := by rw [roomV, hpv, ← hmk]
      rw [hrv] at hR
      rw [hpv] at hpos hle
      have hpl : prL pv.length (pC pv) = pv := prL_pC pv
      have hpre : ∀ t : Int, -1000 ≤ t ∧ t ≤ 1000 → (Rds n fun i => rdC (rd i)) ∧ Prs pv.length (pC pv) ∧ knL 0 [] [SV.si .i64 t, .si .i64 off] = true ∧ PreH (some (smB 1000 mk ∧ smB 1000 t ∧ smB 1000000 off ∧ (prL pv.length (pC pv)).length ≤ 1000000 ∧ ∀ p ∈ prL pv.length (pC pv), smB 1000000 p.1 ∧ smB 1000 p.2)) := fun t ht =>
        ⟨rds_rd _ _, prs_pC _ _, rfl, ⟨by omega, by omega⟩, ⟨by omega, by omega⟩, ⟨by omega, by omega⟩, by rw [hpl]; omega, fun p hp => by
          rw [hpl] at hp
          have := hpb p hp
          exact ⟨⟨by omega, by omega⟩, ⟨by omega, by omega⟩⟩⟩
      refine loop_okR (g.ok _ _ _) 38 (fun x : {k : Nat // k ≤ 100 ∧ (k = 0 ∨ coldB mk off pv k = true)} => ⟨[(1, ⟨[], .si .i64 off⟩), (2, ⟨[], .sp 1 0⟩), (5, ⟨[], .si .i64 0⟩), (6, ⟨[], .sl 14⟩), (8, ⟨[], .si .i64 (x.1 : Nat)⟩)], [],
        [(14, .vec 39 2 pv.length (pC pv)), (1, .cells 36 (bC mk l1 l2 c1 c2 0)), (0, .ro 4 n fun i => rdC (rd i))], 38, []⟩) (fun x => 100 - x.1) (fun j hj => hG j (by omega)) ⟨0, Nat.zero_le _, .inl rfl⟩ (fun j => j) ?_ ?_
      · refine ⟨?_, ?_, rfl, rfl, rfl, rfl, trivial⟩
        · repeat' (first | exact trivial | exact rfl | refine And.intro ?_ ?_)
        · repeat' (first | exact trivial | exact rfl | (intro i hi; exact ⟨rfl, rfl⟩) | (show (tellL ⟨mk, l1, l2, c1, c2, rdL n fun i => rdC (rd i)⟩ 0 (inB off 0 30000)).length = pv.length; rw [hL']) | (intro i hi; exact ⟨(by show pC (tellL ⟨mk, l1, l2, c1, c2, rdL n fun i => rdC (rd i)⟩ 0 (inB off 0 30000)) i = pC pv i; rw [hL']), rfl⟩) | refine And.intro ?_ ?_)
      · rintro ⟨k, hk, hc⟩
        have hfc := fine_cold (mk := mk) (off := off) (l := pv) (by omega) (fun p hp => (hpb p hp).2.2.1) hoff.1 k
        refine Chk.mk (under_of (show InK .i64 ((k : Int) + 1) from ⟨by omega, by omega⟩)) ?_
        refine Chk.mk (under_of (hpre ((k : Int) + 1) ⟨by omega, by omega⟩)) ?_
        refine Chk.mk (under_of (show InK .i64 (0 - (k : Int)) from ⟨by omega, by omega⟩)) ?_
        refine Chk.mk (under_of (show InK .i64 (0 - (k : Int) - 1) from ⟨by omega, by omega⟩)) ?_
        refine Chk.mk (under_of (hpre (0 - (k : Int) - 1) ⟨by omega, by omega⟩)) ?_
        refine Br.mk (fun h2 => ?_) (fun h2 => ?_)
        · have h2 : ((decide ((k : Int) < 100) && fineP mk off ((k : Int) + 1) (prL pv.length (pC pv))) && fineP mk off (0 - (k : Int) - 1) (prL pv.length (pC pv))) = true := h2
          rw [hpl, Bool.and_assoc, hfc, Bool.and_eq_true, decide_eq_true_eq] at h2
          refine Chk.mk (show InK .i64 ((k : Int) + 1) from ⟨by omega, by omega⟩) ⟨⟨k + 1, by omega, .inr h2.2⟩, (fun j => j), ?_, (by show 100 - (k + 1) < 100 - k; omega)⟩
          refine ⟨?_, ?_, rfl, rfl, rfl, rfl, trivial⟩
          · repeat' (first | exact trivial | exact rfl | refine And.intro ?_ ?_)
          · repeat' (first | exact trivial | exact rfl | (intro i hi; exact ⟨rfl, rfl⟩) | refine And.intro ?_ ?_)
        · have h2 : ((decide ((k : Int) < 100) && fineP mk off ((k : Int) + 1) (prL pv.length (pC pv))) && fineP mk off (0 - (k : Int) - 1) (prL pv.length (pC pv))) = false := h2
          rw [hpl, Bool.and_assoc, hfc] at h2
          have hd : downTo (coldB mk off pv) 100 = k := downTo_eq hk hc fun j j1 j2 => by
            cases hj : coldB mk off pv j with
            | false => rfl
            | true =>
              have h3 := coldB_less (mk := mk) (off := off) (l := pv) (by omega) (fun p hp => (hpb p hp).2.2.1) (m := k + 1) (k := j) (by omega) hj
              rw [h3, decide_eq_true (by omega : (k : Int) < 100)] at h2
              cases h2
          exact hR _ _ ⟨⟨rfl, (by show (k : Int) = ((downTo (coldB mk off pv) 100 : Nat) : Int); rw [hd])⟩, ⟨rfl, rfl⟩, trivial⟩ rfl
  · cases hk
theorem g32 {l : List (Nat × Ct)} (g : Good P T l) : Good P T ((32, c22) :: l) := g.add (k32 g) (wmCt_mono _) (body_of Try.func32 (c := code Try.f32) rfl (by decide))
end Go.X.W
end

section
set_option linter.unusedVariables false
set_option linter.unusedSimpArgs false
set_option linter.unusedSectionVars false
/- Warm: Offers and left of the document. -/
set_option linter.unusedVariables false
set_option linter.unusedSimpArgs false
set_option maxRecDepth 10000
set_option maxHeartbeats 4000000
namespace Go.X.W
open Go Go.Proofs Go.X

def c91 : Ct := fun fr args H =>
  match args with
  | [.sl id] => (match sliceOf 1 H id with
    | some (n, get) => some ⟨some (Ints n get ∧ n ≤ 1000000), none, .sb ((intL n get).all (fun x => inB x (-100) 100) && decide (0 < (intL n get).length)), []⟩
    | none => none)
  | _ => none
theorem c91_mono : CtMono c91 := by
  intro fr args H H' out hH h
  unfold c91 at h ⊢
  split at h
  · split at h
    · rename_i e
      simp only [sliceOf_mono hH e]
      exact h
    · cases h
  · cases h
theorem k91 {l : List (Nat × Ct)} (g0 : Good P T l) : COk P 91 c91 := by
  have g := g54 g0
  refine cok (C := tabC _) g.ok Try.func91 (c := code Try.f91) rfl fun fr args H out h hp => ?_
  unfold c91 at h
  split at h
  · rename_i id
    split at h
    · rename_i n get e
      cases h
      obtain ⟨hi, hn1⟩ : Ints n get ∧ n ≤ 1000000 := hp
      have hh : Hand H [(id, .ro 1 n fun i => [.si .i64 (intAt get i)])] := hand_one e (fun i => rfl) (fun i h => (hi i h).symm)
      refine ⟨[(id, .ro 1 n fun i => [.si .i64 (intAt get i)])], [.sl 0], [(0, .ro 1 n fun i => [.si .i64 (intAt get i)])], 1, [], rfl, rfl, Nat.le_of_ble_eq_true rfl, hh, rfl, rfl, fun G hG => ?_⟩
      have hil : intL n get = (List.range n).map (intAt get) := rfl
      rw [hil]
      generalize intAt get = v
      have hal : (((List.range n).map v).all fun x => inB x (-100) 100) = (List.range n).all fun i => inB (v i) (-100) 100 := by rw [List.all_map]; rfl
      have hle : ((List.range n).map v).length = n := by simp
      rw [hal, hle]
      obtain ⟨q, hq⟩ : ∃ q : Bool, ((List.range n).all (fun i => inB (v i) (-100) 100) && decide (0 < n)) = q := ⟨_, rfl⟩
      rw [hq]
      refine loop_ok (g.ok _ _ _) (fun x : {i : Nat // i ≤ n ∧ ((List.range i).all fun i => inB (v i) (-100) 100) = true} => ⟨[(0, ⟨[], .sl 0⟩), (3, ⟨[], .si .i64 (x.1 : Nat)⟩)], [],
        [(0, .ro 1 n fun i => [.si .i64 (v i)])], 1, []⟩) (fun x => n - x.1) (fun _ j hj => hG j hj) ⟨0, Nat.zero_le _, rfl⟩ ?_ ?_
      · refine ⟨?_, ?_, rfl, rfl, rfl⟩
        · repeat' (first | exact trivial | exact rfl | refine And.intro ?_ ?_)
        · repeat' (first | exact trivial | exact rfl | (intro i hi; exact rfl) | refine And.intro ?_ ?_)
      · rintro ⟨i, hle, hall⟩
        have hsuc := all_succ (q := fun i => inB (v i) (-100) 100) (i := i)
        rw [hall] at hsuc
        refine Br.mk (fun h => ?_) (fun h => ?_)
        · have h : (i : Int) < (n : Int) := of_decide_eq_true h
          refine Chk.mk (show (0 : Int) ≤ (i : Int) ∧ (i : Int) < (n : Int) from ⟨by omega, h⟩) ?_
          refine Br.mk (fun h2 => ?_) (fun h2 => ?_)
          · have h2 : (!inB (v i) (-100) 100) = true := h2
            have h2 : inB (v i) (-100) 100 = false := by simpa using h2
            rw [all_false (q := fun i => inB (v i) (-100) 100) (i := i) (n := n) (by omega) h2, Bool.false_and] at hq
            subst hq
            exact ⟨.inl rfl, end_noid rfl rfl rfl ⟨trivial, trivial⟩⟩
          · have h2 : (!inB (v i) (-100) 100) = false := h2
            have h2 : inB (v i) (-100) 100 = true := by simpa using h2
            rw [h2] at hsuc
            refine Chk.mk (show InK .i64 ((i : Int) + 1) from ⟨by omega, by omega⟩) ⟨⟨i + 1, by omega, by rw [hsuc]; rfl⟩, ?_, (by show n - (i + 1) < n - i; omega)⟩
            refine ⟨?_, ?_, rfl, rfl, rfl⟩
            · repeat' (first | exact trivial | exact rfl | refine And.intro ?_ ?_)
            · repeat' (first | exact trivial | exact rfl | (intro i hi; exact rfl) | refine And.intro ?_ ?_)
        · have h : ¬ (i : Int) < (n : Int) := of_decide_eq_false h
          obtain rfl : i = n := by omega
          rw [hall, Bool.true_and] at hq
          refine ⟨.inl rfl, end_noid (by show decide ((0 : Int) < (i : Int)) = q; rw [← hq]; exact decide_eq_decide.2 (by omega)) rfl rfl ⟨trivial, trivial⟩⟩
    · cases h
  · cases h
theorem g91 {l : List (Nat × Ct)} (g : Good P T l) : Good P T ((91, c91) :: l) := g.add (k91 g) c91_mono (body_of Try.func91 (c := code Try.f91) rfl (by decide))

/-! ### left -/
def leftK (B : Blk) (l : List Pr) (r : List SV) : Option (Option Prop × SV) := match r with
  | [.si .i64 t] => some (some (smB 1000 B.mark ∧ smB 1000 t ∧ l.length ≤ 1000000 ∧ ∀ p ∈ l, smB 1000000 p.1 ∧ smB 1000 p.2), .si .i64 (leftV B.mark l t : Nat))
  | _ => none
def cntI (mk t : Int) (pr : Nat → Pr) (i k : Nat) : Nat := ((List.range k).map pr).countP fun q => decide (showV mk q t = showV mk (pr i) t)
def leftI (mk t : Int) (pr : Nat → Pr) (m i : Nat) : Nat := ((List.range i).map fun i => cntI mk t pr i m).foldl max 0
theorem cntI_succ (mk t : Int) (pr : Nat → Pr) (i k : Nat) : cntI mk t pr i (k + 1) = cntI mk t pr i k + (if showV mk (pr k) t = showV mk (pr i) t then 1 else 0) := by
  unfold cntI
  rw [List.range_succ, List.map_append, List.countP_append]
  congr 1
  simp [List.countP_cons]
theorem cntI_le (mk t : Int) (pr : Nat → Pr) (i k : Nat) : cntI mk t pr i k ≤ k := by
  unfold cntI
  refine Nat.le_trans List.countP_le_length ?_
  simp
theorem leftI_succ (mk t : Int) (pr : Nat → Pr) (m i : Nat) : leftI mk t pr m (i + 1) = max (leftI mk t pr m i) (cntI mk t pr i m) := by
  unfold leftI
  rw [List.range_succ, List.map_append, List.foldl_append]
  rfl
theorem leftI_all (mk t : Int) (pr : Nat → Pr) (m : Nat) : leftI mk t pr m m = leftV mk ((List.range m).map pr) t := by
  unfold leftI leftV
  rw [List.map_map]
  rfl
theorem k92 {l : List (Nat × Ct)} (g0 : Good P T l) : COk P 92 (wmCtP leftK) := by
  have g := g17 g0
  refine cok (C := tabC _) g.ok Try.func92 (c := code Try.f92) rfl fun fr args H out h hp => wmWalkP h hp fun mk l1 l2 c1 c2 n rd m pr r p v Rv Rp hk hp hR => ?_
  unfold leftK at hk
  split at hk
  · rename_i t
    cases hk
    obtain ⟨h0, ht, hm, hpr⟩ : smB 1000 mk ∧ smB 1000 t ∧ ((List.range m).map pr).length ≤ 1000000 ∧ ∀ p ∈ (List.range m).map pr, smB 1000000 p.1 ∧ smB 1000 p.2 := hp
    have hm : m ≤ 1000000 := by simpa using hm
    have hpr : ∀ i, i < m → smB 1000000 (pr i).1 ∧ smB 1000 (pr i).2 := fun i hi => hpr _ (List.mem_map.2 ⟨i, List.mem_range.2 hi, rfl⟩)
    rw [← leftI_all] at hR
    refine ⟨Nat.le_of_ble_eq_true rfl, fun G hG => ?_⟩
    refine loop_ok (g.ok _ _ _) (fun x : {i : Nat // i ≤ m} => ⟨[(1, ⟨[], .sl 1⟩), (2, ⟨[], .si .i64 t⟩), (3, ⟨[], .sp 2 0⟩), (7, ⟨[], .si .i64 (leftI mk t pr m x.1 : Nat)⟩), (8, ⟨[], .si .i64 (x.1 : Nat)⟩)], [],
      [(2, .cells 36 (bC mk l1 l2 c1 c2 0)), (0, .ro 4 n fun i => rdC (rd i)), (1, .ro 2 m fun i => prC (pr i))], 3, []⟩) (fun x => m - x.1) (fun _ j hj => hG j (by have : 3 ≤ j := hj; omega)) ⟨0, Nat.zero_le _⟩ ?_ ?_
    · refine ⟨?_, ?_, rfl, rfl, rfl⟩
      · repeat' (first | exact trivial | exact rfl | refine And.intro ?_ ?_)
      · repeat' (first | exact trivial | exact rfl | (intro i hi; exact rfl) | refine And.intro ?_ ?_)
    · rintro ⟨i, hi⟩
      refine Br.mk (fun h => ?_) (fun h => ?_)
      · have h : (i : Int) < (m : Int) := of_decide_eq_true h
        refine loop_ok (g.ok _ _ _) (fun x : {k : Nat // k ≤ m} => ⟨[(1, ⟨[], .sl 1⟩), (2, ⟨[], .si .i64 t⟩), (3, ⟨[], .sp 2 0⟩), (7, ⟨[], .si .i64 (leftI mk t pr m i : Nat)⟩), (8, ⟨[], .si .i64 (i : Nat)⟩), (9, ⟨[], .si .i64 (cntI mk t pr i x.1 : Nat)⟩), (10, ⟨[], .si .i64 (x.1 : Nat)⟩)], [],
          [(2, .cells 36 (bC mk l1 l2 c1 c2 0)), (0, .ro 4 n fun i => rdC (rd i)), (1, .ro 2 m fun i => prC (pr i))], 3, []⟩) (fun x => m - x.1) (fun _ j hj => hG j (by have : 3 ≤ j := hj; omega)) ⟨0, Nat.zero_le _⟩ ?_ ?_
        · refine ⟨?_, ?_, rfl, rfl, rfl⟩
          · repeat' (first | exact trivial | exact rfl | refine And.intro ?_ ?_)
          · repeat' (first | exact trivial | exact rfl | (intro i hi; exact rfl) | refine And.intro ?_ ?_)
        · rintro ⟨k, hk⟩
          refine Br.mk (fun h2 => ?_) (fun h2 => ?_)
          · have h2 : (k : Int) < (m : Int) := of_decide_eq_true h2
            have hcs := cntI_succ mk t pr i k
            have hcl := cntI_le mk t pr i k
            refine drawn_ok (g.ok _ _ _) fol [0,0,0,6,14,0,63,0,0,0,768,1792,0,8191,16383] [] 15 (by kernel_rfl) ?_
            refine Chk.mk (show (0 : Int) ≤ (k : Int) ∧ (k : Int) < (m : Int) from ⟨by omega, h2⟩) ?_
            refine Chk.mk ⟨rds_rd _ _, rfl, (hpr k (by omega)).1, h0, (hpr k (by omega)).2, ht⟩ ?_
            refine Chk.mk (show (0 : Int) ≤ (i : Int) ∧ (i : Int) < (m : Int) from ⟨by omega, h⟩) ?_
            refine Chk.mk ⟨rds_rd _ _, rfl, (hpr i (by omega)).1, h0, (hpr i (by omega)).2, ht⟩ ?_
            refine Br.mk (fun h3 => ?_) (fun h3 => ?_)
            · have h3 : showV mk (pr k) t = showV mk (pr i) t := of_decide_eq_true h3
              rw [if_pos h3] at hcs
              refine Chk.mk (show InK .i64 ((cntI mk t pr i k : Int) + 1) from ⟨by omega, by omega⟩) ?_
              refine Chk.mk (show InK .i64 ((k : Int) + 1) from ⟨by omega, by omega⟩) ⟨⟨k + 1, by omega⟩, ?_, (by show m - (k + 1) < m - k; omega)⟩
              refine ⟨?_, ?_, rfl, rfl, rfl⟩
              · repeat' (first | exact trivial | exact rfl | (show ((cntI mk t pr i k : Nat) : Int) + 1 = ((cntI mk t pr i (k + 1) : Nat) : Int); omega) | refine And.intro ?_ ?_)
              · repeat' (first | exact trivial | exact rfl | (intro i hi; exact rfl) | refine And.intro ?_ ?_)
            · have h3 : ¬ showV mk (pr k) t = showV mk (pr i) t := of_decide_eq_false h3
              rw [if_neg h3] at hcs
              refine Chk.mk (show InK .i64 ((k : Int) + 1) from ⟨by omega, by omega⟩) ⟨⟨k + 1, by omega⟩, ?_, (by show m - (k + 1) < m - k; omega)⟩
              refine ⟨?_, ?_, rfl, rfl, rfl⟩
              · repeat' (first | exact trivial | exact rfl | (show ((cntI mk t pr i k : Nat) : Int) = ((cntI mk t pr i (k + 1) : Nat) : Int); omega) | refine And.intro ?_ ?_)
              · repeat' (first | exact trivial | exact rfl | (intro i hi; exact rfl) | refine And.intro ?_ ?_)
          · have h2 : ¬ (k : Int) < (m : Int) := of_decide_eq_false h2
            obtain rfl : k = m := by omega
            have hls := leftI_succ mk t pr k i
            refine Chk.mk (show InK .i64 ((i : Int) + 1) from ⟨by omega, by omega⟩) ⟨⟨i + 1, by omega⟩, ?_, (by show k - (i + 1) < k - i; omega)⟩
            refine ⟨?_, ?_, rfl, rfl, rfl⟩
            · repeat' (first | exact trivial | exact rfl | (show max ((leftI mk t pr k i : Nat) : Int) ((cntI mk t pr i k : Nat) : Int) = ((leftI mk t pr k (i + 1) : Nat) : Int); omega) | refine And.intro ?_ ?_)
            · repeat' (first | exact trivial | exact rfl | (intro i hi; exact rfl) | refine And.intro ?_ ?_)
      · have h : ¬ (i : Int) < (m : Int) := of_decide_eq_false h
        obtain rfl : i = m := by omega
        exact hR _ _ ⟨rfl, rfl⟩ rfl
  · cases hk
theorem g92 {l : List (Nat × Ct)} (g : Good P T l) : Good P T ((92, wmCtP leftK) :: l) := g.add (k92 g) (wmCtP_mono _) (body_of Try.func92 (c := code Try.f92) rfl (by decide))
end Go.X.W
end

section
set_option linter.unusedVariables false
set_option linter.unusedSimpArgs false
set_option linter.unusedSectionVars false
/- Warm: Next of the document. -/
set_option linter.unusedVariables false
set_option linter.unusedSimpArgs false
set_option maxRecDepth 10000
set_option maxHeartbeats 4000000
namespace Go.X.W
open Go Go.Proofs Go.X

theorem leastV_at (f : Nat → Int) : ∀ {i : Nat}, 0 < i → ∃ b : Nat, b < i ∧ leastV f i = ((b : Int), f b)
  | i + 1, _ => by
    rw [leastV]
    split
    · exact ⟨i, by omega, rfl⟩
    · rename_i h
      obtain ⟨b, h1, h2⟩ := leastV_at f (i := i) (by omega)
      exact ⟨b, by omega, h2⟩
theorem off_eq (l : List Int) : (l.all (fun x => inB x (-100) 100) && decide (0 < l.length)) = offsB l := by
  unfold offsB
  rw [Bool.and_comm]
  congr 1
  exact decide_eq_decide.2 (by omega)
theorem k36 {l : List (Nat × Ct)} (g0 : Good P T l) : COk P 36 c35 := by
  have g := g71 (g91 (g92 g0))
  refine cok (C := tabC _) g.ok Try.func36 (c := code Try.f36) rfl fun fr args H out h hp => ?_
  unfold c35 at h
  split at h
  · rename_i mk l1 l2 c1 c2 id oid
    split at h
    · rename_i n get m og e e2
      cases h
      obtain ⟨hs, hs2, hm⟩ : Rds n get ∧ Ints m og ∧ m ≤ 40 := hp
      have hh : Hand H [(id, .ro 4 n fun i => rdC (rdAt get i)), (oid, .ro 1 m fun i => [.si .i64 (intAt og i)])] := hand_mk ⟨sliceOf_piece e fun i hi => by rw [hs i hi]; rfl, sliceOf_piece e2 fun i hj => by rw [hs2 i hj]; rfl, trivial⟩
        (by repeat' (first | exact trivial | (intro i hi; exact ⟨trivial, trivial, trivial, trivial, trivial⟩) | (intro i hi; exact ⟨trivial, trivial⟩) | refine And.intro ?_ ?_ | exact (by decide : (1 : Nat) < 4) | exact (by decide : (2 : Nat) < 4))) rfl
      refine ⟨_, [wA mk l1 l2 c1 c2 0, .sl 1], [(0, .ro 4 n fun i => rdC (rdAt get i)), (1, .ro 1 m fun i => [.si .i64 (intAt og i)])], 2, [], rfl, rfl, Nat.le_of_ble_eq_true rfl, hh, rfl, rfl, fun G hG => ?_⟩
      rw [show rdL n get = (List.range n).map (rdAt get) from rfl, show intL m og = (List.range m).map (intAt og) from rfl]
      generalize rdAt get = rd
      generalize intAt og = ov
      obtain ⟨B, hBe⟩ : ∃ B : Blk, (⟨mk, l1, l2, c1, c2, (List.range n).map rd⟩ : Blk) = B := ⟨_, rfl⟩
      obtain ⟨L, hL⟩ : ∃ L : List Int, (List.range m).map ov = L := ⟨_, rfl⟩
      have hB' : (⟨mk, l1, l2, c1, c2, rdL n fun i => rdC (rd i)⟩ : Blk) = B := hBe
      have hmk : mk = B.mark := by rw [← hBe]
      have hLl : L.length = m := by rw [← hL]; simp
      have hLL2 : intL m (fun i => [SV.si .i64 (ov i)]) = L := hL
      rw [hBe, hL]
      have hoff : ((intL m fun i => [SV.si .i64 (ov i)]).all (fun x => inB x (-100) 100) && decide (0 < (intL m fun i => [SV.si .i64 (ov i)]).length)) = offsB L := by rw [hLL2]; exact off_eq L
      refine drawn_ok (g.ok _ _ _) fol [0,0,2,0,8,31,63,127,127,255,1023] [] 11 (by kernel_rfl) ?_
      refine Chk.mk ⟨ints_i _ _, by omega⟩ ?_
      refine Chk.mk ⟨rds_rd _ _, rfl, trivial⟩ ?_
      have hte : tellE ⟨mk, l1, l2, c1, c2, rdL n fun i => rdC (rd i)⟩ (m : Int) ((intL m fun i => [SV.si .i64 (ov i)]).all (fun x => inB x (-100) 100) && decide (0 < (intL m fun i => [SV.si .i64 (ov i)]).length)) = tellE B L.length (offsB L) := by rw [hB', hoff, hLl]
      have htl : tellL ⟨mk, l1, l2, c1, c2, rdL n fun i => rdC (rd i)⟩ (m : Int) ((intL m fun i => [SV.si .i64 (ov i)]).all (fun x => inB x (-100) 100) && decide (0 < (intL m fun i => [SV.si .i64 (ov i)]).length)) = tellL B L.length (offsB L) := by rw [hB', hoff, hLl]
      refine Br.mk (fun h => ?_) (fun h => ?_)
      · have h : (!decide (tellE ⟨mk, l1, l2, c1, c2, rdL n fun i => rdC (rd i)⟩ (m : Int) ((intL m fun i => [SV.si .i64 (ov i)]).all (fun x => inB x (-100) 100) && decide (0 < (intL m fun i => [SV.si .i64 (ov i)]).length)) = 0)) = true := h
        rw [hte] at h
        have h : ¬ tellE B L.length (offsB L) = 0 := by simpa using h
        have hw : nextV B L = ((0, 0), tellE B L.length (offsB L)) := by rw [nextV, if_neg h]
        rw [hw]
        exact ⟨.inl rfl, end_noid ⟨⟨rfl, rfl⟩, ⟨rfl, rfl⟩, ⟨rfl, hte⟩, trivial⟩ rfl rfl ⟨trivial, trivial, trivial⟩⟩
      · have h : (!decide (tellE ⟨mk, l1, l2, c1, c2, rdL n fun i => rdC (rd i)⟩ (m : Int) ((intL m fun i => [SV.si .i64 (ov i)]).all (fun x => inB x (-100) 100) && decide (0 < (intL m fun i => [SV.si .i64 (ov i)]).length)) = 0)) = false := h
        rw [hte] at h
        have h : tellE B L.length (offsB L) = 0 := by simpa using h
        obtain ⟨hok, hist, hLL, hpos, hle⟩ := tell_some h
        obtain ⟨pv, hpv⟩ : ∃ pv, pairsV B = pv := ⟨_, rfl⟩
        have hL' : tellL ⟨mk, l1, l2, c1, c2, rdL n fun i => rdC (rd i)⟩ (m : Int) ((intL m fun i => [SV.si .i64 (ov i)]).all (fun x => inB x (-100) 100) && decide (0 < (intL m fun i => [SV.si .i64 (ov i)]).length)) = pv := by rw [htl, hLL, hpv]
        have hpb : ∀ p ∈ pv, -1000 ≤ p.1 ∧ p.1 ≤ 1000 ∧ 0 ≤ p.2 ∧ p.2 ≤ 20 := fun p hp => pair_b hok (by rw [hpv]; exact hp)
        have hmb := (blk_b hok).1
        rw [← hmk] at hmb
        rw [hpv] at hpos hle
        have hpl : prL pv.length (pC pv) = pv := prL_pC pv
        obtain ⟨f, hf⟩ : ∃ f : Nat → Int, (fun i => ((leftV mk pv (ov i) : Nat) : Int)) = f := ⟨_, rfl⟩
        have hfi : ∀ i, ((leftV mk (prL pv.length (pC pv)) (ov i) : Nat) : Int) = f i := fun i => by rw [hpl, ← hf]
        have hw : nextV B L = (leastV f m, 0) := by
          rw [nextV, if_pos h, hpv, hLl, ← hmk]
          congr 1
          refine leastV_congr fun i hi => ?_
          rw [← hf, ← hL, getD_intL hi]
        obtain ⟨W, hW⟩ : ∃ W, leastV f m = W := ⟨_, rfl⟩
        rw [hw, hW]
        have hob : 0 < m ∧ ∀ i, i < m → -100 ≤ ov i ∧ ov i ≤ 100 := by
          rw [← hL] at hist
          unfold offsB at hist
          simp only [Bool.and_eq_true, decide_eq_true_eq, List.length_map, List.length_range, List.all_eq_true] at hist
          refine ⟨by omega, fun i hi => ?_⟩
          have := hist.2 (ov i) (List.mem_map.2 ⟨i, List.mem_range.2 hi, rfl⟩)
          simpa only [inB, Bool.and_eq_true, decide_eq_true_eq] using this
        have hpre : ∀ i, i < m → (Rds n fun i => rdC (rd i)) ∧ Prs pv.length (pC pv) ∧ knL 0 [] [SV.si .i64 (ov i)] = true ∧ PreH (some (smB 1000 mk ∧ smB 1000 (ov i) ∧ (prL pv.length (pC pv)).length ≤ 1000000 ∧ ∀ p ∈ prL pv.length (pC pv), smB 1000000 p.1 ∧ smB 1000 p.2)) := fun i hi =>
          ⟨rds_rd _ _, prs_pC _ _, rfl, ⟨by omega, by omega⟩, (by have := hob.2 i hi; exact ⟨by omega, by omega⟩), by rw [hpl]; omega, fun p hp => by
            rw [hpl] at hp
            have := hpb p hp
            exact ⟨⟨by omega, by omega⟩, ⟨by omega, by omega⟩⟩⟩
        refine loop_okR (g.ok _ _ _) 47 (fun x : {x : Nat × Nat // x.1 ≤ m ∧ x.2 < m ∧ ((x.2 : Nat) : Int) = (leastV f x.1).1} => ⟨[(1, ⟨[], .sl 1⟩), (2, ⟨[], .sp 2 0⟩), (7, ⟨[], .sl 23⟩), (9, ⟨[], .si .i64 (x.1.2 : Nat)⟩), (10, ⟨[], .si .i64 (x.1.1 : Nat)⟩)], [],
          [(23, .vec 39 2 pv.length (pC pv)), (2, .cells 36 (bC mk l1 l2 c1 c2 0)), (0, .ro 4 n fun i => rdC (rd i)), (1, .ro 1 m fun i => [.si .i64 (ov i)])], 47, []⟩) (fun x => m - x.1.1) (fun j hj => hG j (by omega)) ⟨(0, 0), Nat.zero_le _, hob.1, rfl⟩ (fun j => j) ?_ ?_
        · refine ⟨?_, ?_, rfl, rfl, rfl, rfl, trivial⟩
          · repeat' (first | exact trivial | exact rfl | refine And.intro ?_ ?_)
          · repeat' (first | exact trivial | exact rfl | (intro i hi; exact ⟨rfl, rfl⟩) | (exact congrArg List.length hL') | (intro i hi; exact ⟨congrFun (congrArg pC hL') i, rfl⟩) | refine And.intro ?_ ?_)
        · rintro ⟨⟨i, b⟩, hi, hb, hbe⟩
          simp only at hi hb hbe
          refine Br.mk (fun h2 => ?_) (fun h2 => ?_)
          · have h2 : (i : Int) < (m : Int) := of_decide_eq_true h2
            have hls : leastV f (i + 1) = if i = 0 ∨ f i < (leastV f i).2 then ((i : Int), f i) else leastV f i := rfl
            have hv : 0 < i → (leastV f i).2 = f b := fun h0 => by
              obtain ⟨c, h1, h2⟩ := leastV_at f h0
              rw [h2] at hbe ⊢
              have hbe' : (b : Int) = (c : Int) := hbe
              have : b = c := by omega
              rw [this]
            refine drawn_ok (g.ok _ _ _) fol [0,0,0,0,12,28,63,0,0,0,0,1536,3584,8191,16383] [] 15 (by kernel_rfl) ?_
            refine Chk.mk (show (0 : Int) ≤ (i : Int) ∧ (i : Int) < (m : Int) from ⟨by omega, h2⟩) ?_
            refine Chk.mk (hpre i (by omega)) ?_
            refine Chk.mk (show (0 : Int) ≤ (b : Int) ∧ (b : Int) < (m : Int) from ⟨by omega, by omega⟩) ?_
            refine Chk.mk (hpre b hb) ?_
            refine Br.mk (fun h3 => ?_) (fun h3 => ?_)
            · have h3 : ((leftV mk (prL pv.length (pC pv)) (ov i) : Nat) : Int) < ((leftV mk (prL pv.length (pC pv)) (ov b) : Nat) : Int) := of_decide_eq_true h3
              rw [hfi, hfi] at h3
              have hc : i = 0 ∨ f i < (leastV f i).2 := by
                by_cases h0 : i = 0
                · exact .inl h0
                · rw [hv (by omega)]; exact .inr h3
              rw [if_pos hc] at hls
              refine Chk.mk (show InK .i64 ((i : Int) + 1) from ⟨by omega, by omega⟩) ⟨⟨(i + 1, i), by omega, by omega, by rw [hls]⟩, (fun j => j), ?_, (by show m - (i + 1) < m - i; omega)⟩
              refine ⟨?_, ?_, rfl, rfl, rfl, rfl, trivial⟩
              · repeat' (first | exact trivial | exact rfl | refine And.intro ?_ ?_)
              · repeat' (first | exact trivial | exact rfl | (intro i hi; exact ⟨rfl, rfl⟩) | refine And.intro ?_ ?_)
            · have h3 : ¬ ((leftV mk (prL pv.length (pC pv)) (ov i) : Nat) : Int) < ((leftV mk (prL pv.length (pC pv)) (ov b) : Nat) : Int) := of_decide_eq_false h3
              rw [hfi, hfi] at h3
              have hb2 : ((b : Nat) : Int) = (leastV f (i + 1)).1 := by
                by_cases h0 : i = 0
                · subst h0
                  rw [hls, if_pos (.inl rfl)]
                  rw [hbe]
                  rfl
                · rw [hls, if_neg (fun hc => by
                    rcases hc with hc | hc
                    · exact h0 hc
                    · rw [hv (by omega)] at hc; exact h3 hc)]
                  exact hbe
              refine Chk.mk (show InK .i64 ((i : Int) + 1) from ⟨by omega, by omega⟩) ⟨⟨(i + 1, b), by omega, hb, hb2⟩, (fun j => j), ?_, (by show m - (i + 1) < m - i; omega)⟩
              refine ⟨?_, ?_, rfl, rfl, rfl, rfl, trivial⟩
              · repeat' (first | exact trivial | exact rfl | refine And.intro ?_ ?_)
              · repeat' (first | exact trivial | exact rfl | (intro i hi; exact ⟨rfl, rfl⟩) | refine And.intro ?_ ?_)
          · have h2 : ¬ (i : Int) < (m : Int) := of_decide_eq_false h2
            obtain rfl : i = m := by omega
            obtain ⟨c, k1, k2⟩ := leastV_at f hob.1
            rw [k2] at hbe
            have hbe' : (b : Int) = (c : Int) := hbe
            obtain rfl : b = c := by omega
            have hWb : W = ((b : Int), f b) := by rw [← hW, k2]
            subst hWb
            refine drawn_ok (g.ok _ _ _) fol [0,0,0,0,0,24,56,126,255,511,1023] [] 11 (by kernel_rfl) ?_
            refine Chk.mk (show (0 : Int) ≤ (b : Int) ∧ (b : Int) < (i : Int) from ⟨by omega, by omega⟩) ?_
            refine Chk.mk (hpre b hb) ?_
            exact ⟨.inl rfl, end_noid ⟨⟨rfl, rfl⟩, ⟨rfl, hfi b⟩, ⟨rfl, rfl⟩, trivial⟩ rfl rfl ⟨trivial, trivial, trivial⟩⟩
    · cases h
  · cases h
theorem g36 {l : List (Nat × Ct)} (g : Good P T l) : Good P T ((36, c35) :: l) := g.add (k36 g) c35_mono (body_of Try.func36 (c := code Try.f36) rfl (by decide))
end Go.X.W
end

section
set_option linter.unusedVariables false
set_option linter.unusedSimpArgs false
set_option linter.unusedSectionVars false
/- Warm: Clash of the document. -/
set_option linter.unusedVariables false
set_option linter.unusedSimpArgs false
set_option maxRecDepth 10000
set_option maxHeartbeats 4000000
namespace Go.X.W
open Go Go.Proofs Go.X

/-- The least set so far that no pair goes with. -/
def bestC (q : Nat → Bool) (n : Nat) : Nat → Nat
  | 0 => 2 ^ n - 1
  | s + 1 => if sizeN s < sizeN (bestC q n s) ∧ q s = true then s else bestC q n s
theorem bestC_lt (q : Nat → Bool) (n : Nat) : ∀ s, s ≤ 2 ^ n → bestC q n s < 2 ^ n
  | 0, _ => by
    have := Nat.one_le_two_pow (n := n)
    simp only [bestC]
    omega
  | s + 1, h => by
    simp only [bestC]
    split
    · omega
    · exact bestC_lt q n s (by omega)
def noneB (B : Blk) (s : Nat) : Bool := decide ((pairsS B (s : Int)).length = 0)
def clashD (B : Blk) : Int × Int := if blkOk B = true then (if (pairsV B).length = 0 then ((bestC (noneB B) B.rs.length (2 ^ B.rs.length) : Nat), 0) else (0, 4)) else (0, 1)
def c38 : Ct := wmCt fun B r => match r with
  | [] => some (none, .tup [.si .i64 (clashD B).1, .si .i64 (clashD B).2])
  | _ => none
theorem k38 {l : List (Nat × Ct)} (g0 : Good P T l) : COk P 38 c38 := by
  have g := g16 (g86 (g96 (g49 (g97 g0))))
  refine cok (C := tabC _) g.ok Try.func38 (c := code Try.f38) rfl fun fr args H out h hp => wmWalk h hp fun mk l1 l2 c1 c2 n rd r p v Rv Rp hk hp hR => ?_
  split at hk
  · cases hk
    refine ⟨Nat.le_of_ble_eq_true rfl, fun G hG => ?_⟩
    obtain ⟨B, hBe⟩ : ∃ B : Blk, (⟨mk, l1, l2, c1, c2, (List.range n).map rd⟩ : Blk) = B := ⟨_, rfl⟩
    have hB' : (⟨mk, l1, l2, c1, c2, rdL n fun i => rdC (rd i)⟩ : Blk) = B := hBe
    have hlen : B.rs.length = n := by rw [← hBe]; simp
    have hlr : (rdL n fun i => rdC (rd i)).length = n := by simp [rdL]
    rw [hBe] at hR
    refine Chk.mk ⟨rds_rd _ _, rfl, trivial⟩ ?_
    refine Br.mk (fun h => ?_) (fun h => ?_)
    · have h : (!blkOk ⟨mk, l1, l2, c1, c2, rdL n fun i => rdC (rd i)⟩) = true := h
      rw [hB'] at h
      have h : ¬ blkOk B = true := by simpa using h
      have hw : clashD B = (0, 1) := by rw [clashD, if_neg h]
      rw [hw] at hR
      exact hR _ _ ⟨⟨rfl, rfl⟩, ⟨rfl, rfl⟩, trivial⟩ rfl
    have h : (!blkOk ⟨mk, l1, l2, c1, c2, rdL n fun i => rdC (rd i)⟩) = false := h
    rw [hB'] at h
    have hok : blkOk B = true := by simpa using h
    have hn : n ≤ 5 := by have := (blk_b hok).2.2.2.1; omega
    have hpw := pow_le5 hn
    have hpn : ((2 ^ n : Nat) : Int) = (2 : Int) ^ n := by push_cast; rfl
    refine Chk.mk ⟨rds_rd _ _, rfl, by rw [hB']; exact hok⟩ ?_
    refine Br.mk (fun h => ?_) (fun h => ?_)
    · have h : (0 : Int) < (((pairsV ⟨mk, l1, l2, c1, c2, rdL n fun i => rdC (rd i)⟩).length : Nat) : Int) := of_decide_eq_true h
      rw [hB'] at h
      have hw : clashD B = (0, 4) := by rw [clashD, if_pos hok, if_neg (by omega)]
      rw [hw] at hR
      exact hR _ _ ⟨⟨rfl, rfl⟩, ⟨rfl, rfl⟩, trivial⟩ rfl
    have h : ¬ (0 : Int) < (((pairsV ⟨mk, l1, l2, c1, c2, rdL n fun i => rdC (rd i)⟩).length : Nat) : Int) := of_decide_eq_false h
    rw [hB'] at h
    obtain ⟨q, hq⟩ : ∃ q : Nat → Bool, noneB B = q := ⟨_, rfl⟩
    have hw : clashD B = (((bestC q n (2 ^ n) : Nat) : Int), 0) := by rw [clashD, if_pos hok, if_pos (by omega), hlen, hq]
    rw [hw] at hR
    have hl40 : (rdL n fun i => rdC (rd i)).length ≤ 40 := by omega
    refine Chk.mk ⟨rds_rd _ _, rfl, hl40⟩ ?_
    refine loop_okR (g.ok _ _ _) 2 (fun x : {s : Nat // s ≤ 2 ^ n} => ⟨[(1, ⟨[], .sp 1 0⟩), (4, ⟨[], .si .i64 (bestC q n x.1 : Nat)⟩), (5, ⟨[], .si .i64 (x.1 : Nat)⟩)], [],
      [(1, .cells 36 (bC mk l1 l2 c1 c2 0)), (0, .ro 4 n fun i => rdC (rd i))], 6, []⟩) (fun x => 2 ^ n - x.1) (fun j hj => hG j (by omega)) ⟨0, Nat.zero_le _⟩ (fun j => j) ?_ ?_
    · refine ⟨?_, ?_, rfl, rfl, rfl, rfl, trivial⟩
      · repeat' (first | exact trivial | exact rfl | (show (2 : Int) ^ (rdL n fun i => rdC (rd i)).length - 1 = ((2 ^ n - 1 : Nat) : Int); rw [hlr]; omega) | refine And.intro ?_ ?_)
      · repeat' (first | exact trivial | exact rfl | (intro i hi; exact ⟨rfl, rfl⟩) | refine And.intro ?_ ?_)
    · rintro ⟨s, hs⟩
      have hbl := bestC_lt q n s hs
      refine Chk.mk ⟨rds_rd _ _, rfl, hl40⟩ ?_
      refine Br.mk (fun h2 => ?_) (fun h2 => ?_)
      · have h2 : (s : Int) ≤ (2 : Int) ^ (rdL n fun i => rdC (rd i)).length - 1 := of_decide_eq_true h2
        rw [hlr] at h2
        have hsu : bestC q n (s + 1) = if sizeN s < sizeN (bestC q n s) ∧ q s = true then s else bestC q n s := rfl
        refine Chk.mk (show (s : Int) < 4611686018427387904 by omega) ?_
        refine Chk.mk (show ((bestC q n s : Nat) : Int) < 4611686018427387904 by omega) ?_
        by_cases hlt : sizeN s < sizeN (bestC q n s)
        · have hd : decide (((sizeN s : Nat) : Int) < ((sizeN (bestC q n s) : Nat) : Int)) = true := decide_eq_true (by omega)
          refine fb_run rfl rfl ⟨trivial, rfl, (by show decide (((sizeN s : Nat) : Int) < ((sizeN (bestC q n s) : Nat) : Int)) = true; exact hd)⟩ ?_
          refine fb_again (g.ok _ _ _) cont_std rfl ?_
          refine Chk.mk ⟨rds_rd _ _, rfl, by rw [hB']; exact hok, (show (0 : Int) ≤ (s : Int) by omega), (show (s : Int) < 1000000 by omega)⟩ ?_
          have hqs : q s = decide ((pairsS B (s : Int)).length = 0) := by rw [← hq]; rfl
          refine Br.mk (fun h3 => ?_) (fun h3 => ?_)
          · have h3 : (decide (((sizeN s : Nat) : Int) < ((sizeN (bestC q n s) : Nat) : Int)) && decide ((((pairsS ⟨mk, l1, l2, c1, c2, rdL n fun i => rdC (rd i)⟩ (s : Int)).length : Nat) : Int) = 0)) = true := h3
            rw [hd, hB', Bool.true_and, decide_eq_true_eq] at h3
            rw [if_pos ⟨hlt, by rw [hqs]; exact decide_eq_true (by omega)⟩] at hsu
            refine Chk.mk (show InK .i64 ((s : Int) + 1) from ⟨by omega, by omega⟩) ⟨⟨s + 1, by omega⟩, (fun j => j), ?_, (by show 2 ^ n - (s + 1) < 2 ^ n - s; omega)⟩
            refine ⟨?_, ?_, rfl, rfl, rfl, rfl, trivial⟩
            · repeat' (first | exact trivial | exact rfl | (show (s : Int) = ((bestC q n (s + 1) : Nat) : Int); rw [hsu]) | refine And.intro ?_ ?_)
            · repeat' (first | exact trivial | exact rfl | (intro i hi; exact ⟨rfl, rfl⟩) | refine And.intro ?_ ?_)
          · have h3 : (decide (((sizeN s : Nat) : Int) < ((sizeN (bestC q n s) : Nat) : Int)) && decide ((((pairsS ⟨mk, l1, l2, c1, c2, rdL n fun i => rdC (rd i)⟩ (s : Int)).length : Nat) : Int) = 0)) = false := h3
            rw [hd, hB', Bool.true_and, decide_eq_false_iff_not] at h3
            rw [if_neg (fun hc => by
              have := hc.2
              rw [hqs, decide_eq_true_eq] at this
              omega)] at hsu
            refine Chk.mk (show InK .i64 ((s : Int) + 1) from ⟨by omega, by omega⟩) ⟨⟨s + 1, by omega⟩, (fun j => j), ?_, (by show 2 ^ n - (s + 1) < 2 ^ n - s; omega)⟩
            refine ⟨?_, ?_, rfl, rfl, rfl, rfl, trivial⟩
            · repeat' (first | exact trivial | exact rfl | (show ((bestC q n s : Nat) : Int) = ((bestC q n (s + 1) : Nat) : Int); rw [hsu]) | refine And.intro ?_ ?_)
            · repeat' (first | exact trivial | exact rfl | (intro i hi; exact ⟨rfl, rfl⟩) | refine And.intro ?_ ?_)
        · have hd : decide (((sizeN s : Nat) : Int) < ((sizeN (bestC q n s) : Nat) : Int)) = false := decide_eq_false (by omega)
          have hd' : decide (((sizeN s : Nat) : Int) < ((sizeN (bestC q n s) : Nat) : Int)) = !true := hd
          refine fb_skip 26 true (g.ok _ _ _) cont_std rfl rfl rfl rfl rfl rfl rfl trivial hd' ?_
          refine fb_skip 26 true (g.ok _ _ _) cont_std rfl rfl rfl rfl rfl rfl rfl trivial hd' ?_
          refine fb_skip 26 true (g.ok _ _ _) cont_std rfl rfl rfl rfl rfl rfl rfl trivial hd' ?_
          rw [if_neg (fun hc => hlt hc.1)] at hsu
          refine Br.mk (fun h3 => ?_) (fun _ => ?_)
          · exfalso
            have h3 : (decide (((sizeN s : Nat) : Int) < ((sizeN (bestC q n s) : Nat) : Int)) && false) = true := h3
            simp at h3
          refine Chk.mk (show InK .i64 ((s : Int) + 1) from ⟨by omega, by omega⟩) ⟨⟨s + 1, by omega⟩, (fun j => j), ?_, (by show 2 ^ n - (s + 1) < 2 ^ n - s; omega)⟩
          refine ⟨?_, ?_, rfl, rfl, rfl, rfl, trivial⟩
          · repeat' (first | exact trivial | exact rfl | (show ((bestC q n s : Nat) : Int) = ((bestC q n (s + 1) : Nat) : Int); rw [hsu]) | refine And.intro ?_ ?_)
          · repeat' (first | exact trivial | exact rfl | (intro i hi; exact ⟨rfl, rfl⟩) | refine And.intro ?_ ?_)
      · have h2 : ¬ (s : Int) ≤ (2 : Int) ^ (rdL n fun i => rdC (rd i)).length - 1 := of_decide_eq_false h2
        rw [hlr] at h2
        have hse : s = 2 ^ n := by omega
        subst hse
        exact hR _ _ ⟨⟨rfl, rfl⟩, ⟨rfl, rfl⟩, trivial⟩ rfl
  · cases hk
theorem g38 {l : List (Nat × Ct)} (g : Good P T l) : Good P T ((38, c38) :: l) := g.add (k38 g) (wmCt_mono _) (body_of Try.func38 (c := code Try.f38) rfl (by decide))
end Go.X.W
end

section
set_option linter.unusedVariables false
set_option linter.unusedSimpArgs false
set_option linter.unusedSectionVars false
/- Warm: the program's Clash is the document's. -/
set_option linter.unusedVariables false
set_option linter.unusedSimpArgs false
set_option maxRecDepth 10000
set_option maxHeartbeats 4000000
namespace Go.X.W
open Go Go.Proofs Go.X

/-- The lists that are gone through, in their order. -/
def enG : Nat → Nat → List Int → List (List Int)
  | 0, _, L => [L]
  | k + 1, below, L => (List.range (below - k)).flatMap fun i => enG k (k + i) (((k + i : Nat) : Int) :: L)
theorem onV_find (B : Blk) : ∀ (k below : Nat) (L : List Int), onV B k below L = (enG k below L).find? fun M => !canB B M
  | 0, below, L => by
    unfold onV enG
    simp only [List.find?_cons, List.find?_nil]
    cases canB B L <;> rfl
  | k + 1, below, L => by
    unfold onV enG
    rw [List.find?_flatMap]
    congr 1
    funext i
    exact onV_find B k (k + i) _
def enA (n : Nat) : List (List Int) := (List.range (n + 1)).flatMap fun m => enG m n []
theorem clV_find (B : Blk) : clV B = (enA B.rs.length).find? fun M => !canB B M := by
  unfold clV enA
  rw [List.find?_flatMap]
  congr 1
  funext m
  exact onV_find B m _ []
def maskN (L : List Int) : Nat := (bst L L.length).toNat
def cnt5 (s : Nat) : Nat := s % 2 + (s / 2 % 2 + (s / 2 / 2 % 2 + (s / 2 / 2 / 2 % 2 + s / 2 / 2 / 2 / 2 % 2)))
theorem size_step (s : Nat) : sizeN s = s % 2 + sizeN (s / 2) := by
  rcases Nat.eq_zero_or_pos s with h | h
  · subst h; simp [sizeN]
  · exact sizeN_pos h
theorem size_tab {s : Nat} (h : s < 32) : sizeN s = cnt5 s := by
  rw [size_step s, size_step (s / 2), size_step (s / 2 / 2), size_step (s / 2 / 2 / 2), size_step (s / 2 / 2 / 2 / 2), show s / 2 / 2 / 2 / 2 / 2 = 0 by omega]
  unfold cnt5
  simp [sizeN]
def keyC (s : Nat) : Nat := cnt5 s * 64 + s
def tabOk (n : Nat) : Bool := (enA n).all (fun L => decide (bst L L.length = (maskN L : Int)) && decide (maskN L < 2 ^ n) && L.all (fun x => decide (0 ≤ x ∧ x < (n : Int))) && (List.range n).all fun i => hasB ((maskN L : Nat) : Int) i == L.contains (i : Int)) &&
  (List.range (2 ^ n)).all (fun s => (enA n).any fun L => maskN L == s) && decide (((enA n).map maskN).Pairwise fun a b => keyC a < keyC b) && (List.range (2 ^ n)).all fun s => decide (cnt5 (2 ^ n - 1) ≤ cnt5 s → s = 2 ^ n - 1)
theorem tab_ok : ∀ n, n ≤ 5 → tabOk n = true := by
  intro n h
  rcases (show n = 0 ∨ n = 1 ∨ n = 2 ∨ n = 3 ∨ n = 4 ∨ n = 5 by omega) with h | h | h | h | h | h <;> subst h <;> decide +kernel

theorem tab_split {n : Nat} (hn : n ≤ 5) : (∀ L ∈ enA n, bst L L.length = (maskN L : Int) ∧ maskN L < 2 ^ n ∧ (∀ x ∈ L, 0 ≤ x ∧ x < (n : Int)) ∧ ∀ i, i < n → hasB ((maskN L : Nat) : Int) i = L.contains (i : Int)) ∧
    (∀ s, s < 2 ^ n → ∃ L ∈ enA n, maskN L = s) ∧ ((enA n).map maskN).Pairwise (fun a b => keyC a < keyC b) ∧ ∀ s, s < 2 ^ n → cnt5 (2 ^ n - 1) ≤ cnt5 s → s = 2 ^ n - 1 := by
  have h := tab_ok n hn
  unfold tabOk at h
  simp only [Bool.and_eq_true, decide_eq_true_eq, List.all_eq_true, List.any_eq_true, beq_iff_eq] at h
  obtain ⟨⟨⟨h1, h2⟩, h3⟩, h4⟩ := h
  refine ⟨fun L hL => ?_, fun s hs => h2 s (List.mem_range.2 hs), h3, fun s hs => h4 s (List.mem_range.2 hs)⟩
  obtain ⟨⟨⟨a1, a2⟩, a3⟩, a4⟩ := h1 L hL
  exact ⟨a1, a2, a3, fun i hi => a4 i (List.mem_range.2 hi)⟩

/-- What is found first is least. -/
theorem find_least {L : List (List Int)} {q : Nat → Bool} (hp : (L.map maskN).Pairwise fun a b => keyC a < keyC b) {M : List Int} (h : L.find? (fun M => q (maskN M)) = some M) : q (maskN M) = true ∧ M ∈ L ∧ ∀ M' ∈ L, q (maskN M') = true → keyC (maskN M) ≤ keyC (maskN M') := by
  induction L with
  | nil => cases h
  | cons A r ih =>
    rw [List.map_cons, List.pairwise_cons] at hp
    rw [List.find?_cons] at h
    cases hA : q (maskN A) with
    | true =>
      rw [hA] at h
      cases h
      refine ⟨hA, List.mem_cons_self, fun M' hM' _ => ?_⟩
      rcases List.mem_cons.1 hM' with rfl | hM'
      · exact Nat.le_refl _
      · exact Nat.le_of_lt (hp.1 _ (List.mem_map.2 ⟨M', hM', rfl⟩))
    | false =>
      rw [hA] at h
      obtain ⟨h1, h2, h3⟩ := ih hp.2 h
      refine ⟨h1, List.mem_cons_of_mem _ h2, fun M' hM' hq => ?_⟩
      rcases List.mem_cons.1 hM' with rfl | hM'
      · rw [hA] at hq; cases hq
      · exact h3 M' hM' hq
theorem bestC_least {q : Nat → Bool} {n : Nat} (hn : n ≤ 5) (hq : q (2 ^ n - 1) = true) : ∀ s, s ≤ 2 ^ n → q (bestC q n s) = true ∧ bestC q n s < 2 ^ n ∧ (bestC q n s < s ∨ bestC q n s = 2 ^ n - 1) ∧ ∀ t, t < s → q t = true → keyC (bestC q n s) ≤ keyC t := by
  have hpow : 2 ^ n ≤ 32 ∧ 1 ≤ 2 ^ n := ⟨Nat.pow_le_pow_right (n := 2) (by decide) hn, Nat.one_le_two_pow⟩
  obtain ⟨_, _, _, htop⟩ := tab_split hn
  intro s
  induction s with
  | zero =>
    intro _
    refine ⟨hq, by simp only [bestC]; omega, .inr rfl, fun t ht => by omega⟩
  | succ s ih =>
    intro hs
    obtain ⟨h1, h2, h3, h4⟩ := ih (by omega)
    have e : bestC q n (s + 1) = if sizeN s < sizeN (bestC q n s) ∧ q s = true then s else bestC q n s := rfl
    rw [size_tab (by omega : s < 32), size_tab (by omega : bestC q n s < 32)] at e
    by_cases hc : cnt5 s < cnt5 (bestC q n s) ∧ q s = true
    · rw [if_pos hc] at e
      rw [e]
      refine ⟨hc.2, by omega, .inl (by omega), fun t ht hqt => ?_⟩
      rcases (show t < s ∨ t = s by omega) with ht | rfl
      · have := h4 t ht hqt
        unfold keyC at this ⊢
        omega
      · exact Nat.le_refl _
    · rw [if_neg hc] at e
      rw [e]
      refine ⟨h1, h2, h3.imp (fun h => by omega) id, fun t ht hqt => ?_⟩
      rcases (show t < s ∨ t = s by omega) with ht | rfl
      · exact h4 t ht hqt
      · have hle : cnt5 (bestC q n t) ≤ cnt5 t := by
          rcases Nat.lt_or_ge (cnt5 t) (cnt5 (bestC q n t)) with h | h
          · exact absurd ⟨h, hqt⟩ hc
          · exact h
        rcases h3 with h3 | h3
        · unfold keyC; omega
        · rw [h3] at hle ⊢
          have := htop t (by omega) hle
          rw [this]
          exact Nat.le_refl _
theorem sub_set {B : Blk} {L : List Int} (hL : ∀ x ∈ L, 0 ≤ x ∧ x < (B.rs.length : Int)) {s : Nat} (hs : ∀ i, i < B.rs.length → hasB (s : Int) i = L.contains (i : Int)) : canB B L = !noneB B s := by
  have e : pairsV (subV B L) = pairsS B (s : Int) := by
    unfold pairsV pairsS subV
    simp only
    congr 1
    funext p
    unfold okP okB' okS
    rw [Bool.eq_iff_iff, List.all_map, List.all_eq_true, List.all_eq_true]
    constructor
    · intro h i hi
      have hi := List.mem_range.1 hi
      have h1 := hs i hi
      cases hc : L.contains (i : Int) with
      | false => rw [h1, hc]; rfl
      | true =>
        have hm : (i : Int) ∈ L := by simpa using hc
        have h2 : canV B.mark p (rdGet B.rs (i : Int)) = true := h _ hm
        show (!hasB (s : Int) i || canV B.mark p (rdGet B.rs (i : Int))) = true
        rw [h2, Bool.or_true]
    · intro h x hx
      have hb := hL x hx
      have h1 : (!hasB (s : Int) x.toNat || canV B.mark p (rdGet B.rs ((x.toNat : Nat) : Int))) = true := h x.toNat (List.mem_range.2 (by omega))
      rw [hs x.toNat (by omega), show ((x.toNat : Nat) : Int) = x by omega] at h1
      have hc : L.contains x = true := by simpa using hx
      rw [hc] at h1
      simpa using h1
  unfold canB noneB
  rw [e]
  cases h : (pairsS B (s : Int)).length with
  | zero => rfl
  | succ k => rfl
theorem clash_eq (B : Blk) : clashV B = clashD B := by
  unfold clashV clashD
  by_cases hok : blkOk B = true
  · have e1 : errV B 0 true = 0 := by rw [errV, if_pos hok, if_pos (by decide), if_pos rfl]
    rw [if_pos e1, if_pos hok]
    have hn := (blk_b hok).2.2.2.1
    have hpow : 2 ^ B.rs.length ≤ 32 ∧ 1 ≤ 2 ^ B.rs.length := ⟨Nat.pow_le_pow_right (n := 2) (by decide) hn, Nat.one_le_two_pow⟩
    obtain ⟨t1, t2, t3, _⟩ := tab_split hn
    have hqe : ∀ M ∈ enA B.rs.length, (!canB B M) = noneB B (maskN M) := fun M hM => by
      obtain ⟨_, _, a3, a4⟩ := t1 M hM
      rw [sub_set a3 a4, Bool.not_not]
    have hfind : clV B = (enA B.rs.length).find? fun M => noneB B (maskN M) := by
      rw [clV_find]
      have key : ∀ l : List (List Int), (∀ M ∈ l, M ∈ enA B.rs.length) → l.find? (fun M => !canB B M) = l.find? fun M => noneB B (maskN M) := by
        intro l
        induction l with
        | nil => intro _; rfl
        | cons A r ih =>
          intro h
          rw [List.find?_cons, List.find?_cons, hqe A (h A List.mem_cons_self), ih fun M hM => h M (List.mem_cons_of_mem _ hM)]
      exact key _ fun M hM => hM
    by_cases hp : (pairsV B).length = 0
    · rw [if_pos hp]
      have hfull : noneB B (2 ^ B.rs.length - 1) = true := by
        unfold noneB
        rw [show (((2 ^ B.rs.length - 1 : Nat)) : Int) = 2 ^ B.rs.length - 1 by
          rw [Int.ofNat_sub hpow.2]; push_cast; rfl, pairsS_every hn]
        exact decide_eq_true hp
      cases hc : clV B with
      | none =>
        exfalso
        rw [hfind, List.find?_eq_none] at hc
        obtain ⟨L, hL, hm⟩ := t2 (2 ^ B.rs.length - 1) (by omega)
        exact hc L hL (by rw [hm]; exact hfull)
      | some M =>
        simp only
        rw [if_pos hp]
        rw [hfind] at hc
        obtain ⟨a1, a2, a3⟩ := find_least t3 hc
        obtain ⟨b1, b2, b3, b4⟩ := bestC_least hn hfull (2 ^ B.rs.length) (Nat.le_refl _)
        obtain ⟨c1, c2, _, _⟩ := t1 M a2
        have k1 := b4 _ c2 a1
        obtain ⟨M', d1, d2⟩ := t2 _ b2
        have k2 := a3 M' d1 (by rw [d2]; exact b1)
        rw [d2] at k2
        have : maskN M = bestC (noneB B) B.rs.length (2 ^ B.rs.length) := by
          unfold keyC at k1 k2
          omega
        rw [c1, this]
    · rw [if_neg hp]
      cases clV B with
      | none => rfl
      | some M => simp only; rw [if_neg hp]
  · have e1 : errV B 0 true = 1 := by rw [errV, if_neg hok]
    rw [e1, if_neg (by decide), if_neg hok]
end Go.X.W
end

section
set_option linter.unusedVariables false
set_option linter.unusedSimpArgs false
set_option linter.unusedSectionVars false
/- Warm: what the samples of awake come to. -/
set_option linter.unusedVariables false
set_option linter.unusedSimpArgs false
set_option maxRecDepth 10000
set_option maxHeartbeats 4000000
namespace Go.X.W
open Go Go.Proofs Go.X

def smp (l : List Rd) : Blk := ⟨50, -3, 3, 10, 12, (1, 2, 52, 58) :: l⟩
theorem aw_len : hullE (smp [(0, 0, 2, 3)]) true (fun p => [p.1]) = ((2, 3), 0) := by decide +kernel
theorem aw_coeff : hullE (smp [(0, 0, 2, 3)]) true (fun p => [p.2]) = ((10, 11), 0) := by decide +kernel
theorem aw_held : hullE (smp []) true (fun p => warmV 50 p (1, 2, 52, 58)) = ((1, 1), 0) := by decide +kernel
theorem aw_show : hullE (smp [(0, 0, 2, 3)]) true (showL 50 (-1) 1) = ((-53, 58), 0) := by decide +kernel
theorem aw_room : roomE (smp []) 60 = (1, 0) := by decide +kernel
theorem aw_cnt : cntV (smp []) = (11, 0) := by decide +kernel
theorem aw_next : nextV (smp []) [0, 1] = ((0, 2), 0) := by decide +kernel
theorem aw_clash : clashV (smp [(0, 0, 2, 3), (2, 2, 115, 120)]) = (6, 0) := by decide +kernel
end Go.X.W
end

section
set_option linter.unusedVariables false
set_option linter.unusedSimpArgs false
set_option linter.unusedSectionVars false
/- Warm: awake. -/
set_option linter.unusedVariables false
set_option linter.unusedSimpArgs false
set_option maxRecDepth 10000
set_option maxHeartbeats 4000000
namespace Go.X.W
open Go Go.Proofs Go.X

def smpG (get : Nat → List SV) (i : Nat) : List SV := if i < 1 then rdC (1, 2, 52, 58) else get (i - 1)
def c69 : Ct := fun fr args H =>
  match args with
  | [.sl id] => (match sliceOf 4 H id with
    | some (m, get) => some ⟨some (Rds m get ∧ m ≤ 10), none, .agg [.si .i64 50, .si .i64 (-3), .si .i64 3, .si .i64 10, .si .i64 12, .sl fr], [(fr, .vec 41 4 (1 + m) (smpG get))]⟩
    | none => none)
  | _ => none
theorem c69_mono : CtMono c69 := by
  intro fr args H H' out hH h
  unfold c69 at h ⊢
  split at h
  · split at h
    · rename_i e
      simp only [sliceOf_mono hH e]
      exact h
    · cases h
  · cases h
theorem k69 {l : List (Nat × Ct)} (g0 : Good P T l) : COk P 69 c69 := by
  have g := g42 (g70 g0)
  refine cok (C := tabC _) g.ok Try.func69 (c := code Try.f69) rfl fun fr args H out h hp => ?_
  unfold c69 at h
  split at h
  · rename_i id
    split at h
    · rename_i n get e
      cases h
      obtain ⟨hi, hn1⟩ : Rds n get ∧ n ≤ 10 := hp
      have hh : Hand H [(id, .ro 4 n fun i => rdC (rdAt get i))] := hand_one e (fun i => rfl) (fun i h => (hi i h).symm)
      refine ⟨[(id, .ro 4 n fun i => rdC (rdAt get i))], [.sl 0], [(0, .ro 4 n fun i => rdC (rdAt get i))], 1, [3], rfl, rfl, Nat.le_of_ble_eq_true rfl, hh, rfl, rfl, fun G hG => ?_⟩
      refine fb_row 2 41 4 1 (rdC (1, 2, 52, 58)) (fun _ => rdC (1, 2, 52, 58)) rfl (fun q hq => ?_) ?_
      · obtain rfl : q = 0 := by omega
        rfl
      refine fb_append (Te := 0) 2 0 1 n (fun _ => rdC (1, 2, 52, 58)) (fun i => rdC (rdAt get i)) (smpG fun i => rdC (rdAt get i)) (g.ok _ _ _) cont_std rfl rfl rfl rfl rfl rfl rfl rfl rfl rfl rfl rfl (by decide) (by decide) rfl rfl rfl rfl (by omega) (fun q hq => rfl) ?_
      refine ⟨.inl rfl, ⟨⟨⟨rfl, rfl⟩, ⟨rfl, rfl⟩, ⟨rfl, rfl⟩, ⟨rfl, rfl⟩, ⟨rfl, rfl⟩, rfl, trivial⟩, rfl, ⟨rfl, ⟨rfl, rfl, rfl, fun i hi2 => ⟨?_, ?_⟩⟩, trivial⟩, ⟨trivial, trivial⟩, rfl, rfl⟩⟩
      · show renL _ (smpG (fun i => rdC (rdAt get i)) i) = smpG get i
        unfold smpG
        split
        · rfl
        · rw [hi (i - 1) (by omega)]
          rfl
      · show knL _ _ (smpG (fun i => rdC (rdAt get i)) i) = true
        unfold smpG
        split <;> rfl
    · cases h
  · cases h
theorem b69 : Body P 69 := body_of Try.func69 (c := code Try.f69) rfl (by decide)
theorem g69 {l : List (Nat × Ct)} (g : Good P T l) : Good P T ((69, c69) :: l) := g.add (k69 g) c69_mono b69

def c24 : Ct := plainCt fun
  | [] => some ⟨none, none, .sb true, []⟩
  | _ => none
theorem k24 {l : List (Nat × Ct)} (g0 : Good P T l) : COk P 24 c24 := by
  have g := g69 (g70 (g42 (g19 (g26 (g28 (g30 (g22 (g33 (g35 (g37 good0))))))))))
  refine cok (C := tabC _) g.ok Try.func24 (c := code Try.f24) rfl fun fr args H out h hp => ?_
  simp only [c24, plainCt] at h
  split at h
  · cases h
    refine walk_plain rfl (Nat.le_of_ble_eq_true rfl) fun G hG => ?_
    refine fb_call (g.ok _ _ _) cont_std rfl rfl rfl rfl ?_
    refine ⟨b69, ?_⟩
    refine callS_nil (l' := [.sl 0]) 41 4 (fun _ => rdC (0, 0, 0, 0)) ?_ ?_
    · intro ρ hρ vals hv
      have hz : den ρ (.sl 0) = den ρ (.sv (.slice none 0 0)) := by
        simp only [den, show ρ 0 = _ from hρ]
        rfl
      simp only [denL] at hv ⊢
      rw [hz]
      exact hv
    refine callS_ct (k69 good0) rfl ⟨fun i hi => by omega, by decide⟩ (fun _ => ?_) (fun ch h => by cases h)
    have r1 : ∀ g : Nat → List SV, Rds (1 + 0) (smpG g) := fun g i hi => by
      obtain rfl : i = 0 := by omega
      rfl
    refine Chk.mk ⟨fun i hi => ?_, by decide⟩ ?_
    · obtain rfl : i = 0 := by omega
      rfl
    refine Chk.mk ⟨fun i hi => ?_, rfl, trivial⟩ ?_
    · rcases (show i = 0 ∨ i = 1 by omega) with rfl | rfl <;> rfl
    refine Chk.mk ⟨fun i hi => ?_, rfl, trivial⟩ ?_
    · rcases (show i = 0 ∨ i = 1 by omega) with rfl | rfl <;> rfl
    refine Chk.mk ⟨r1 _, rfl, (show (1 : Nat) ≤ 40 by decide)⟩ ?_
    refine drawn_ok (g.ok _ _ _) fol [0,0,3,7,15,15,0,95,255] [(7, 39)] 9 (by kernel_rfl) ?_
    refine Chk.mk ⟨fun i hi => ?_, rfl, trivial⟩ ?_
    · rcases (show i = 0 ∨ i = 1 by omega) with rfl | rfl <;> rfl
    refine Chk.mk ⟨r1 _, rfl, trivial⟩ ?_
    refine Chk.mk ⟨r1 _, rfl, trivial⟩ ?_
    refine Chk.mk ⟨r1 _, fun i hi => ?_, by decide⟩ ?_
    · rcases (show i = 0 ∨ i = 1 by omega) with rfl | rfl <;> rfl
    refine Chk.mk ⟨fun i hi => ?_, by decide⟩ ?_
    · rcases (show i = 0 ∨ i = 1 by omega) with rfl | rfl <;> rfl
    refine Chk.mk ⟨fun i hi => ?_, rfl, trivial⟩ ?_
    · rcases (show i = 0 ∨ i = 1 ∨ i = 2 by omega) with rfl | rfl | rfl <;> rfl
    refine drawn_ok (g.ok _ _ _) fol [0,0,3,7,15,31,63,127,255,255,1023,2047,4095,8191,16383,32767,65535,131071,131071,524287,1048575,2097151,4194303,8388607,16777215,33554431,67108863,67108863,268435455,536870911,1073741823,2147483647,4294967295,8589934591] [] 34 (by kernel_rfl) ?_
    refine Br.mk (fun h => absurd h (by decide +kernel)) (fun _ => ?_)
    refine ⟨.inl rfl, end_plain ?_ rfl rfl⟩
    show (_ : Bool) = true
    kernel_rfl
  · cases h
theorem g24 {l : List (Nat × Ct)} (g : Good P T l) : Good P T ((24, c24) :: l) := g.add (k24 g) (plainCt_mono _) (body_of Try.func24 (c := code Try.f24) rfl (by decide))
end Go.X.W
end
