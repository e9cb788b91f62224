/- The walk of WarmClash. -/
import Derived.Test.YtipjgdkaocfapaaNM

section
set_option linter.unusedVariables false
set_option linter.unusedSimpArgs false
set_option linter.unusedSectionVars false
/- Warm: a block with the readings of a set alone; the least set that clashes, plainly. -/
set_option linter.unusedVariables false
set_option linter.unusedSimpArgs false
set_option maxRecDepth 10000
set_option maxHeartbeats 1000000
namespace Go.X.W
open Go Go.Proofs Go.X

/-- The readings of a set, of the first so many. -/
def subL (rd : Nat → Rd) (s : Nat) : Nat → List Rd
  | 0 => []
  | i + 1 => if s.testBit i = true then subL rd s i ++ [rd i] else subL rd s i
theorem subL_len (rd : Nat → Rd) (s : Nat) : ∀ i, (subL rd s i).length ≤ i
  | 0 => Nat.le_refl _
  | i + 1 => by
    have := subL_len rd s i
    simp only [subL]
    split
    · rw [List.length_append]; simp; omega
    · omega
theorem subL_mem {rd : Nat → Rd} {s : Nat} {x : Rd} : ∀ {i}, x ∈ subL rd s i ↔ ∃ j, j < i ∧ s.testBit j = true ∧ rd j = x
  | 0 => by simp [subL]
  | i + 1 => by
    have ih := subL_mem (rd := rd) (s := s) (x := x) (i := i)
    simp only [subL]
    split
    · rename_i h
      rw [List.mem_append, ih, List.mem_singleton]
      constructor
      · rintro (⟨j, h1, h2, h3⟩ | h1)
        · exact ⟨j, by omega, h2, h3⟩
        · exact ⟨i, by omega, h, h1.symm⟩
      · rintro ⟨j, h1, h2, h3⟩
        by_cases e : j = i
        · subst e; exact .inr h3.symm
        · exact .inl ⟨j, by omega, h2, h3⟩
    · rename_i h
      rw [ih]
      constructor
      · rintro ⟨j, h1, h2, h3⟩; exact ⟨j, by omega, h2, h3⟩
      · rintro ⟨j, h1, h2, h3⟩
        by_cases e : j = i
        · subst e; exact absurd h2 h
        · exact ⟨j, by omega, h2, h3⟩
/-- Is a number in a set, by its bit? -/
theorem hasB_bit {s i : Nat} : hasB (s : Int) i = s.testBit i := by
  unfold hasB
  rw [Int.tdiv_eq_ediv_of_nonneg (by omega), Int.tmod_eq_emod_of_nonneg (Int.ediv_nonneg (by omega) (Int.pow_nonneg (by decide)))]
  rw [Nat.testBit_eq_decide_div_mod_eq]
  have e : ((s : Int) / 2 ^ i % 2) = ((s / 2 ^ i % 2 : Nat) : Int) := by push_cast; rfl
  rw [e]
  rw [Bool.eq_iff_iff, decide_eq_true_eq, decide_eq_true_eq]
  omega
def partB (B : Blk) (rd : Nat → Rd) (s : Nat) : Blk := ⟨B.mark, B.l1, B.l2, B.c1, B.c2, subL rd s B.rs.length⟩
section
variable {B : Blk} {rd : Nat → Rd} (hrd : ∀ i, i < B.rs.length → rdGet B.rs (i : Int) = rd i)
include hrd
theorem part_pairs (s : Nat) : pairsV (partB B rd s) = pairsS B (s : Int) := by
  have e : okP B.mark (subL rd s B.rs.length) = okB' B (s : Int) := by
    funext p
    unfold okP okB' okS
    rw [Bool.eq_iff_iff, List.all_eq_true, List.all_eq_true]
    constructor
    · intro h i hi
      have hi := List.mem_range.1 hi
      rw [hasB_bit]
      cases hb : s.testBit i
      · rfl
      · have := h (rd i) (subL_mem.2 ⟨i, hi, hb, rfl⟩)
        show (!true || canV B.mark p (rdGet B.rs (i : Int))) = true
        rw [hrd i hi, this]; rfl
    · intro h x hx
      obtain ⟨j, h1, h2, rfl⟩ := subL_mem.1 hx
      have := h j (List.mem_range.2 h1)
      rw [hasB_bit, h2] at this
      have this : (!true || canV B.mark p (rdGet B.rs (j : Int))) = true := this
      rw [hrd j h1] at this
      simpa using this
  show rows (okP B.mark (subL rd s B.rs.length)) B.l1 B.c1 B.c2 (B.l2 + 1) = rows (okB' B (s : Int)) B.l1 B.c1 B.c2 (B.l2 + 1)
  rw [e]
theorem part_none (s : Nat) : decide ((pairsV (partB B rd s)).length = 0) = noneB B s := by
  unfold noneB
  rw [part_pairs hrd]
theorem part_ok (h : blkOk B = true) (s : Nat) : blkOk (partB B rd s) = true := by
  have hmem : ∀ j, j < B.rs.length → rd j ∈ B.rs := fun j hj => by
    rw [← hrd j hj]
    unfold rdGet
    rw [List.getD_eq_getElem?_getD, show ((j : Int)).toNat = j by omega, List.getElem?_eq_getElem hj]
    exact List.getElem_mem hj
  unfold blkOk at h ⊢
  rw [Bool.and_eq_true] at h ⊢
  refine ⟨?_, ?_⟩
  · have h1 := h.1
    unfold headOk at h1 ⊢
    rw [Bool.and_eq_true] at h1 ⊢
    refine ⟨h1.1, ?_⟩
    have h2 := of_decide_eq_true h1.2
    have := subL_len rd s B.rs.length
    exact decide_eq_true (by show ((subL rd s B.rs.length).length : Int) ≤ 5; omega)
  · have h2 := List.all_eq_true.1 h.2
    refine List.all_eq_true.2 fun x hx => ?_
    obtain ⟨j, h3, _, rfl⟩ := subL_mem.1 hx
    exact h2 _ (hmem j h3)
end
/-- What is told of readings that clash. -/
theorem clash_spec {B : Blk} (h : blkOk B = true) : (0 < (pairsV B).length ∧ clashV B = (0, 4)) ∨
    ((pairsV B).length = 0 ∧ ∃ b : Nat, clashV B = ((b : Int), 0) ∧ b < 2 ^ B.rs.length ∧ noneB B b = true ∧ ∀ t, t < 2 ^ B.rs.length → noneB B t = true → keyC b ≤ keyC t) := by
  obtain ⟨_, _, _, hn, _⟩ := blk_b h
  rw [clash_eq]
  unfold clashD
  rw [if_pos h]
  rcases Nat.eq_zero_or_pos (pairsV B).length with h0 | h0
  · right
    rw [if_pos h0]
    have hq : noneB B (2 ^ B.rs.length - 1) = true := by
      unfold noneB
      have e : ((2 ^ B.rs.length - 1 : Nat) : Int) = 2 ^ B.rs.length - 1 := by
        have h1 := Nat.pow_pos (n := B.rs.length) (a := 2) (by decide)
        have h2 : ((2 ^ B.rs.length : Nat) : Int) = 2 ^ B.rs.length := Int.natCast_pow 2 _
        omega
      rw [e, pairsS_every (by omega)]
      exact decide_eq_true h0
    obtain ⟨h1, h2, h3, h4⟩ := bestC_least (q := noneB B) (n := B.rs.length) (by omega) hq (2 ^ B.rs.length) (Nat.le_refl _)
    exact ⟨h0, _, rfl, h2, h1, h4⟩
  · left
    rw [if_neg (by omega)]
    exact ⟨h0, rfl⟩
end Go.X.W
end

section
set_option linter.unusedVariables false
set_option linter.unusedSimpArgs false
set_option linter.unusedSectionVars false
/- Warm: part, and whether readings of a set clash. -/
set_option linter.unusedVariables false
set_option linter.unusedSimpArgs false
set_option maxRecDepth 10000
set_option maxHeartbeats 4000000
namespace Go.X.W
open Go Go.Proofs Go.X

def rC (L : List Rd) : Nat → List SV := fun i => rdC (L.getD i (0, 0, 0, 0))
theorem rC_rds (L : List Rd) (n : Nat) : Rds n (rC L) := fun i hi => rfl
theorem rdL_rC {L : List Rd} {n : Nat} (h : n = L.length) : rdL n (rC L) = L := by
  subst h
  unfold rdL
  refine List.ext_getElem (by simp) fun i h1 h2 => ?_
  simp only [List.getElem_map, List.getElem_range]
  show L.getD i (0, 0, 0, 0) = _
  rw [List.getD_eq_getElem?_getD, List.getElem?_eq_getElem h2]
  rfl
theorem rC_push {A A' : List Rd} {x : Rd} (h : A' = A ++ [x]) {j : Nat} (hj : j < A.length + 1) {R : List SV} (hR : j - A.length = 0 → R = rdC x) : rC A' j = if j < A.length then rC A j else R := by
  rw [h]
  unfold rC
  rw [List.getD_eq_getElem?_getD, List.getElem?_append]
  split
  · rw [List.getD_eq_getElem?_getD]
  · rw [hR (by omega), show j - A.length = 0 by omega]
    rfl
theorem bit_one (s i : Nat) : decide ((((((s : Nat) : Int).fdiv (2 ^ i)).toNat &&& (1 : Int).toNat : Nat) : Int) = 1) = s.testBit i := by
  rw [Nat.testBit_eq_decide_div_mod_eq]
  have e1 : (1 : Int).toNat = 1 := rfl
  have e2 : (((s : Nat) : Int).fdiv (2 ^ i)).toNat = s / 2 ^ i := by
    rw [Int.fdiv_eq_ediv_of_nonneg _ (Int.pow_nonneg (by decide))]
    have e : (2 : Int) ^ i = ((2 ^ i : Nat) : Int) := (Int.natCast_pow 2 i).symm
    rw [e]
    have : ((s : Nat) : Int) / ((2 ^ i : Nat) : Int) = ((s / 2 ^ i : Nat) : Int) := rfl
    rw [this]
    rfl
  rw [e1, e2, Nat.and_one_is_mod, Bool.eq_iff_iff, decide_eq_true_eq, decide_eq_true_eq]
  omega

def c48 : Ct := fun fr args H =>
  match args with
  | [.agg [.si .i64 mk, .si .i64 l1, .si .i64 l2, .si .i64 c1, .si .i64 c2, .sl id], .si .i64 set] => (match sliceOf 4 H id with
    | some (n, get) => some ⟨some (Rds n get ∧ n ≤ 40 ∧ 0 ≤ set ∧ set < 1000000), none, wA mk l1 l2 c1 c2 fr, [(fr, .vec 41 4 (subL (rdAt get) set.toNat n).length (rC (subL (rdAt get) set.toNat n)))]⟩
    | none => none)
  | _ => none
theorem c48_mono : CtMono c48 := by
  intro fr args H H' out hH h
  unfold c48 at h ⊢
  split at h
  · split at h
    · rename_i e
      simp only [sliceOf_mono hH e]
      exact h
    · cases h
  · cases h
theorem k48 {l : List (Nat × Ct)} (g0 : Good P T l) : COk P 48 c48 := by
  have g := g0
  refine cok (C := tabC _) g.ok Try.func48 (c := code Try.f48) rfl fun fr args H out h hp => ?_
  unfold c48 at h
  split at h
  · rename_i mk l1 l2 c1 c2 id set
    split at h
    · rename_i n get e
      cases h
      obtain ⟨hs, hn, h0, h1⟩ : Rds n get ∧ n ≤ 40 ∧ 0 ≤ set ∧ set < 1000000 := hp
      obtain ⟨s, rfl⟩ : ∃ s : Nat, set = (s : Int) := ⟨set.toNat, by omega⟩
      have es : ((s : Int)).toNat = s := by omega
      rw [es]
      have hh : Hand H [(id, .ro 4 n fun i => rdC (rdAt get i))] := hand_one e (fun i => rfl) (fun i h => (hs i h).symm)
      refine ⟨[(id, .ro 4 n fun i => rdC (rdAt get i))], [wA mk l1 l2 c1 c2 0, .si .i64 (s : Int)], [(0, .ro 4 n fun i => rdC (rdAt get i))], 1, [4], rfl, rfl, Nat.le_of_ble_eq_true rfl, hh, rfl, rfl, fun G hG => ?_⟩
      generalize rdAt get = rd
      refine nil_at 3 36 41 4 (rC []) [.si .i64 mk, .si .i64 l1, .si .i64 l2, .si .i64 c1, .si .i64 c2] [] rfl ?_
      refine loop_okR (g.ok _ _ _) 1 (fun z : {i : Nat // i ≤ n} => ⟨[(1, ⟨[], .si .i64 (s : Nat)⟩), (2, ⟨[], .sp 1 0⟩), (4, ⟨[], .sp 2 0⟩), (5, ⟨[], .sp 3 0⟩), (11, ⟨[], .sl 0⟩), (12, ⟨[], .si .i64 n⟩), (13, ⟨[], .si .i64 (z.1 : Nat)⟩)], [],
        [(4, .vec 41 4 (subL rd s z.1).length (rC (subL rd s z.1))), (3, .cells 36 (bC mk l1 l2 c1 c2 4)), (2, .cells 36 [.si .i64 0, .si .i64 0, .si .i64 0, .si .i64 0, .si .i64 0, .sv (.slice none 0 0)]), (1, .cells 36 (bC mk l1 l2 c1 c2 0)), (0, .ro 4 n fun i => rdC (rd i))], 5, []⟩)
        (fun z => n - z.1) (fun j hj => hG j (by omega)) ⟨0, Nat.zero_le _⟩ (fun j => j) ?_ ?_
      · refine ⟨?_, ?_, rfl, rfl, rfl, rfl, trivial⟩
        · repeat' (first | exact trivial | exact rfl | refine And.intro ?_ ?_)
        · repeat' (first | exact trivial | exact rfl | (intro i hi; exact ⟨rfl, rfl⟩) | refine And.intro ?_ ?_)
      rintro ⟨i, hi⟩
      have hsl := subL_len rd s i
      refine Br.mk (fun h => ?_) (fun h => ?_)
      · have h : (i : Int) < (n : Int) := of_decide_eq_true h
        have hk2 : 0 ≤ ((s : Nat) : Int).fdiv (2 ^ i) ∧ ((s : Nat) : Int).fdiv (2 ^ i) ≤ 1000000 := by
          rw [Int.fdiv_eq_ediv_of_nonneg _ (Int.pow_nonneg (by omega))]
          have := Int.ediv_le_self (a := ((s : Nat) : Int)) (2 ^ i) (by omega)
          exact ⟨Int.ediv_nonneg (by omega) (Int.pow_nonneg (by omega)), by omega⟩
        have hin : InK .i64 ((i : Int) + 1) := ⟨by omega, by omega⟩
        refine Chk.mk (show (0 : Int) ≤ (i : Int) ∧ (i : Int) < (n : Int) from ⟨by omega, h⟩) ?_
        refine Chk.mk (show (0 : Int) ≤ (i : Int) ∧ i ≤ 64 from ⟨by omega, by omega⟩) ?_
        refine Chk.mk (show 0 ≤ ((s : Nat) : Int).fdiv (2 ^ i) ∧ (0 : Int) ≤ 1 ∧ InK .i64 (((s : Nat) : Int).fdiv (2 ^ i)) ∧ InK .i64 1 from ⟨hk2.1, by omega, ⟨by omega, by omega⟩, by omega, by omega⟩) ?_
        refine Br.mk (fun h2 => ?_) (fun h2 => ?_)
        · have h2 : s.testBit i = true := (bit_one s i).symm.trans h2
          have hnx : subL rd s (i + 1) = subL rd s i ++ [rd i] := by simp only [subL, h2, if_true]
          have hpl : (subL rd s i).length + 1 = (subL rd s (i + 1)).length := by rw [hnx, List.length_append]; rfl
          refine fb_append (Te := 0) 4 6 (subL rd s i).length 1 _ _ (rC (subL rd s (i + 1))) (g.ok _ _ _) cont_std rfl rfl rfl rfl rfl rfl rfl rfl rfl rfl rfl rfl (by decide) (by decide) rfl rfl rfl rfl (by omega) (fun j hj => rC_push hnx hj fun e => by rw [e]; rfl) ?_
          refine Chk.mk hin ⟨⟨i + 1, by omega⟩, (fun j => match j with | 4 => 7 | j => j), ?_, by show n - (i + 1) < n - i; omega⟩
          refine ⟨?_, ?_, rfl, rfl, rfl, rfl, trivial⟩
          · repeat' (first | exact trivial | exact rfl | refine And.intro ?_ ?_)
          · repeat' (first | exact trivial | exact hpl | exact rfl | (intro i hi; exact ⟨rfl, rfl⟩) | refine And.intro ?_ ?_)
        · have h2 : s.testBit i = false := (bit_one s i).symm.trans h2
          have hnx : subL rd s i = subL rd s (i + 1) := by simp only [subL, h2]; rfl
          refine Chk.mk hin ⟨⟨i + 1, by omega⟩, (fun j => j), ?_, by show n - (i + 1) < n - i; omega⟩
          refine ⟨?_, ?_, rfl, rfl, rfl, rfl, trivial⟩
          · repeat' (first | exact trivial | exact rfl | refine And.intro ?_ ?_)
          · show weakRH _ _ _ [(4, .vec 41 4 (subL rd s (i + 1)).length (rC (subL rd s (i + 1)))), _, _, _, _]
            rw [← hnx]
            repeat' (first | exact trivial | exact rfl | (intro i hi; exact ⟨rfl, rfl⟩) | refine And.intro ?_ ?_)
      · have h : ¬ (i : Int) < (n : Int) := of_decide_eq_false h
        obtain rfl : i = n := by omega
        refine ⟨.inl rfl, ⟨?_, rfl, ?_, ?_, rfl, rfl⟩⟩
        · repeat' (first | exact trivial | exact rfl | refine And.intro ?_ ?_)
        · repeat' (first | exact trivial | exact rfl | (intro i hi; exact ⟨rfl, rfl⟩) | refine And.intro ?_ ?_)
        · repeat' (first | exact trivial | exact rfl | refine And.intro ?_ ?_)
    · cases h
  · cases h
theorem g48 {l : List (Nat × Ct)} (g : Good P T l) : Good P T ((48, c48) :: l) := g.add (k48 g) c48_mono (body_of Try.func48 (c := code Try.f48) rfl (by decide))
end Go.X.W
end

section
set_option linter.unusedVariables false
set_option linter.unusedSimpArgs false
set_option linter.unusedSectionVars false
/- Warm: WarmClash answers true. -/
set_option linter.unusedVariables false
set_option linter.unusedSimpArgs false
set_option maxRecDepth 10000
set_option maxHeartbeats 4000000
namespace Go.X.W
open Go Go.Proofs Go.X

theorem rdGet_of {n : Nat} {rd : Nat → Rd} (i : Nat) (h : i < n) : rdGet (rdL n fun i => rdC (rd i)) (i : Int) = rd i := by
  have e : (rdL n fun i => rdC (rd i)) = (List.range n).map rd := rfl
  rw [e]
  exact rdGet_map (by omega) (by omega)
def c47 : Ct := fun fr args H =>
  match args with
  | [.si .i64 set, .sp wx 0] => (match H wx with
    | some (.cells 36 [.si .i64 mk, .si .i64 l1, .si .i64 l2, .si .i64 c1, .si .i64 c2, .sl id]) => (match sliceOf 4 H id with
      | some (n, get) => some ⟨some (Rds n get ∧ blkOk ⟨mk, l1, l2, c1, c2, rdL n get⟩ = true ∧ 0 ≤ set ∧ set < 1000000), none, .sb (noneB ⟨mk, l1, l2, c1, c2, rdL n get⟩ set.toNat), []⟩
      | none => none)
    | _ => none)
  | _ => none
theorem c47_mono : CtMono c47 := by
  intro fr args H H' out hH h
  unfold c47 at h ⊢
  split at h
  · split at h
    · rename_i e1
      simp only [hH _ _ e1]
      split at h
      · rename_i e
        simp only [sliceOf_mono hH e]
        exact h
      · cases h
    · cases h
  · cases h
theorem k47 {l : List (Nat × Ct)} (g0 : Good P T l) : COk P 47 c47 := by
  have g := g48 (g33 g0)
  refine cok (C := tabC _) g.ok Try.func47 (c := code Try.f47) rfl fun fr args H out h hp => ?_
  unfold c47 at h
  split at h
  · rename_i set wx
    split at h
    · rename_i mk l1 l2 c1 c2 id e1
      split at h
      · rename_i n get e
        cases h
        obtain ⟨hs, hok, h0, h1⟩ : Rds n get ∧ blkOk ⟨mk, l1, l2, c1, c2, rdL n get⟩ = true ∧ 0 ≤ set ∧ set < 1000000 := hp
        obtain ⟨s, rfl⟩ : ∃ s : Nat, set = (s : Int) := ⟨set.toNat, by omega⟩
        have es : ((s : Int)).toNat = s := by omega
        rw [es]
        have hh : Hand H [(wx, .cells 36 (bC mk l1 l2 c1 c2 1)), (id, .ro 4 n fun i => rdC (rdAt get i))] := hand_mk ⟨e1, sliceOf_piece e fun i hi => by rw [hs i hi]; rfl, trivial⟩
          (by repeat' (first | exact trivial | (intro i hi; exact ⟨trivial, trivial, trivial, trivial, trivial⟩) | refine And.intro ?_ ?_ | exact (by decide : (1 : Nat) < 2))) rfl
        refine ⟨_, [.si .i64 (s : Int), .sp 0 0], [(0, .cells 36 (bC mk l1 l2 c1 c2 1)), (1, .ro 4 n fun i => rdC (rdAt get i))], 2, [], rfl, rfl, Nat.le_of_ble_eq_true rfl, hh, rfl, rfl, fun G hG => ?_⟩
        have hL : rdL n get = (List.range n).map (rdAt get) := rfl
        generalize hrd : rdAt get = rd at hL ⊢
        rw [hL] at hok ⊢
        obtain ⟨_, _, _, hn, _⟩ := blk_b hok
        have hn : n ≤ 5 := by simpa using hn
        have hrds : ∀ i, i < (Blk.mk mk l1 l2 c1 c2 ((List.range n).map rd)).rs.length → rdGet (Blk.mk mk l1 l2 c1 c2 ((List.range n).map rd)).rs (i : Int) = rd i := fun i hi => by
          have hi : i < n := by simpa using hi
          exact rdGet_map (by omega) (by omega)
        have hpo := part_ok hrds hok s
        have hpn := part_none hrds s
        refine Chk.mk ⟨rds_rd _ _, by omega, by omega, h1⟩ ?_
        refine Chk.mk ⟨rC_rds _ _, rfl, trivial⟩ ?_
        rw [es, rdL_rC rfl]
        have hpb : partB ⟨mk, l1, l2, c1, c2, (List.range n).map rd⟩ rd s = ⟨mk, l1, l2, c1, c2, subL rd s n⟩ := by
          unfold partB
          simp
        rw [hpb] at hpo hpn
        have hra : (rdAt fun i => rdC (rd i)) = rd := by funext i; rfl
        rw [hra, cnt_ok hpo]
        refine ⟨.inl rfl, end_noid ?_ rfl rfl ?_⟩
        · show (_ : Bool) = _
          rw [← hpn]
          simp
        · repeat' (first | exact trivial | exact rfl | refine And.intro ?_ ?_)
      · cases h
    · cases h
  · cases h
theorem g47 {l : List (Nat × Ct)} (g : Good P T l) : Good P T ((47, c47) :: l) := g.add (k47 g) c47_mono (body_of Try.func47 (c := code Try.f47) rfl (by decide))
end Go.X.W
end

section
set_option linter.unusedVariables false
set_option linter.unusedSimpArgs false
set_option linter.unusedSectionVars false
/- Warm: WarmClash answers true. -/
set_option linter.unusedVariables false
set_option linter.unusedSimpArgs false
set_option maxRecDepth 10000
set_option maxHeartbeats 4000000
namespace Go.X.W
open Go Go.Proofs Go.X

theorem none_zero {B : Blk} (h : blkOk B = true) : noneB B 0 = false := by
  obtain ⟨_, hl, hc, _, _⟩ := blk_b h
  unfold noneB
  refine decide_eq_false fun h0 => ?_
  have hm : (B.l1, B.c1) ∈ pairsS B ((0 : Nat) : Int) := by
    unfold pairsS
    refine rows_mem.2 ⟨⟨Int.le_refl _, by omega, Int.le_refl _, by omega⟩, ?_⟩
    unfold okB' okS
    rw [List.all_eq_true]
    intro i hi
    rw [hasB_bit, Nat.zero_testBit]
    rfl
  have := List.length_pos_of_mem hm
  omega
/-- A set without one of its elements comes before it. -/
theorem less_key : ∀ b, b < 32 → ∀ i, i < 5 → b.testBit i = true → keyC (b - (b &&& 2 ^ i)) < keyC b := by decide +kernel
theorem clash_less {B : Blk} (h : blkOk B = true) {b : Nat} (hb : b < 2 ^ B.rs.length) (hk : ∀ t, t < 2 ^ B.rs.length → noneB B t = true → keyC b ≤ keyC t) {i : Nat} (hi : i < B.rs.length) (ht : b.testBit i = true) : noneB B (b - (b &&& 2 ^ i)) = false := by
  obtain ⟨_, _, _, hn, _⟩ := blk_b h
  have h2 : 2 ^ B.rs.length ≤ 2 ^ 5 := Nat.pow_le_pow_right (by decide) hn
  have h3 := less_key b (by omega) i (by omega) ht
  cases hq : noneB B (b - (b &&& 2 ^ i)) with
  | false => rfl
  | true =>
    have := hk _ (by omega) hq
    omega
theorem key_size {a b : Nat} (ha : a < 32) (hb : b < 32) (h : keyC b ≤ keyC a) : sizeN b < sizeN a ∨ sizeN a = sizeN b ∧ b ≤ a := by
  rw [size_tab ha, size_tab hb]
  unfold keyC at h
  omega

def c12 : Ct := wmCt fun B r => match r with
  | [.si .u8 x] => some (some (0 ≤ x ∧ x < 256), .sb true)
  | _ => none
theorem k12 {l : List (Nat × Ct)} (g0 : Good P T l) : COk P 12 c12 := by
  have g := g39 (g24 (g37 (g33 (g47 (g49 good0)))))
  refine cok (C := tabC _) g.ok Try.func12 (c := code Try.f12) rfl fun fr args H out h hp => wmWalk h hp fun mk l1 l2 c1 c2 n rd r p v Rv Rp hk hp hR => ?_
  split at hk
  · rename_i x
    cases hk
    have hx : 0 ≤ x ∧ x < 256 := hp
    refine ⟨Nat.le_of_ble_eq_true rfl, fun G hG => ?_⟩
    refine Chk.mk ⟨rds_rd _ _, rfl, trivial⟩ ?_
    refine Br.mk (fun h => ?_) (fun h => ?_)
    · exact hR _ _ rfl rfl
    obtain ⟨B, hB⟩ : ∃ B : Blk, Blk.mk mk l1 l2 c1 c2 (rdL n fun i => rdC (rd i)) = B := ⟨_, rfl⟩
    have hok : blkOk B = true := by
      have h : (!fineB ⟨mk, l1, l2, c1, c2, rdL n fun i => rdC (rd i)⟩) = false := h
      rw [hB] at h
      exact fine_blk (by simpa using h)
    have hBn : B.rs.length = n := by rw [← hB]; simp [rdL]
    obtain ⟨hmk, hl, hc, hn, hr⟩ := blk_b hok
    refine Chk.mk ⟨rds_rd _ _, rfl, trivial⟩ ?_
    refine Chk.mk ⟨rds_rd _ _, rfl, trivial⟩ ?_
    rw [hB, cnt_ok hok]
    rcases clash_spec hok with ⟨h0, he⟩ | ⟨h0, b, he, hb, hq, hkey⟩
    · rw [he]
      refine Br.mk (fun h => absurd h ?_) (fun _ => ?_)
      · have h0' : ¬ (pairsV B).length = 0 := by omega
        simpa using h0'
      refine Br.mk (fun _ => ?_) (fun h => absurd h (by simp))
      exact hR _ _ rfl rfl
    rw [he, h0]
    have hpw : 2 ^ n ≤ 2 ^ 5 := Nat.pow_le_pow_right (by decide) (by omega)
    rw [hBn] at hb hkey
    have hb1 : 1 ≤ b := by
      rcases Nat.eq_zero_or_pos b with hz | hz
      · rw [hz, none_zero hok] at hq; cases hq
      · exact hz
    have ep : (1 : Int) * 2 ^ n = ((2 ^ n : Nat) : Int) := by rw [Int.one_mul]; exact (Int.natCast_pow 2 n).symm
    refine Br.mk (fun h => absurd h (by simp)) (fun _ => ?_)
    refine Br.mk (fun h => absurd h (by simp)) (fun _ => ?_)
    have en : ((n : Int)).toNat = n := by omega
    have eb : ((b : Int)).toNat = b := by omega
    obtain ⟨E, hE⟩ : ∃ E : Nat, 2 ^ n = E + 1 := ⟨2 ^ n - 1, by have := Nat.pow_pos (n := n) (a := 2) (by decide); omega⟩
    have hE2 : (1 : Int) * 2 ^ ((n : Int)).toNat - 1 = (E : Int) := by rw [en, ep, hE]; omega
    have hE3 : InK .i64 ((1 : Int) * 2 ^ ((n : Int)).toNat) := by rw [en, ep]; exact ⟨by omega, by omega⟩
    refine Chk.mk (show (0 : Int) ≤ (n : Int) ∧ ((n : Int)).toNat ≤ 64 ∧ InK .i64 ((1 : Int) * 2 ^ ((n : Int)).toNat) from ⟨by omega, by omega, hE3⟩) ?_
    refine Chk.mk (show InK .i64 ((1 : Int) * 2 ^ ((n : Int)).toNat - 1) from by rw [hE2]; exact ⟨by omega, by omega⟩) ?_
    refine Chk.mk (under_of (show Rds _ _ ∧ _ ∧ _ ∧ _ from ⟨rds_rd _ _, by rw [hB]; exact hok, by omega, by omega⟩)) ?_
    rw [hE2, hB, eb]
    refine Br.mk (fun h => absurd h ?_) (fun _ => ?_)
    · rw [hq]; simp; omega
    refine loop_okR (g.ok _ _ _) 1 (fun z : {i : Nat // i ≤ n} => ⟨[(1, ⟨[], .si .u8 x⟩), (2, ⟨[], .sp 1 0⟩), (5, ⟨[], .si .i64 b⟩), (9, ⟨[], .fn (.func 47) [] [.sp 1 0]⟩), (10, ⟨[], .si .i64 E⟩), (73, ⟨[], .si .i64 n⟩), (74, ⟨[], .si .i64 (z.1 : Nat)⟩)], [],
      [(1, .cells 36 (bC mk l1 l2 c1 c2 0)), (0, .ro 4 n fun i => rdC (rd i))], 2, []⟩)
      (fun z => n - z.1) (fun j hj => hG j (by omega)) ⟨0, Nat.zero_le _⟩ (fun j => j) ?_ ?_
    · refine ⟨?_, ?_, rfl, rfl, rfl, rfl, trivial⟩
      · repeat' (first | exact trivial | exact rfl | refine And.intro ?_ ?_)
      · repeat' (first | exact trivial | exact rfl | (intro i hi; exact ⟨rfl, rfl⟩) | refine And.intro ?_ ?_)
    rintro ⟨i, hi⟩
    refine Br.mk (fun h => ?_) (fun h => ?_)
    · have h : (i : Int) < (n : Int) := of_decide_eq_true h
      have hk2 : 0 ≤ ((b : Nat) : Int).fdiv (2 ^ i) ∧ ((b : Nat) : Int).fdiv (2 ^ i) ≤ 1000000 := by
        rw [Int.fdiv_eq_ediv_of_nonneg _ (Int.pow_nonneg (by omega))]
        have := Int.ediv_le_self (a := ((b : Nat) : Int)) (2 ^ i) (by omega)
        exact ⟨Int.ediv_nonneg (by omega) (Int.pow_nonneg (by omega)), by omega⟩
      have hin : InK .i64 ((i : Int) + 1) := ⟨by omega, by omega⟩
      refine Chk.mk (show (0 : Int) ≤ (i : Int) ∧ i ≤ 64 from ⟨by omega, by omega⟩) ?_
      refine Chk.mk (show 0 ≤ ((b : Nat) : Int).fdiv (2 ^ i) ∧ (0 : Int) ≤ 1 ∧ InK .i64 (((b : Nat) : Int).fdiv (2 ^ i)) ∧ InK .i64 1 from ⟨hk2.1, by omega, ⟨by omega, by omega⟩, by omega, by omega⟩) ?_
      have hi5 : i ≤ 4 := by omega
      have p2 : 2 ^ i ≤ 2 ^ 4 := Nat.pow_le_pow_right (by decide) hi5
      have ei : (1 : Int) * 2 ^ ((i : Int)).toNat = ((2 ^ i : Nat) : Int) := by rw [show ((i : Int)).toNat = i by omega, Int.one_mul]; exact (Int.natCast_pow 2 i).symm
      have eii : ((1 : Int) * 2 ^ ((i : Int)).toNat).toNat = 2 ^ i := by rw [ei]; rfl
      have hei : InK .i64 ((1 : Int) * 2 ^ ((i : Int)).toNat) := by rw [ei]; exact ⟨by omega, by omega⟩
      have hand : (((b : Int)).toNat - (((b : Int)).toNat &&& ((1 : Int) * 2 ^ ((i : Int)).toNat).toNat) : Nat) = b - (b &&& 2 ^ i) := by rw [eii, eb]
      refine Chk.mk (under_of (show (0 : Int) ≤ (i : Int) ∧ ((i : Int)).toNat ≤ 64 ∧ InK .i64 ((1 : Int) * 2 ^ ((i : Int)).toNat) from ⟨by omega, by omega, hei⟩)) ?_
      refine Chk.mk (under_of (show (0 : Int) ≤ (b : Int) ∧ 0 ≤ (1 : Int) * 2 ^ ((i : Int)).toNat ∧ InK .i64 (b : Int) ∧ InK .i64 ((1 : Int) * 2 ^ ((i : Int)).toNat) from ⟨by omega, by rw [ei]; omega, ⟨by omega, by omega⟩, hei⟩)) ?_
      refine Chk.mk (under_of (show Rds _ _ ∧ _ ∧ _ ∧ _ from ⟨rds_rd _ _, by rw [hB]; exact hok, by omega, by rw [hand]; omega⟩)) ?_
      rw [hB, hand, show (((b - (b &&& 2 ^ i) : Nat) : Int)).toNat = b - (b &&& 2 ^ i) by omega]
      have hbit := bit_one b i
      refine Br.mk (fun h => absurd h ?_) (fun _ => ?_)
      · have hbit' : decide ((((((b : Nat) : Int).fdiv (2 ^ ((i : Int)).toNat)).toNat &&& (1 : Int).toNat : Nat) : Int) = 1) = b.testBit i := hbit
        show ¬ (decide ((((((b : Nat) : Int).fdiv (2 ^ ((i : Int)).toNat)).toNat &&& (1 : Int).toNat : Nat) : Int) = 1) && noneB B (b - (b &&& 2 ^ i))) = true
        rw [hbit']
        cases ht : b.testBit i with
        | false => simp
        | true => rw [clash_less hok (by rw [hBn]; exact hb) (by rw [hBn]; exact hkey) (by omega) ht]; simp
      refine Chk.mk hin ⟨⟨i + 1, by omega⟩, (fun j => j), ?_, by show n - (i + 1) < n - i; omega⟩
      refine ⟨?_, ?_, rfl, rfl, rfl, rfl, trivial⟩
      · repeat' (first | exact trivial | exact rfl | refine And.intro ?_ ?_)
      · repeat' (first | exact trivial | exact rfl | (intro i hi; exact ⟨rfl, rfl⟩) | refine And.intro ?_ ?_)
    · have h : ¬ (i : Int) < (n : Int) := of_decide_eq_false h
      obtain ⟨y, rfl⟩ : ∃ y : Nat, x = (y : Int) := ⟨x.toNat, by omega⟩
      have ey : ((y : Int)).toNat = y := by omega
      have eE : ((E : Int)).toNat = E := by omega
      have hown : y &&& E ≤ E := Nat.and_le_right
      refine Chk.mk (show InK .i64 (y : Int) from ⟨by omega, by omega⟩) ?_
      refine Chk.mk (show (0 : Int) ≤ (y : Int) ∧ (0 : Int) ≤ (E : Int) ∧ InK .i64 (y : Int) ∧ InK .i64 (E : Int) from ⟨by omega, by omega, ⟨by omega, by omega⟩, by omega, by omega⟩) ?_
      rw [ey, eE]
      obtain ⟨w, hw⟩ : ∃ w, y &&& E = w := ⟨_, rfl⟩
      rw [hw] at hown
      refine Chk.mk ⟨rds_rd _ _, by rw [hB]; exact hok, by omega, by rw [hw]; omega⟩ ?_
      rw [hB, hw, show ((w : Int)).toNat = w by omega]
      refine Chk.mk (under_of (show (w : Int) < 4611686018427387904 by omega)) ?_
      refine Chk.mk (under_of (show (b : Int) < 4611686018427387904 by omega)) ?_
      refine Chk.mk (under_of (show (w : Int) < 4611686018427387904 by omega)) ?_
      refine Chk.mk (under_of (show (b : Int) < 4611686018427387904 by omega)) ?_
      refine hR _ _ ?_ rfl
      show (_ : Bool) = true
      rw [show ((w : Int)).toNat = w by omega, eb]
      cases hnw : noneB B w with
      | false => rfl
      | true =>
        rcases key_size (a := w) (b := b) (by omega) (by omega) (hkey w (by omega) hnw) with h1 | ⟨h1, h2⟩
        · simp; omega
        · simp; omega
  · cases hk
end Go.X.W
end
