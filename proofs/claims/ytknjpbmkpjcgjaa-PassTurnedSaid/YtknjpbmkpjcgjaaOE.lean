/- Contracts of functions of the package pass: Until, Together, Recall. -/
import Derived.Test.YtknjpbmkpjcgjaaOD
import Derived.Test.YtknjpbmkpjcgjaaMJ

section
set_option linter.unusedVariables false
set_option linter.unusedSimpArgs false
set_option linter.unusedSectionVars false
/- Pass: Chain, the contract. -/
set_option linter.unusedVariables false
set_option linter.unusedSimpArgs false
set_option maxRecDepth 10000
set_option maxHeartbeats 4000000
namespace Go.X.Ps
open Go Go.Proofs Go.X

/-- The certificates of the best chain. -/
def psO : Option Ch → List Int
  | none => []
  | some c => c.ps
def chainL (it ag : Int) (ps : List Pp) (q y : Int) : List Int := if errO (validV it ag ps) (isItemV it q && inB y 0 20) = 0 then psO (bnL ag ps q y) else []
def c17a : Ct := fun fr args H => match args with
  | [.agg l, .si .i64 q, .si .i64 y] => passK H l fun i1 it ag n get => if boundE it ag (papL n get) q y = 0 then some ⟨some (Pps n get ∧ n ≤ 1000000), none, .tup [.sl fr, .si .i64 0], [(fr, .vec 3 1 (chainL it ag (papL n get) q y).length (getI (chainL it ag (papL n get) q y)))]⟩ else none
  | _ => none
def c17b : Ct := fun fr args H => match args with
  | [.agg l, .si .i64 q, .si .i64 y] => passK H l fun i1 it ag n get => if boundE it ag (papL n get) q y = 0 then none else some ⟨some (Pps n get ∧ n ≤ 1000000), none, .tup [.sv (.slice none 0 0), .si .i64 (boundE it ag (papL n get) q y)], []⟩
  | _ => none
theorem and_map {p q p' q' : Prop} (h : p' ∧ q') (h1 : p' → p) (h2 : q' → q) : p ∧ q := ⟨h1 h.1, h2 h.2⟩
theorem inItem {it q : Int} (h : 1 ≤ it ∧ it ≤ 6) (h2 : isItemV it q = true) : 0 ≤ q ∧ q < it := by
  unfold isItemV inB at h2
  have e : IntKind.i64.wrap (it - 1) = it - 1 := wrap_in (show InK .i64 (it - 1) from ⟨by omega, by omega⟩)
  rw [e] at h2
  simp only [Bool.and_eq_true, decide_eq_true_eq] at h2
  omega
theorem chain_len {ag : Int} {n : Nat} {r : Nat → Pp} {q y : Int} {c : Ch} (hr : PpOk ag n r) (hq : 0 ≤ q) (h : bst ag n r q y = some c) : 0 < c.ps.length ∧ c.ps.length ≤ 40 := by
  have h1 := walkC_pos (bst_some h) (by omega)
  have h2 := (bestW_some n q y c h).2
  have := hr.1
  omega
theorem k17b {l : List (Nat × Ct)} (g0 : Good P T l) : COk P 17 c17b := by
  have g := g53 (g47 (g44 (g45 (g43 good0))))
  refine cokD (C := tabC _) g.ok answer_ok Try.func17 (c := code Try.f17) rfl fun fr args H out h hp => ?_
  unfold c17b at h
  split at h
  case h_2 => cases h
  rename_i l q y
  obtain ⟨i1, it, ag, n, get, rfl, e1, h⟩ := passK_some h
  split at h
  · cases h
  rename_i hne
  cases h
  obtain ⟨hs, hn⟩ : Pps n get ∧ n ≤ 1000000 := hp
  refine ⟨[(i1, .ro 5 n fun i => ppC (ppAt get i))], [.agg (paA 0 it ag), .si .i64 q, .si .i64 y], [(0, .ro 5 n fun i => ppC (ppAt get i))], 1, [], rfl, rfl, Nat.le_of_ble_eq_true rfl, pp_hand e1 hs, rfl, rfl, fun G hG => ?_⟩
  unfold boundE at hne ⊢
  rw [bnL_papL] at hne ⊢
  unfold papL at hne ⊢
  generalize ppAt get = L at hne ⊢
  refine fb_defer (g.ok _ _ _) rfl cont_std rfl rfl rfl rfl ?_
  refine drawnE_ok (g.ok _ _ _) fol [0,0,0,6,14,30,62,126,255,0,0,1536,4095,8191,16383,32767,32767,0,196607,524287] [0,0,0,6,14,30,62,126,255,0,0,1536,0] [] 12 17 (by kernel_rfl) rfl rfl ?_
  obtain ⟨is, his⟩ : ∃ is : Bool, (isItemV it q && inB y 0 20) = is := ⟨_, rfl⟩
  rw [his] at hne ⊢
  refine Chk.mk (pps_i _ _) (Chk.mk ⟨pps_i _ _, hn⟩ ?_)
  refine Br.mk (fun h => ?_) (fun h => ?_)
  · have h : (!decide (errO (validV it ag ((List.range n).map L)) (isItemV it q && inB y 0 20) = 0)) = true := h
    rw [his] at h
    have h : ¬ errO (validV it ag ((List.range n).map L)) is = 0 := by simpa using h
    rw [if_neg h]
    refine ⟨.inl rfl, end_noid ⟨rfl, ⟨rfl, ?_⟩, trivial⟩ rfl rfl (by repeat' (first | exact trivial | exact rfl | (intro i hi; exact ⟨rfl, rfl⟩) | refine And.intro ?_ ?_))⟩
    show errO (validV it ag ((List.range n).map L)) (isItemV it q && inB y 0 20) = _
    rw [his]
  have h : (!decide (errO (validV it ag ((List.range n).map L)) (isItemV it q && inB y 0 20) = 0)) = false := h
  rw [his] at h
  have h : errO (validV it ag ((List.range n).map L)) is = 0 := by simpa using h
  rw [if_pos h] at hne ⊢
  obtain ⟨hr, _, _⟩ := valid_ok (errO_zero h).1
  refine and_map (reg17 (it := it) (q := q) (y := y) hG hr ?hk) (fun h => any_weaken 1 (fun j => j) hG ?w1 h) (fun h => any_weaken 1 (fun j => j) hG ?w2 h)
  case w1 =>
    refine ⟨?_, ?_, rfl, rfl, rfl, rfl, ⟨rfl, ⟨⟨rfl, rfl⟩, trivial⟩, rfl, trivial⟩⟩
    · repeat' (first | exact trivial | exact rfl | refine And.intro ?_ ?_)
    · repeat' (first | exact trivial | exact rfl | exact List.Perm.refl _ | (intro i hi; exact ⟨rfl, rfl⟩) | (intro v m g h; exact h) | refine And.intro ?_ ?_)
  case w2 =>
    refine ⟨?_, ?_, rfl, rfl, rfl, rfl, ⟨rfl, ⟨⟨rfl, rfl⟩, trivial⟩, rfl, trivial⟩⟩
    · repeat' (first | exact trivial | exact rfl | refine And.intro ?_ ?_)
    · repeat' (first | exact trivial | exact rfl | exact List.Perm.refl _ | (intro i hi; exact ⟨rfl, rfl⟩) | (intro v m g h; exact h) | refine And.intro ?_ ?_)
  intro C2 v hv hvt
  cases v with
  | some c =>
    exfalso
    rw [← hv] at hne
    exact hne rfl
  | none =>
    rw [← hv]
    refine Br.mk (fun _ => ?_) (fun h => by cases h)
    refine ⟨.inl rfl, end_noid ⟨rfl, ⟨rfl, rfl⟩, trivial⟩ rfl rfl (by repeat' (first | exact trivial | exact rfl | (intro i hi; exact ⟨rfl, rfl⟩) | refine And.intro ?_ ?_))⟩
theorem k17a {l : List (Nat × Ct)} (g0 : Good P T l) : COk P 17 c17a := by
  have g := g53 (g47 (g44 (g45 (g43 good0))))
  refine cokD (C := tabC _) g.ok answer_ok Try.func17 (c := code Try.f17) rfl fun fr args H out h hp => ?_
  unfold c17a at h
  split at h
  case h_2 => cases h
  rename_i l q y
  obtain ⟨i1, it, ag, n, get, rfl, e1, h⟩ := passK_some h
  split at h
  case isFalse => cases h
  rename_i hne
  cases h
  obtain ⟨hs, hn⟩ : Pps n get ∧ n ≤ 1000000 := hp
  refine ⟨[(i1, .ro 5 n fun i => ppC (ppAt get i))], [.agg (paA 0 it ag), .si .i64 q, .si .i64 y], [(0, .ro 5 n fun i => ppC (ppAt get i))], 1, [58], rfl, rfl, Nat.le_of_ble_eq_true rfl, pp_hand e1 hs, rfl, rfl, fun G hG => ?_⟩
  unfold boundE at hne
  unfold chainL
  rw [bnL_papL] at hne ⊢
  unfold papL at hne ⊢
  generalize ppAt get = L at hne ⊢
  refine fb_defer (g.ok _ _ _) rfl cont_std rfl rfl rfl rfl ?_
  refine drawnE_ok (g.ok _ _ _) fol [0,0,0,6,14,30,62,126,255,0,0,1536,4095,8191,16383,32767,32767,0,196607,524287] [0,0,0,6,14,30,62,126,255,0,0,1536,0] [] 12 17 (by kernel_rfl) rfl rfl ?_
  obtain ⟨is, his⟩ : ∃ is : Bool, (isItemV it q && inB y 0 20) = is := ⟨_, rfl⟩
  rw [his] at hne ⊢
  refine Chk.mk (pps_i _ _) (Chk.mk ⟨pps_i _ _, hn⟩ ?_)
  refine Br.mk (fun h => ?_) (fun h => ?_)
  · have h : (!decide (errO (validV it ag ((List.range n).map L)) (isItemV it q && inB y 0 20) = 0)) = true := h
    rw [his] at h
    have h : ¬ errO (validV it ag ((List.range n).map L)) is = 0 := by simpa using h
    rw [if_neg h] at hne
    exact (h hne).elim
  have h : (!decide (errO (validV it ag ((List.range n).map L)) (isItemV it q && inB y 0 20) = 0)) = false := h
  rw [his] at h
  have h : errO (validV it ag ((List.range n).map L)) is = 0 := by simpa using h
  rw [if_pos h] at hne ⊢
  obtain ⟨hr, hit, _⟩ := valid_ok (errO_zero h).1
  have hq : 0 ≤ q := by
    have := (errO_zero h).2
    rw [← his, Bool.and_eq_true] at this
    exact (inItem hit this.1).1
  refine and_map (reg17 (it := it) (q := q) (y := y) hG hr ?hk) (fun h => any_weaken 1 (fun j => j) hG ?w1 h) (fun h => any_weaken 1 (fun j => j) hG ?w2 h)
  case w1 =>
    refine ⟨?_, ?_, rfl, rfl, rfl, rfl, ⟨rfl, ⟨⟨rfl, rfl⟩, trivial⟩, rfl, trivial⟩⟩
    · repeat' (first | exact trivial | exact rfl | refine And.intro ?_ ?_)
    · repeat' (first | exact trivial | exact rfl | exact List.Perm.refl _ | (intro i hi; exact ⟨rfl, rfl⟩) | (intro v m g h; exact h) | refine And.intro ?_ ?_)
  case w2 =>
    refine ⟨?_, ?_, rfl, rfl, rfl, rfl, ⟨rfl, ⟨⟨rfl, rfl⟩, trivial⟩, rfl, trivial⟩⟩
    · repeat' (first | exact trivial | exact rfl | refine And.intro ?_ ?_)
    · repeat' (first | exact trivial | exact rfl | exact List.Perm.refl _ | (intro i hi; exact ⟨rfl, rfl⟩) | (intro v m g h; exact h) | refine And.intro ?_ ?_)
  intro C2 v hv hvt
  cases v with
  | none =>
    exfalso
    rw [← hv] at hne
    exact absurd hne (by decide)
  | some c =>
    have hl := chain_len hr hq hv.symm
    rw [← hv]
    refine Br.mk (fun h => by cases h) (fun _ => ?_)
    refine fb_look 55 31 c.ps.length c.v (getI c.ps) (.sl 57) (g.ok _ _ _) cont_std rfl ⟨(hvt c rfl).1, rfl, ?_⟩
    refine Chk.mk ⟨ints_getI _ _, hl.1, by have := hl.2; have e : c.ch.ps = c.ps := rfl; rw [e] at this; omega⟩ ?_
    refine ⟨.inl rfl, ⟨⟨rfl, ⟨rfl, rfl⟩, trivial⟩, rfl, ?_, ?_, rfl, rfl⟩⟩ <;> repeat' (first | exact trivial | exact rfl | (intro i hi; exact ⟨rfl, rfl⟩) | refine And.intro ?_ ?_)
def c17 : Ct := fun fr args H => match args with
  | [.agg l, .si .i64 q, .si .i64 y] => passK H l fun i1 it ag n get => some ⟨some (Pps n get ∧ n ≤ 1000000), none, .tup [.sl fr, .si .i64 (boundE it ag (papL n get) q y)], [(fr, .vec 3 1 (chainL it ag (papL n get) q y).length (getI (chainL it ag (papL n get) q y)))]⟩
  | _ => none
theorem c17_mono : CtMono c17 := by
  intro fr args H H' out hH h
  unfold c17 at h ⊢
  split at h
  · exact passK_mono hH h
  · cases h
theorem chainL_nil {it ag : Int} {ps : List Pp} {q y : Int} (h : ¬ boundE it ag ps q y = 0) : chainL it ag ps q y = [] := by
  unfold boundE at h
  unfold chainL
  split
  · rename_i h1
    rw [if_pos h1] at h
    cases hb : bnL ag ps q y with
    | none => rfl
    | some c => rw [hb] at h; exact (h rfl).elim
  · rfl
theorem k17 {l : List (Nat × Ct)} (g0 : Good P T l) : COk P 17 c17 := by
  refine cok_nilE (orC_ok (k17a g0) (k17b g0)) fun fr args H out h hp => ?_
  unfold c17 at h
  split at h
  case h_2 => cases h
  rename_i l q y
  obtain ⟨i1, it, ag, n, get, rfl, e1, h⟩ := passK_some h
  cases h
  by_cases he : boundE it ag (papL n get) q y = 0
  · refine ⟨⟨some (Pps n get ∧ n ≤ 1000000), none, .tup [.sl fr, .si .i64 0], [(fr, .vec 3 1 (chainL it ag (papL n get) q y).length (getI (chainL it ag (papL n get) q y)))]⟩, ?_, hp, .inl ⟨rfl, ?_, rfl⟩⟩
    · simp only [orC, c17a, passK, paA, e1, if_pos he]
    · simp only [he]
  · refine ⟨⟨some (Pps n get ∧ n ≤ 1000000), none, .tup [.sv (.slice none 0 0), .si .i64 (boundE it ag (papL n get) q y)], []⟩, ?_, hp, .inr ⟨boundE it ag (papL n get) q y, 3, 1, getI [], rfl, rfl, rfl, rfl, rfl, ?_⟩⟩
    · simp only [orC, c17a, c17b, passK, paA, e1, if_neg he]
    · simp only [chainL_nil he]
      rfl
theorem g17 {l : List (Nat × Ct)} (g : Good P T l) : Good P T ((17, c17) :: l) := g.add (k17 g) c17_mono (body_of Try.func17 (c := code Try.f17) rfl (by decide))
end Go.X.Ps
end

section
set_option linter.unusedVariables false
set_option linter.unusedSimpArgs false
set_option linter.unusedSectionVars false
/- Pass: Known. -/
set_option linter.unusedVariables false
set_option linter.unusedSimpArgs false
set_option maxRecDepth 10000
set_option maxHeartbeats 4000000
namespace Go.X.Ps
open Go Go.Proofs Go.X

/-- A set, by what is so of its numbers. -/
def setN (f : Nat → Bool) : Nat → Nat
  | 0 => 0
  | i + 1 => if f i = true then setN f i ||| 2 ^ i else setN f i
theorem setN_lt (f : Nat → Bool) : ∀ n, setN f n < 2 ^ n
  | 0 => by show 0 < 1; decide
  | n + 1 => by
    have := setN_lt f n
    have h2 : 2 ^ n < 2 ^ (n + 1) := Nat.pow_lt_pow_right (by decide) (by omega)
    unfold setN
    split
    · exact Nat.or_lt_two_pow (by omega) h2
    · omega
theorem setN_bit (f : Nat → Bool) (k : Nat) : ∀ n, (setN f n).testBit k = (decide (k < n) && f k)
  | 0 => by simp [setN]
  | n + 1 => by
    unfold setN
    have ih := setN_bit f k n
    split
    · rename_i h
      rw [Nat.testBit_or, ih, Nat.testBit_two_pow]
      by_cases h1 : n = k
      · subst h1; simp [h]
      · have : (k < n + 1) ↔ (k < n) := by omega
        simp [h1, this]
    · rename_i h
      rw [ih]
      by_cases h1 : n = k
      · subst h1; simp [h]
      · have : (k < n + 1) ↔ (k < n) := by omega
        simp [this]
theorem or_bit {f : Nat → Bool} {i : Nat} (h : f i = true) : ((((setN f i : Nat) : Int).toNat ||| ((1 : Int) * 2 ^ ((i : Nat) : Int).toNat).toNat : Nat) : Int) = ((setN f (i + 1) : Nat) : Int) := by
  rw [setN, if_pos h]
  congr 2
  rw [Int.one_mul]
  have : ((2 : Int) ^ ((i : Nat) : Int).toNat).toNat = 2 ^ i := by
    rw [Int.toNat_natCast, show (2 : Int) ^ i = ((2 ^ i : Nat) : Int) by push_cast; rfl, Int.toNat_natCast]
  exact this
theorem no_bit {f : Nat → Bool} {i : Nat} (h : f i = false) : ((setN f i : Nat) : Int) = ((setN f (i + 1) : Nat) : Int) := by
  rw [setN, if_neg (by rw [h]; decide)]
theorem or_in {f : Nat → Bool} {i : Nat} (h : i ≤ 6) : 0 ≤ ((setN f i : Nat) : Int) ∧ 0 ≤ (1 : Int) * 2 ^ ((i : Nat) : Int).toNat ∧ InK .i64 ((setN f i : Nat) : Int) ∧ InK .i64 ((1 : Int) * 2 ^ ((i : Nat) : Int).toNat) := by
  have h1 := setN_lt f i
  have h2 : 2 ^ i ≤ 2 ^ 6 := Nat.pow_le_pow_right (by decide) h
  have h3 : (1 : Int) * 2 ^ ((i : Nat) : Int).toNat = ((2 ^ i : Nat) : Int) := by rw [Int.toNat_natCast]; push_cast; omega
  rw [h3]
  generalize 2 ^ i = m at *
  exact ⟨by omega, by omega, ⟨by omega, by omega⟩, ⟨by omega, by omega⟩⟩
theorem shl_in {i : Nat} (h : i ≤ 6) : 0 ≤ ((i : Nat) : Int) ∧ ((i : Nat) : Int).toNat ≤ IntKind.i64.bits ∧ InK .i64 ((1 : Int) * 2 ^ ((i : Nat) : Int).toNat) := by
  refine ⟨by omega, ?_, (or_in (f := fun _ => false) h).2.2.2⟩
  rw [Int.toNat_natCast]
  show i ≤ 64
  omega

def knownE (it ag : Int) (ps : List Pp) (y : Int) : Int := errO (validV it ag ps) (inB y 0 20)
def bnN (ag : Int) (ps : List Pp) (y : Int) (i : Nat) : Int := bO (bnL ag ps (i : Int) y)
def knownR (it ag : Int) (ps : List Pp) (y : Int) : Int := if knownE it ag ps y = 0 then ((setN (fun i => decide (0 ≤ bnN ag ps y i)) 6 : Nat) : Int) else 0
def c19 : Ct := fun fr args H => match args with
  | [.agg l, .si .i64 y] => passK H l fun i1 it ag n get => some ⟨some (Pps n get ∧ n ≤ 1000000), none, .tup [.si .i64 (knownR it ag (papL n get) y), .si .i64 (knownE it ag (papL n get) y)], []⟩
  | _ => none
theorem c19_mono : CtMono c19 := by
  intro fr args H H' out hH h
  unfold c19 at h ⊢
  split at h
  · exact passK_mono hH h
  · cases h
theorem bnN_papL {ag : Int} {n : Nat} {get : Nat → List SV} {y : Int} : bnN ag (papL n get) y = bnd ag n (ppAt get) y := by
  funext i
  unfold bnN bnd
  rw [bnL_papL]
theorem k19 {l : List (Nat × Ct)} (g0 : Good P T l) : COk P 19 c19 := by
  have g := g45 (g43 good0)
  refine cokD (C := tabC _) g.ok answer_ok Try.func19 (c := code Try.f19) rfl fun fr args H out h hp => ?_
  unfold c19 at h
  split at h
  case h_2 => cases h
  rename_i l y
  obtain ⟨i1, it, ag, n, get, rfl, e1, h⟩ := passK_some h
  cases h
  obtain ⟨hs, hn⟩ : Pps n get ∧ n ≤ 1000000 := hp
  refine ⟨[(i1, .ro 5 n fun i => ppC (ppAt get i))], [.agg (paA 0 it ag), .si .i64 y], [(0, .ro 5 n fun i => ppC (ppAt get i))], 1, [], rfl, rfl, Nat.le_of_ble_eq_true rfl, pp_hand e1 hs, rfl, rfl, fun G hG => ?_⟩
  unfold knownR knownE
  rw [bnN_papL]
  unfold papL
  generalize ppAt get = L
  refine fb_defer (g.ok _ _ _) rfl cont_std rfl rfl rfl rfl ?_
  refine drawnE_ok (g.ok _ _ _) fol [0,0,2,7,0,31,0] [0,0,2,7,0,0] [] 5 6 (by kernel_rfl) rfl rfl ?_
  obtain ⟨is, his⟩ : ∃ is : Bool, inB y 0 20 = is := ⟨_, rfl⟩
  rw [his]
  refine Chk.mk ⟨pps_i _ _, hn⟩ ?_
  refine Br.mk (fun h => ?_) (fun h => ?_)
  · have h : (!decide (errO (validV it ag ((List.range n).map L)) (inB y 0 20) = 0)) = true := h
    rw [his] at h
    have h : ¬ errO (validV it ag ((List.range n).map L)) is = 0 := by simpa using h
    rw [if_neg h]
    refine ⟨.inl rfl, end_noid ⟨⟨rfl, rfl⟩, ⟨rfl, ?_⟩, trivial⟩ rfl rfl (by repeat' (first | exact trivial | exact rfl | (intro i hi; exact ⟨rfl, rfl⟩) | refine And.intro ?_ ?_))⟩
    show errO (validV it ag ((List.range n).map L)) (inB y 0 20) = _
    rw [his]
  have h : (!decide (errO (validV it ag ((List.range n).map L)) (inB y 0 20) = 0)) = false := h
  rw [his] at h
  have h : errO (validV it ag ((List.range n).map L)) is = 0 := by simpa using h
  rw [if_pos h, h]
  obtain ⟨hr, hit, _⟩ := valid_ok (errO_zero h).1
  refine and_of ?_ fun h2 => ?_
  · refine any_step [5] (g.ok _ _ _) (by kernel_rfl) (by decide) ⟨?_, trivial⟩
    refine fb_fam0 1 (g.ok _ _ _) cont_any rfl ?_
    refine fb_call (g.ok _ _ _) cont_any rfl rfl rfl rfl ⟨b54, ?_⟩
    refine callS_at [.sp 1 0, .si .i64 y] (ofH it ag n L [] C0) 4 (fun j => match j with | 0 => 0 | 1 => 15 | 2 => 16 | _ => 27) (by repeat' (first | exact trivial | exact rfl | refine And.intro ?_ ?_)) rfl (by repeat' (first | exact trivial | exact rfl | exact List.Perm.refl _ | (intro i hi; exact ⟨rfl, rfl⟩) | (intro v m g h; exact h) | refine And.intro ?_ ?_)) rfl rfl ?_
    refine s54 hr KtOk.nil fun C2 es2 hC2 hK2 => ?_
    refine ⟨rfl, (by repeat' (first | exact trivial | exact rfl | refine And.intro ?_ ?_)), (by repeat' (first | exact trivial | exact rfl | (intro i hi; exact rfl) | refine And.intro ?_ ?_)), ?_⟩
    refine any_done (by kernel_rfl) ?_
    generalize bnd ag n L y = B
    refine loop_okR (g.ok _ _ _) 1 (fun z : {i : Nat // i ≤ 6} => ⟨[(5, ⟨[], .sp 2 0⟩), (6, ⟨[], .si .i64 ((setN (fun i => decide (0 ≤ B i)) z.1 : Nat) : Int)⟩), (14, ⟨[], .agg (bndL B)⟩), (15, ⟨[], .si .i64 z.1⟩)], [], [(2, .cells 27 [.si .i64 0]), (0, .ro 5 n fun i => ppC (L i))], 3, D17⟩)
      (fun z => 6 - z.1) hG ⟨0, Nat.zero_le _⟩ (fun j => j) ?_ ?_
    · refine ⟨?_, ?_, rfl, rfl, rfl, rfl, ⟨rfl, ⟨⟨rfl, rfl⟩, trivial⟩, rfl, trivial⟩⟩ <;> repeat' (first | exact trivial | exact rfl | (intro i hi; exact ⟨rfl, rfl⟩) | refine And.intro ?_ ?_)
    rintro ⟨i, hi⟩
    rcases (show i = 6 ∨ i = 0 ∨ i = 1 ∨ i = 2 ∨ i = 3 ∨ i = 4 ∨ i = 5 by omega) with rfl | rfl | rfl | rfl | rfl | rfl | rfl
    · refine Br.mk (fun h => by cases h) (fun _ => ?_)
      refine ⟨.inl rfl, end_noid ⟨⟨rfl, rfl⟩, ⟨rfl, rfl⟩, trivial⟩ rfl rfl (by repeat' (first | exact trivial | exact rfl | (intro i hi; exact ⟨rfl, rfl⟩) | refine And.intro ?_ ?_))⟩
    · refine Br.mk (fun _ => ?_) (fun h => by cases h)
      refine Chk.mk (show (0 : Int) ≤ ((0 : Nat) : Int) ∧ ((0 : Nat) : Int) < ((6 : Nat) : Int) from by decide) ?_
      refine Br.mk (fun h => ?_) (fun h => ?_)
      · refine Chk.mk (shl_in (i := 0) (by decide)) (Chk.mk (or_in (i := 0) (by decide)) (Chk.mk (show InK .i64 (((0 : Nat) : Int) + 1) from ⟨by decide, by decide⟩) ⟨⟨1, by decide⟩, (fun j => j), ?_, by dsimp only; decide⟩))
        refine ⟨?_, ?_, rfl, rfl, rfl, rfl, ⟨rfl, ⟨⟨rfl, rfl⟩, trivial⟩, rfl, trivial⟩⟩ <;> repeat' (first | exact trivial | exact rfl | exact or_bit (f := fun i => decide (0 ≤ B i)) (i := 0) h | (intro i hi; exact ⟨rfl, rfl⟩) | refine And.intro ?_ ?_)
      · refine Chk.mk (show InK .i64 (((0 : Nat) : Int) + 1) from ⟨by decide, by decide⟩) ⟨⟨1, by decide⟩, (fun j => j), ?_, by dsimp only; decide⟩
        refine ⟨?_, ?_, rfl, rfl, rfl, rfl, ⟨rfl, ⟨⟨rfl, rfl⟩, trivial⟩, rfl, trivial⟩⟩ <;> repeat' (first | exact trivial | exact rfl | exact no_bit (f := fun i => decide (0 ≤ B i)) (i := 0) h | (intro i hi; exact ⟨rfl, rfl⟩) | refine And.intro ?_ ?_)
    · refine Br.mk (fun _ => ?_) (fun h => by cases h)
      refine Chk.mk (show (0 : Int) ≤ ((1 : Nat) : Int) ∧ ((1 : Nat) : Int) < ((6 : Nat) : Int) from by decide) ?_
      refine Br.mk (fun h => ?_) (fun h => ?_)
      · refine Chk.mk (shl_in (i := 1) (by decide)) (Chk.mk (or_in (i := 1) (by decide)) (Chk.mk (show InK .i64 (((1 : Nat) : Int) + 1) from ⟨by decide, by decide⟩) ⟨⟨2, by decide⟩, (fun j => j), ?_, by dsimp only; decide⟩))
        refine ⟨?_, ?_, rfl, rfl, rfl, rfl, ⟨rfl, ⟨⟨rfl, rfl⟩, trivial⟩, rfl, trivial⟩⟩ <;> repeat' (first | exact trivial | exact rfl | exact or_bit (f := fun i => decide (0 ≤ B i)) (i := 1) h | (intro i hi; exact ⟨rfl, rfl⟩) | refine And.intro ?_ ?_)
      · refine Chk.mk (show InK .i64 (((1 : Nat) : Int) + 1) from ⟨by decide, by decide⟩) ⟨⟨2, by decide⟩, (fun j => j), ?_, by dsimp only; decide⟩
        refine ⟨?_, ?_, rfl, rfl, rfl, rfl, ⟨rfl, ⟨⟨rfl, rfl⟩, trivial⟩, rfl, trivial⟩⟩ <;> repeat' (first | exact trivial | exact rfl | exact no_bit (f := fun i => decide (0 ≤ B i)) (i := 1) h | (intro i hi; exact ⟨rfl, rfl⟩) | refine And.intro ?_ ?_)
    · refine Br.mk (fun _ => ?_) (fun h => by cases h)
      refine Chk.mk (show (0 : Int) ≤ ((2 : Nat) : Int) ∧ ((2 : Nat) : Int) < ((6 : Nat) : Int) from by decide) ?_
      refine Br.mk (fun h => ?_) (fun h => ?_)
      · refine Chk.mk (shl_in (i := 2) (by decide)) (Chk.mk (or_in (i := 2) (by decide)) (Chk.mk (show InK .i64 (((2 : Nat) : Int) + 1) from ⟨by decide, by decide⟩) ⟨⟨3, by decide⟩, (fun j => j), ?_, by dsimp only; decide⟩))
        refine ⟨?_, ?_, rfl, rfl, rfl, rfl, ⟨rfl, ⟨⟨rfl, rfl⟩, trivial⟩, rfl, trivial⟩⟩ <;> repeat' (first | exact trivial | exact rfl | exact or_bit (f := fun i => decide (0 ≤ B i)) (i := 2) h | (intro i hi; exact ⟨rfl, rfl⟩) | refine And.intro ?_ ?_)
      · refine Chk.mk (show InK .i64 (((2 : Nat) : Int) + 1) from ⟨by decide, by decide⟩) ⟨⟨3, by decide⟩, (fun j => j), ?_, by dsimp only; decide⟩
        refine ⟨?_, ?_, rfl, rfl, rfl, rfl, ⟨rfl, ⟨⟨rfl, rfl⟩, trivial⟩, rfl, trivial⟩⟩ <;> repeat' (first | exact trivial | exact rfl | exact no_bit (f := fun i => decide (0 ≤ B i)) (i := 2) h | (intro i hi; exact ⟨rfl, rfl⟩) | refine And.intro ?_ ?_)
    · refine Br.mk (fun _ => ?_) (fun h => by cases h)
      refine Chk.mk (show (0 : Int) ≤ ((3 : Nat) : Int) ∧ ((3 : Nat) : Int) < ((6 : Nat) : Int) from by decide) ?_
      refine Br.mk (fun h => ?_) (fun h => ?_)
      · refine Chk.mk (shl_in (i := 3) (by decide)) (Chk.mk (or_in (i := 3) (by decide)) (Chk.mk (show InK .i64 (((3 : Nat) : Int) + 1) from ⟨by decide, by decide⟩) ⟨⟨4, by decide⟩, (fun j => j), ?_, by dsimp only; decide⟩))
        refine ⟨?_, ?_, rfl, rfl, rfl, rfl, ⟨rfl, ⟨⟨rfl, rfl⟩, trivial⟩, rfl, trivial⟩⟩ <;> repeat' (first | exact trivial | exact rfl | exact or_bit (f := fun i => decide (0 ≤ B i)) (i := 3) h | (intro i hi; exact ⟨rfl, rfl⟩) | refine And.intro ?_ ?_)
      · refine Chk.mk (show InK .i64 (((3 : Nat) : Int) + 1) from ⟨by decide, by decide⟩) ⟨⟨4, by decide⟩, (fun j => j), ?_, by dsimp only; decide⟩
        refine ⟨?_, ?_, rfl, rfl, rfl, rfl, ⟨rfl, ⟨⟨rfl, rfl⟩, trivial⟩, rfl, trivial⟩⟩ <;> repeat' (first | exact trivial | exact rfl | exact no_bit (f := fun i => decide (0 ≤ B i)) (i := 3) h | (intro i hi; exact ⟨rfl, rfl⟩) | refine And.intro ?_ ?_)
    · refine Br.mk (fun _ => ?_) (fun h => by cases h)
      refine Chk.mk (show (0 : Int) ≤ ((4 : Nat) : Int) ∧ ((4 : Nat) : Int) < ((6 : Nat) : Int) from by decide) ?_
      refine Br.mk (fun h => ?_) (fun h => ?_)
      · refine Chk.mk (shl_in (i := 4) (by decide)) (Chk.mk (or_in (i := 4) (by decide)) (Chk.mk (show InK .i64 (((4 : Nat) : Int) + 1) from ⟨by decide, by decide⟩) ⟨⟨5, by decide⟩, (fun j => j), ?_, by dsimp only; decide⟩))
        refine ⟨?_, ?_, rfl, rfl, rfl, rfl, ⟨rfl, ⟨⟨rfl, rfl⟩, trivial⟩, rfl, trivial⟩⟩ <;> repeat' (first | exact trivial | exact rfl | exact or_bit (f := fun i => decide (0 ≤ B i)) (i := 4) h | (intro i hi; exact ⟨rfl, rfl⟩) | refine And.intro ?_ ?_)
      · refine Chk.mk (show InK .i64 (((4 : Nat) : Int) + 1) from ⟨by decide, by decide⟩) ⟨⟨5, by decide⟩, (fun j => j), ?_, by dsimp only; decide⟩
        refine ⟨?_, ?_, rfl, rfl, rfl, rfl, ⟨rfl, ⟨⟨rfl, rfl⟩, trivial⟩, rfl, trivial⟩⟩ <;> repeat' (first | exact trivial | exact rfl | exact no_bit (f := fun i => decide (0 ≤ B i)) (i := 4) h | (intro i hi; exact ⟨rfl, rfl⟩) | refine And.intro ?_ ?_)
    · refine Br.mk (fun _ => ?_) (fun h => by cases h)
      refine Chk.mk (show (0 : Int) ≤ ((5 : Nat) : Int) ∧ ((5 : Nat) : Int) < ((6 : Nat) : Int) from by decide) ?_
      refine Br.mk (fun h => ?_) (fun h => ?_)
      · refine Chk.mk (shl_in (i := 5) (by decide)) (Chk.mk (or_in (i := 5) (by decide)) (Chk.mk (show InK .i64 (((5 : Nat) : Int) + 1) from ⟨by decide, by decide⟩) ⟨⟨6, by decide⟩, (fun j => j), ?_, by dsimp only; decide⟩))
        refine ⟨?_, ?_, rfl, rfl, rfl, rfl, ⟨rfl, ⟨⟨rfl, rfl⟩, trivial⟩, rfl, trivial⟩⟩ <;> repeat' (first | exact trivial | exact rfl | exact or_bit (f := fun i => decide (0 ≤ B i)) (i := 5) h | (intro i hi; exact ⟨rfl, rfl⟩) | refine And.intro ?_ ?_)
      · refine Chk.mk (show InK .i64 (((5 : Nat) : Int) + 1) from ⟨by decide, by decide⟩) ⟨⟨6, by decide⟩, (fun j => j), ?_, by dsimp only; decide⟩
        refine ⟨?_, ?_, rfl, rfl, rfl, rfl, ⟨rfl, ⟨⟨rfl, rfl⟩, trivial⟩, rfl, trivial⟩⟩ <;> repeat' (first | exact trivial | exact rfl | exact no_bit (f := fun i => decide (0 ≤ B i)) (i := 5) h | (intro i hi; exact ⟨rfl, rfl⟩) | refine And.intro ?_ ?_)
  · refine any_take 6 (g.ok _ _ _) rfl rfl rfl rfl rfl rfl rfl (by kernel_rfl) (by kernel_rfl) (by kernel_rfl) ?_
    refine any_weaken 1 (fun j => j) hG ?_ h2
    refine ⟨?_, ?_, rfl, rfl, rfl, rfl, ⟨rfl, ⟨⟨rfl, rfl⟩, trivial⟩, rfl, trivial⟩⟩
    · repeat' (first | exact trivial | exact rfl | refine And.intro ?_ ?_)
    · repeat' (first | exact trivial | exact rfl | exact List.Perm.refl _ | (intro i hi; exact ⟨rfl, rfl⟩) | (intro v m g h; exact h) | refine And.intro ?_ ?_)
theorem g19 {l : List (Nat × Ct)} (g : Good P T l) : Good P T ((19, c19) :: l) := g.add (k19 g) c19_mono (body_of Try.func19 (c := code Try.f19) rfl (by decide))
end Go.X.Ps
end

section
set_option linter.unusedVariables false
set_option linter.unusedSimpArgs false
set_option linter.unusedSectionVars false
/- Pass: Until. -/
set_option linter.unusedVariables false
set_option linter.unusedSimpArgs false
set_option maxRecDepth 10000
set_option maxHeartbeats 4000000
namespace Go.X.Ps
open Go Go.Proofs Go.X

/-- From a number on, as far as it holds, so many at most. -/
def untilN (h : Int → Bool) : Nat → Int → Int
  | 0, y => y
  | k + 1, y => if h y = true then untilN h k (y + 1) else y
def holdO (lim : Int) (o : Option Ch) : Bool := o.isSome && decide (wO o ≤ lim)
def untilE (it ag : Int) (ps : List Pp) (q y lim : Int) : Int :=
  if errO (validV it ag ps) (isItemV it q && inB y 0 20 && inB lim 0 2000) = 0 then (if holdO lim (bnL ag ps q y) = true then 0 else 4) else errO (validV it ag ps) (isItemV it q && inB y 0 20 && inB lim 0 2000)
def untilR (it ag : Int) (ps : List Pp) (q y lim : Int) : Int := if untilE it ag ps q y lim = 0 then untilN (fun z => holdO lim (bnL ag ps q z)) (21 - y).toNat y - 1 else 0
def c22 : Ct := fun fr args H => match args with
  | [.agg l, .si .i64 q, .si .i64 y, .si .i64 lim] => passK H l fun i1 it ag n get => some ⟨some (Pps n get ∧ n ≤ 1000000), none, .tup [.si .i64 (untilR it ag (papL n get) q y lim), .si .i64 (untilE it ag (papL n get) q y lim)], []⟩
  | _ => none
theorem c22_mono : CtMono c22 := by
  intro fr args H H' out hH h
  unfold c22 at h ⊢
  split at h
  · exact passK_mono hH h
  · cases h
theorem untilN_lt {h : Int → Bool} : ∀ (k : Nat) (y : Int), y ≤ untilN h k y
  | 0, y => Int.le_refl _
  | k + 1, y => by
    unfold untilN
    split
    · have := untilN_lt (h := h) k (y + 1); omega
    · exact Int.le_refl _
theorem k22 {l : List (Nat × Ct)} (g0 : Good P T l) : COk P 22 c22 := by
  have g := g47 (g44 (g45 (g56 (g43 good0))))
  refine cokD (C := tabC _) g.ok answer_ok Try.func22 (c := code Try.f22) rfl fun fr args H out h hp => ?_
  unfold c22 at h
  split at h
  case h_2 => cases h
  rename_i l q y lim
  obtain ⟨i1, it, ag, n, get, rfl, e1, h⟩ := passK_some h
  cases h
  obtain ⟨hs, hn⟩ : Pps n get ∧ n ≤ 1000000 := hp
  refine ⟨[(i1, .ro 5 n fun i => ppC (ppAt get i))], [.agg (paA 0 it ag), .si .i64 q, .si .i64 y, .si .i64 lim], [(0, .ro 5 n fun i => ppC (ppAt get i))], 1, [], rfl, rfl, Nat.le_of_ble_eq_true rfl, pp_hand e1 hs, rfl, rfl, fun G hG => ?_⟩
  unfold untilR untilE
  rw [show (fun z => holdO lim (bnL ag (papL n get) q z)) = fun z => holdO lim (bst ag n (ppAt get) q z) from funext fun z => by rw [bnL_papL], bnL_papL]
  unfold papL
  generalize ppAt get = L
  refine fb_defer (g.ok _ _ _) rfl cont_std rfl rfl rfl rfl ?_
  refine drawn_ok (g.ok _ _ _) fol [0,0,0,6,14,30,62,126,254,510,1022,2046,4095,8191] [] 14 (by kernel_rfl) ?_
  obtain ⟨is, his⟩ : ∃ is : Bool, (isItemV it q && inB y 0 20 && inB lim 0 2000) = is := ⟨_, rfl⟩
  rw [his]
  refine Chk.mk (pps_i _ _) (Chk.mk ⟨pps_i _ _, hn⟩ ?_)
  refine Br.mk (fun h => ?_) (fun h => ?_)
  · have h : (!decide (errO (validV it ag ((List.range n).map L)) (isItemV it q && inB y 0 20 && inB lim 0 2000) = 0)) = true := h
    rw [his] at h
    have h : ¬ errO (validV it ag ((List.range n).map L)) is = 0 := by simpa using h
    rw [if_neg h, if_neg h]
    refine ⟨.inl rfl, end_noid ⟨⟨rfl, rfl⟩, ⟨rfl, ?_⟩, trivial⟩ rfl rfl (by repeat' (first | exact trivial | exact rfl | (intro i hi; exact ⟨rfl, rfl⟩) | refine And.intro ?_ ?_))⟩
    show errO (validV it ag ((List.range n).map L)) (isItemV it q && inB y 0 20 && inB lim 0 2000) = _
    rw [his]
  have h : (!decide (errO (validV it ag ((List.range n).map L)) (isItemV it q && inB y 0 20 && inB lim 0 2000) = 0)) = false := h
  rw [his] at h
  have h : errO (validV it ag ((List.range n).map L)) is = 0 := by simpa using h
  rw [if_pos h]
  obtain ⟨hr, hit, _⟩ := valid_ok (errO_zero h).1
  have hyl : (0 ≤ y ∧ y ≤ 20) ∧ 0 ≤ lim ∧ lim ≤ 2000 := by
    have := (errO_zero h).2
    rw [← his] at this
    simp only [Bool.and_eq_true, inB, decide_eq_true_eq] at this
    omega
  clear h his
  obtain ⟨B, hB⟩ : ∃ B : Int → Bool, (fun z => holdO lim (bst ag n L q z)) = B := ⟨_, rfl⟩
  have hBz : ∀ z, holdO lim (bst ag n L q z) = B z := fun z => congrFun hB z
  rw [hB, hBz]
  have hend : ∀ (cur : Int), y ≤ cur → cur ≤ 21 → untilN B (21 - y).toNat y = cur → (decide (y < cur) = B y) ∧ (B y = true → untilN B (21 - y).toNat y - 1 = cur - 1) := by
    intro cur h1 h2 h3
    refine ⟨?_, fun _ => by omega⟩
    have e : (21 - y).toNat = (20 - y).toNat + 1 := by omega
    rw [e, untilN] at h3
    cases hb : B y with
    | true =>
      rw [if_pos hb] at h3
      have := untilN_lt (h := B) (20 - y).toNat (y + 1)
      simp; omega
    | false =>
      rw [if_neg (by rw [hb]; decide)] at h3
      simp; omega
  refine sem_fam0 1 ?_
  refine loop_okR (g.ok _ _ _) 1 (fun z : {p : Int × Fam × List (Ks × Option Cv) // (y ≤ p.1 ∧ p.1 ≤ 21 ∧ untilN B (21 - y).toNat y = untilN B (21 - p.1).toNat p.1) ∧ KtOk ag n L p.2.1 p.2.2} =>
      ⟨[(1, ⟨[], .si .i64 q⟩), (2, ⟨[], .si .i64 y⟩), (3, ⟨[], .si .i64 lim⟩), (8, ⟨[], .si .i64 0⟩), (9, ⟨[], .sp 2 0⟩), (10, ⟨[], .sp 51 0⟩), (11, ⟨[], .si .i64 z.1.1⟩)], [],
        [(59, .fam 1 z.1.2.1), (51, .cells 108 (ofC 0 52 it ag)), (52, .mp (encM encS encT z.1.2.2)), (2, .cells 27 [.si .i64 0]), (0, .ro 5 n fun i => ppC (L i))], 60, D17⟩)
    (fun z => (21 - z.1.1).toNat) hG ⟨(y, C0, []), ⟨Int.le_refl _, by omega, rfl⟩, KtOk.nil⟩ (fun j => j) ?_ ?_
  · refine ⟨?_, ?_, rfl, rfl, rfl, rfl, ⟨rfl, ⟨⟨rfl, rfl⟩, trivial⟩, rfl, trivial⟩⟩ <;> repeat' (first | exact trivial | exact rfl | exact List.Perm.refl _ | (intro i hi; exact ⟨rfl, rfl⟩) | (intro v m g h; exact h) | refine And.intro ?_ ?_)
  rintro ⟨⟨cur, C1, es1⟩, ⟨hlo, hhi, hcur⟩, hK1⟩
  have hlo : y ≤ cur := hlo
  have hhi : cur ≤ 21 := hhi
  have hcur : untilN B (21 - y).toNat y = untilN B (21 - cur).toNat cur := hcur
  refine Br.mk (fun h => ?_) (fun h => ?_)
  · have h : cur ≤ 20 := of_decide_eq_true h
    refine fb_call (g.ok _ _ _) cont_std rfl rfl rfl rfl ⟨b46, ?_⟩
    refine callS_at [.sp 1 0, .si .i64 q, .si .i64 cur] (ofH it ag n L es1 C1) 4 (fun j => match j with | 0 => 0 | 1 => 51 | 2 => 52 | _ => 59) (by repeat' (first | exact trivial | exact rfl | refine And.intro ?_ ?_)) rfl (by repeat' (first | exact trivial | exact rfl | exact List.Perm.refl _ | (intro i hi; exact ⟨rfl, rfl⟩) | (intro v m g h; exact h) | refine And.intro ?_ ?_)) rfl rfl ?_
    refine s46 hr hK1 fun C2 es2 hC2 hK2 => ?_
    refine ⟨rfl, (by repeat' (first | exact trivial | exact rfl | refine And.intro ?_ ?_)), (by repeat' (first | exact trivial | exact rfl | (intro i hi; exact rfl) | refine And.intro ?_ ?_)), ?_⟩
    have hx : B cur = ((bst ag n L q cur).isSome && decide (wO (bst ag n L q cur) ≤ lim)) := (hBz cur).symm
    generalize bst ag n L q cur = o at hx
    refine Br.mk (fun h2 => ?_) (fun h2 => ?_)
    · have h2 : (!o.isSome || decide (lim < wO o)) = true := h2
      have hb : B cur = false := by
        rw [hx]
        cases ho : o.isSome with
        | false => rfl
        | true => rw [ho] at h2; simp at h2 ⊢; omega
      have hst : untilN B (21 - y).toNat y = cur := by
        rw [hcur]
        cases hk : (21 - cur).toNat with
        | zero => rfl
        | succ k => rw [untilN, if_neg (by rw [hb]; decide)]
      obtain ⟨q1, q2⟩ := hend cur hlo hhi hst
      refine Br.mk (fun h3 => ?_) (fun h3 => ?_)
      · have h3 : (!decide (y < cur)) = true := h3
        have hy : B y = false := by rw [q1] at h3; simpa using h3
        rw [hy]
        refine ⟨.inl rfl, end_noid ⟨⟨rfl, rfl⟩, ⟨rfl, rfl⟩, trivial⟩ rfl rfl (by repeat' (first | exact trivial | exact rfl | (intro i hi; exact ⟨rfl, rfl⟩) | refine And.intro ?_ ?_))⟩
      · have h3 : (!decide (y < cur)) = false := h3
        have hy : B y = true := by rw [q1] at h3; simpa using h3
        have q3 := q2 hy
        rw [hy]
        refine Chk.mk (show InK .i64 (cur - 1) from ⟨by omega, by omega⟩) ?_
        refine ⟨.inl rfl, end_noid ⟨⟨rfl, q3.symm⟩, ⟨rfl, rfl⟩, trivial⟩ rfl rfl (by repeat' (first | exact trivial | exact rfl | (intro i hi; exact ⟨rfl, rfl⟩) | refine And.intro ?_ ?_))⟩
    · have h2 : (!o.isSome || decide (lim < wO o)) = false := h2
      have hb : B cur = true := by
        rw [hx]
        cases ho : o.isSome with
        | false => rw [ho] at h2; cases h2
        | true => rw [ho] at h2; simp at h2 ⊢; omega
      refine Chk.mk (show InK .i64 (cur + 1) from ⟨by omega, by omega⟩) ⟨⟨(cur + 1, C2, es2), ⟨by show y ≤ cur + 1; omega, by show cur + 1 ≤ 21; omega, ?_⟩, hK2⟩, (fun j => j), ?_, by show (21 - (cur + 1)).toNat < (21 - cur).toNat; omega⟩
      · show untilN B (21 - y).toNat y = untilN B (21 - (cur + 1)).toNat (cur + 1)
        rw [hcur, show (21 - cur).toNat = (21 - (cur + 1)).toNat + 1 by omega, untilN, if_pos hb]
      · refine ⟨?_, ?_, rfl, rfl, rfl, rfl, ⟨rfl, ⟨⟨rfl, rfl⟩, trivial⟩, rfl, trivial⟩⟩ <;> repeat' (first | exact trivial | exact rfl | exact List.Perm.refl _ | (intro i hi; exact ⟨rfl, rfl⟩) | (intro v m g h; exact h) | refine And.intro ?_ ?_)
  · have h : ¬ cur ≤ 20 := of_decide_eq_false h
    have hst : untilN B (21 - y).toNat y = cur := by
      rw [hcur, show (21 - cur).toNat = 0 by omega]; rfl
    obtain ⟨q1, q2⟩ := hend cur hlo hhi hst
    refine Br.mk (fun h3 => ?_) (fun h3 => ?_)
    · exfalso
      have h3 : (!decide (y < cur)) = true := h3
      simp at h3
      omega
    · have hy : B y = true := by rw [← q1]; simp; omega
      have q3 := q2 hy
      rw [hy]
      refine Chk.mk (show InK .i64 (cur - 1) from ⟨by omega, by omega⟩) ?_
      refine ⟨.inl rfl, end_noid ⟨⟨rfl, q3.symm⟩, ⟨rfl, rfl⟩, trivial⟩ rfl rfl (by repeat' (first | exact trivial | exact rfl | (intro i hi; exact ⟨rfl, rfl⟩) | refine And.intro ?_ ?_))⟩
theorem g22 {l : List (Nat × Ct)} (g : Good P T l) : Good P T ((22, c22) :: l) := g.add (k22 g) c22_mono (body_of Try.func22 (c := code Try.f22) rfl (by decide))
end Go.X.Ps
end

section
set_option linter.unusedVariables false
set_option linter.unusedSimpArgs false
set_option linter.unusedSectionVars false
/- Pass: Together. -/
set_option linter.unusedVariables false
set_option linter.unusedSimpArgs false
set_option maxRecDepth 10000
set_option maxHeartbeats 4000000
namespace Go.X.Ps
open Go Go.Proofs Go.X

def hasB (S : Int) (i : Nat) : Bool := S.toNat.testBit i
theorem hasB_eq {S : Int} (h : 0 ≤ S) (i : Nat) : decide ((((S.fdiv (2 ^ ((i : Nat) : Int).toNat)).toNat &&& (1 : Int).toNat : Nat) : Int) = 1) = hasB S i := by
  obtain ⟨s, rfl⟩ : ∃ s : Nat, S = (s : Int) := ⟨S.toNat, by omega⟩
  unfold hasB
  rw [Int.toNat_natCast, Int.toNat_natCast, Nat.testBit_eq_decide_div_mod_eq]
  have e : ((s : Int).fdiv (2 ^ i)).toNat = s / 2 ^ i := by
    rw [show (2 : Int) ^ i = ((2 ^ i : Nat) : Int) by push_cast; rfl, Int.fdiv_eq_ediv_of_nonneg _ (Int.natCast_nonneg _), ← Int.natCast_ediv, Int.toNat_natCast]
  rw [e, show (1 : Int).toNat = 1 from rfl, Nat.and_one_is_mod]
  apply decide_eq_decide.2
  omega
/-- How wrong several items are together; none: one of them has no bound. -/
def togS (B : Nat → Int) (S : Int) : Nat → Option Int
  | 0 => some 0
  | i + 1 => match togS B S i with
    | none => none
    | some s => if hasB S i = true then (if 0 ≤ B i then some (s + B i) else none) else some s
theorem togS_none {B : Nat → Int} {S : Int} {i : Nat} (h : togS B S i = none) : ∀ j, togS B S (i + j) = none
  | 0 => h
  | j + 1 => by
    show togS B S (i + j + 1) = none
    rw [togS, togS_none h j]
def togI (it ag : Int) (ps : List Pp) (S y : Int) : Bool := inB S 0 (1 * 2 ^ it.toNat - 1) && inB y 0 20
def togE (it ag : Int) (ps : List Pp) (S y : Int) : Int := if errO (validV it ag ps) (togI it ag ps S y) = 0 then (if (togS (bnN ag ps y) S 6).isSome = true then 0 else 4) else errO (validV it ag ps) (togI it ag ps S y)
def togR (it ag : Int) (ps : List Pp) (S y : Int) : Int := if errO (validV it ag ps) (togI it ag ps S y) = 0 then (togS (bnN ag ps y) S 6).getD 0 else 0
def c24 : Ct := fun fr args H => match args with
  | [.agg l, .si .i64 S, .si .i64 y] => passK H l fun i1 it ag n get => some ⟨some (Pps n get ∧ n ≤ 1000000), none, .tup [.si .i64 (togR it ag (papL n get) S y), .si .i64 (togE it ag (papL n get) S y)], []⟩
  | _ => none
theorem c24_mono : CtMono c24 := by
  intro fr args H H' out hH h
  unfold c24 at h ⊢
  split at h
  · exact passK_mono hH h
  · cases h
theorem bnd_le {ag : Int} {n : Nat} {r : Nat → Pp} {y : Int} (hr : PpOk ag n r) (i : Nat) : bnd ag n r y i ≤ 10000 := by
  unfold bnd
  cases h : bst ag n r (i : Int) y with
  | none => simp [bO]
  | some c =>
    have := bestW_bound hr.2.1 hr.2.2 n _ _ c h
    have := hr.1
    show c.w ≤ 10000
    omega
theorem sh_in {S : Int} {i : Nat} (h : 0 ≤ S ∧ S ≤ 63) (hi : i ≤ 6) : 0 ≤ S.fdiv (2 ^ ((i : Nat) : Int).toNat) ∧ 0 ≤ (1 : Int) ∧ InK .i64 (S.fdiv (2 ^ ((i : Nat) : Int).toNat)) ∧ InK .i64 1 := by
  have e : S.fdiv (2 ^ ((i : Nat) : Int).toNat) = S / ((2 ^ i : Nat) : Int) := by
    rw [Int.toNat_natCast, show (2 : Int) ^ i = ((2 ^ i : Nat) : Int) by push_cast; rfl, Int.fdiv_eq_ediv_of_nonneg _ (Int.natCast_nonneg _)]
  rw [e]
  have h1 : 0 ≤ S / ((2 ^ i : Nat) : Int) := Int.ediv_nonneg h.1 (Int.natCast_nonneg _)
  have h2 : S / ((2 ^ i : Nat) : Int) ≤ S := Int.ediv_le_self _ h.1
  exact ⟨h1, by decide, ⟨by omega, by omega⟩, ⟨by decide, by decide⟩⟩
theorem shr_in {i : Nat} (h : i ≤ 6) : 0 ≤ ((i : Nat) : Int) ∧ ((i : Nat) : Int).toNat ≤ IntKind.i64.bits := ⟨by omega, by rw [Int.toNat_natCast]; show i ≤ 64; omega⟩
theorem pow_in {it : Int} (h : 1 ≤ it ∧ it ≤ 6) : (0 ≤ it ∧ it.toNat ≤ IntKind.i64.bits ∧ InK .i64 ((1 : Int) * 2 ^ it.toNat)) ∧ InK .i64 ((1 : Int) * 2 ^ it.toNat - 1) ∧ (1 : Int) * 2 ^ it.toNat ≤ 64 := by
  obtain ⟨k, rfl⟩ : ∃ k : Nat, it = (k : Int) := ⟨it.toNat, by omega⟩
  have h1 := or_in (f := fun _ => false) (i := k) (by omega)
  have h2 : 2 ^ k ≤ 2 ^ 6 := Nat.pow_le_pow_right (by decide) (by omega)
  have h3 : (1 : Int) * 2 ^ ((k : Nat) : Int).toNat = ((2 ^ k : Nat) : Int) := by rw [Int.toNat_natCast]; push_cast; omega
  rw [h3] at h1 ⊢
  have h4 : 2 ^ 6 = 64 := rfl
  refine ⟨⟨by omega, by rw [Int.toNat_natCast]; show k ≤ 64; omega, h1.2.2.2⟩, ⟨by omega, by omega⟩, by omega⟩
theorem tog_next {B : Nat → Int} {S : Int} {i : Nat} {s : Int} (h : togS B S i = some s) (hb : hasB S i = true) (h0 : 0 ≤ B i) : togS B S (i + 1) = some (s + B i) := by
  rw [togS, h]; simp [hb, h0]
theorem tog_skip {B : Nat → Int} {S : Int} {i : Nat} {s : Int} (h : togS B S i = some s) (hb : hasB S i = false) : togS B S (i + 1) = some s := by
  rw [togS, h]; simp [hb]
theorem tog_stop {B : Nat → Int} {S : Int} {i : Nat} {s : Int} (hi : i < 6) (h : togS B S i = some s) (hb : hasB S i = true) (h0 : ¬ 0 ≤ B i) : togS B S 6 = none := by
  have h1 : togS B S (i + 1) = none := by rw [togS, h]; simp [hb, h0]
  have := togS_none h1 (6 - (i + 1))
  rwa [show i + 1 + (6 - (i + 1)) = 6 by omega] at this
theorem k24 {l : List (Nat × Ct)} (g0 : Good P T l) : COk P 24 c24 := by
  have g := g47 (g60 (g45 (g59 (g43 good0))))
  refine cokD (C := tabC _) g.ok answer_ok Try.func24 (c := code Try.f24) rfl fun fr args H out h hp => ?_
  unfold c24 at h
  split at h
  case h_2 => cases h
  rename_i l S y
  obtain ⟨i1, it, ag, n, get, rfl, e1, h⟩ := passK_some h
  cases h
  obtain ⟨hs, hn⟩ : Pps n get ∧ n ≤ 1000000 := hp
  refine ⟨[(i1, .ro 5 n fun i => ppC (ppAt get i))], [.agg (paA 0 it ag), .si .i64 S, .si .i64 y], [(0, .ro 5 n fun i => ppC (ppAt get i))], 1, [], rfl, rfl, Nat.le_of_ble_eq_true rfl, pp_hand e1 hs, rfl, rfl, fun G hG => ?_⟩
  unfold togR togE togI
  rw [bnN_papL]
  unfold papL
  generalize ppAt get = L
  refine fb_defer (g.ok _ _ _) rfl cont_std rfl rfl rfl rfl ?_
  refine Chk.mk ⟨pps_i _ _, hn⟩ ?_
  obtain ⟨V, hV⟩ : ∃ V, validV it ag ((List.range n).map L) = V := ⟨_, rfl⟩
  rw [hV]
  refine Br.mk (fun h => ?_) (fun h => ?_)
  · have h : (!validV it ag ((List.range n).map L)) = true := h
    rw [hV] at h
    obtain rfl : V = false := by simpa using h
    have e : ∀ b, errO false b = 1 := fun b => rfl
    rw [e]
    refine ⟨.inl rfl, end_noid ⟨⟨rfl, rfl⟩, ⟨rfl, rfl⟩, trivial⟩ rfl rfl (by repeat' (first | exact trivial | exact rfl | (intro i hi; exact ⟨rfl, rfl⟩) | refine And.intro ?_ ?_))⟩
  have h : (!validV it ag ((List.range n).map L)) = false := h
  rw [hV] at h
  obtain rfl : V = true := by simpa using h
  obtain ⟨hr, hit, _⟩ := valid_ok hV
  obtain ⟨p1, p2, p3⟩ := pow_in hit
  refine drawn_ok (g.ok _ _ _) fol [0,0,0,4,12,28,62,126,254,510,1022,2047,4095] [] 13 (by kernel_rfl) ?_
  obtain ⟨is, his⟩ : ∃ is : Bool, (inB S 0 (1 * 2 ^ it.toNat - 1) && inB y 0 20) = is := ⟨_, rfl⟩
  rw [his]
  refine Chk.mk p1 (Chk.mk p2 (Chk.mk ⟨pps_i _ _, hn⟩ ?_))
  refine Br.mk (fun h => ?_) (fun h => ?_)
  · have h : (!decide (errO (validV it ag ((List.range n).map L)) (inB S 0 (1 * 2 ^ it.toNat - 1) && inB y 0 20) = 0)) = true := h
    rw [his, hV] at h
    have h : ¬ errO true is = 0 := by simpa using h
    rw [if_neg h, if_neg h]
    refine ⟨.inl rfl, end_noid ⟨⟨rfl, rfl⟩, ⟨rfl, ?_⟩, trivial⟩ rfl rfl (by repeat' (first | exact trivial | exact rfl | (intro i hi; exact ⟨rfl, rfl⟩) | refine And.intro ?_ ?_))⟩
    show errO (validV it ag ((List.range n).map L)) (inB S 0 (1 * 2 ^ it.toNat - 1) && inB y 0 20) = _
    rw [his, hV]
  have h : (!decide (errO (validV it ag ((List.range n).map L)) (inB S 0 (1 * 2 ^ it.toNat - 1) && inB y 0 20) = 0)) = false := h
  rw [his, hV] at h
  have h : errO true is = 0 := by simpa using h
  rw [if_pos h, if_pos h]
  have hS : 0 ≤ S ∧ S ≤ 63 := by
    have := (errO_zero h).2
    rw [← his] at this
    simp only [Bool.and_eq_true, inB, decide_eq_true_eq] at this
    omega
  refine fb_fam0 1 (g.ok _ _ _) cont_std rfl ?_
  refine fb_call (g.ok _ _ _) cont_std rfl rfl rfl rfl ⟨b54, ?_⟩
  refine callS_at [.sp 1 0, .si .i64 y] (ofH it ag n L [] C0) 4 (fun j => match j with | 0 => 0 | 1 => 47 | 2 => 48 | _ => 55) (by repeat' (first | exact trivial | exact rfl | refine And.intro ?_ ?_)) rfl (by repeat' (first | exact trivial | exact rfl | exact List.Perm.refl _ | (intro i hi; exact ⟨rfl, rfl⟩) | (intro v m g h; exact h) | refine And.intro ?_ ?_)) rfl rfl ?_
  refine s54 hr KtOk.nil fun C2 es2 hC2 hK2 => ?_
  refine ⟨rfl, (by repeat' (first | exact trivial | exact rfl | refine And.intro ?_ ?_)), (by repeat' (first | exact trivial | exact rfl | (intro i hi; exact rfl) | refine And.intro ?_ ?_)), ?_⟩
  have hBl : ∀ i, bnd ag n L y i ≤ 10000 := fun i => bnd_le hr i
  generalize bnd ag n L y = B at hBl
  generalize hO : togS B S 6 = O
  refine loop_okR (g.ok _ _ _) 1 (fun z : {p : Nat × Int // p.1 ≤ 6 ∧ (0 ≤ p.2 ∧ p.2 ≤ 10000 * (p.1 : Int)) ∧ togS B S p.1 = some p.2} => ⟨[(1, ⟨[], .si .i64 S⟩), (6, ⟨[], .si .i64 0⟩), (7, ⟨[], .sp 2 0⟩), (9, ⟨[], .si .i64 z.1.2⟩), (29, ⟨[], .agg (bndL B)⟩), (30, ⟨[], .si .i64 z.1.1⟩)], [], [(2, .cells 27 [.si .i64 0]), (0, .ro 5 n fun i => ppC (L i))], 3, D17⟩)
    (fun z => 6 - z.1.1) hG ⟨(0, 0), Nat.zero_le _, ⟨by decide, by decide⟩, rfl⟩ (fun j => j) ?_ ?_
  · refine ⟨?_, ?_, rfl, rfl, rfl, rfl, ⟨rfl, ⟨⟨rfl, rfl⟩, trivial⟩, rfl, trivial⟩⟩ <;> repeat' (first | exact trivial | exact rfl | (intro i hi; exact ⟨rfl, rfl⟩) | refine And.intro ?_ ?_)
  rintro ⟨⟨i, s⟩, hi, hsb, hts⟩
  have hi : i ≤ 6 := hi
  have hsb : 0 ≤ s ∧ s ≤ 10000 * (i : Int) := hsb
  have hts : togS B S i = some s := hts
  rcases (show i = 6 ∨ i = 0 ∨ i = 1 ∨ i = 2 ∨ i = 3 ∨ i = 4 ∨ i = 5 by omega) with rfl | rfl | rfl | rfl | rfl | rfl | rfl
  · obtain rfl : O = some s := by rw [← hO]; exact hts
    refine Br.mk (fun h => by cases h) (fun _ => ?_)
    refine ⟨.inl rfl, end_noid ⟨⟨rfl, rfl⟩, ⟨rfl, rfl⟩, trivial⟩ rfl rfl (by repeat' (first | exact trivial | exact rfl | (intro i hi; exact ⟨rfl, rfl⟩) | refine And.intro ?_ ?_))⟩
  · refine Br.mk (fun _ => ?_) (fun h => by cases h)
    have hBk := hBl 0
    refine Chk.mk (show (0 : Int) ≤ ((0 : Nat) : Int) ∧ ((0 : Nat) : Int) < ((6 : Nat) : Int) from by decide) ?_
    refine Chk.mk (shr_in (i := 0) (by decide)) (Chk.mk (sh_in (i := 0) hS (by decide)) ?_)
    refine Br.mk (fun h => ?_) (fun h => ?_)
    · have h : decide ((((S.fdiv (2 ^ ((0 : Nat) : Int).toNat)).toNat &&& (1 : Int).toNat : Nat) : Int) = 1) = true := h
      rw [hasB_eq hS.1] at h
      refine Br.mk (fun h2 => ?_) (fun h2 => ?_)
      · have h2 : (!decide (0 ≤ B 0)) = true := h2
        have h2 : ¬ 0 ≤ B 0 := by simpa using h2
        obtain rfl : O = none := by rw [← hO]; exact tog_stop (by decide) hts h h2
        refine ⟨.inl rfl, end_noid ⟨⟨rfl, rfl⟩, ⟨rfl, rfl⟩, trivial⟩ rfl rfl (by repeat' (first | exact trivial | exact rfl | (intro i hi; exact ⟨rfl, rfl⟩) | refine And.intro ?_ ?_))⟩
      · have h2 : (!decide (0 ≤ B 0)) = false := h2
        have h2 : 0 ≤ B 0 := by simpa using h2
        refine Chk.mk (show InK .i64 (s + B 0) from ⟨by omega, by omega⟩) (Chk.mk (show InK .i64 (((0 : Nat) : Int) + 1) from ⟨by decide, by decide⟩) ⟨⟨(1, s + B 0), by dsimp only; decide, ⟨by show 0 ≤ s + B 0; omega, by show s + B 0 ≤ 10000 * ((1 : Nat) : Int); omega⟩, tog_next hts h h2⟩, (fun j => j), ?_, by dsimp only; decide⟩)
        refine ⟨?_, ?_, rfl, rfl, rfl, rfl, ⟨rfl, ⟨⟨rfl, rfl⟩, trivial⟩, rfl, trivial⟩⟩ <;> repeat' (first | exact trivial | exact rfl | (intro i hi; exact ⟨rfl, rfl⟩) | refine And.intro ?_ ?_)
    · have h : decide ((((S.fdiv (2 ^ ((0 : Nat) : Int).toNat)).toNat &&& (1 : Int).toNat : Nat) : Int) = 1) = false := h
      rw [hasB_eq hS.1] at h
      refine Chk.mk (show InK .i64 (((0 : Nat) : Int) + 1) from ⟨by decide, by decide⟩) ⟨⟨(1, s), by dsimp only; decide, ⟨hsb.1, by show s ≤ 10000 * ((1 : Nat) : Int); omega⟩, tog_skip hts h⟩, (fun j => j), ?_, by dsimp only; decide⟩
      refine ⟨?_, ?_, rfl, rfl, rfl, rfl, ⟨rfl, ⟨⟨rfl, rfl⟩, trivial⟩, rfl, trivial⟩⟩ <;> repeat' (first | exact trivial | exact rfl | (intro i hi; exact ⟨rfl, rfl⟩) | refine And.intro ?_ ?_)
  · refine Br.mk (fun _ => ?_) (fun h => by cases h)
    have hBk := hBl 1
    refine Chk.mk (show (0 : Int) ≤ ((1 : Nat) : Int) ∧ ((1 : Nat) : Int) < ((6 : Nat) : Int) from by decide) ?_
    refine Chk.mk (shr_in (i := 1) (by decide)) (Chk.mk (sh_in (i := 1) hS (by decide)) ?_)
    refine Br.mk (fun h => ?_) (fun h => ?_)
    · have h : decide ((((S.fdiv (2 ^ ((1 : Nat) : Int).toNat)).toNat &&& (1 : Int).toNat : Nat) : Int) = 1) = true := h
      rw [hasB_eq hS.1] at h
      refine Br.mk (fun h2 => ?_) (fun h2 => ?_)
      · have h2 : (!decide (0 ≤ B 1)) = true := h2
        have h2 : ¬ 0 ≤ B 1 := by simpa using h2
        obtain rfl : O = none := by rw [← hO]; exact tog_stop (by decide) hts h h2
        refine ⟨.inl rfl, end_noid ⟨⟨rfl, rfl⟩, ⟨rfl, rfl⟩, trivial⟩ rfl rfl (by repeat' (first | exact trivial | exact rfl | (intro i hi; exact ⟨rfl, rfl⟩) | refine And.intro ?_ ?_))⟩
      · have h2 : (!decide (0 ≤ B 1)) = false := h2
        have h2 : 0 ≤ B 1 := by simpa using h2
        refine Chk.mk (show InK .i64 (s + B 1) from ⟨by omega, by omega⟩) (Chk.mk (show InK .i64 (((1 : Nat) : Int) + 1) from ⟨by decide, by decide⟩) ⟨⟨(2, s + B 1), by dsimp only; decide, ⟨by show 0 ≤ s + B 1; omega, by show s + B 1 ≤ 10000 * ((2 : Nat) : Int); omega⟩, tog_next hts h h2⟩, (fun j => j), ?_, by dsimp only; decide⟩)
        refine ⟨?_, ?_, rfl, rfl, rfl, rfl, ⟨rfl, ⟨⟨rfl, rfl⟩, trivial⟩, rfl, trivial⟩⟩ <;> repeat' (first | exact trivial | exact rfl | (intro i hi; exact ⟨rfl, rfl⟩) | refine And.intro ?_ ?_)
    · have h : decide ((((S.fdiv (2 ^ ((1 : Nat) : Int).toNat)).toNat &&& (1 : Int).toNat : Nat) : Int) = 1) = false := h
      rw [hasB_eq hS.1] at h
      refine Chk.mk (show InK .i64 (((1 : Nat) : Int) + 1) from ⟨by decide, by decide⟩) ⟨⟨(2, s), by dsimp only; decide, ⟨hsb.1, by show s ≤ 10000 * ((2 : Nat) : Int); omega⟩, tog_skip hts h⟩, (fun j => j), ?_, by dsimp only; decide⟩
      refine ⟨?_, ?_, rfl, rfl, rfl, rfl, ⟨rfl, ⟨⟨rfl, rfl⟩, trivial⟩, rfl, trivial⟩⟩ <;> repeat' (first | exact trivial | exact rfl | (intro i hi; exact ⟨rfl, rfl⟩) | refine And.intro ?_ ?_)
  · refine Br.mk (fun _ => ?_) (fun h => by cases h)
    have hBk := hBl 2
    refine Chk.mk (show (0 : Int) ≤ ((2 : Nat) : Int) ∧ ((2 : Nat) : Int) < ((6 : Nat) : Int) from by decide) ?_
    refine Chk.mk (shr_in (i := 2) (by decide)) (Chk.mk (sh_in (i := 2) hS (by decide)) ?_)
    refine Br.mk (fun h => ?_) (fun h => ?_)
    · have h : decide ((((S.fdiv (2 ^ ((2 : Nat) : Int).toNat)).toNat &&& (1 : Int).toNat : Nat) : Int) = 1) = true := h
      rw [hasB_eq hS.1] at h
      refine Br.mk (fun h2 => ?_) (fun h2 => ?_)
      · have h2 : (!decide (0 ≤ B 2)) = true := h2
        have h2 : ¬ 0 ≤ B 2 := by simpa using h2
        obtain rfl : O = none := by rw [← hO]; exact tog_stop (by decide) hts h h2
        refine ⟨.inl rfl, end_noid ⟨⟨rfl, rfl⟩, ⟨rfl, rfl⟩, trivial⟩ rfl rfl (by repeat' (first | exact trivial | exact rfl | (intro i hi; exact ⟨rfl, rfl⟩) | refine And.intro ?_ ?_))⟩
      · have h2 : (!decide (0 ≤ B 2)) = false := h2
        have h2 : 0 ≤ B 2 := by simpa using h2
        refine Chk.mk (show InK .i64 (s + B 2) from ⟨by omega, by omega⟩) (Chk.mk (show InK .i64 (((2 : Nat) : Int) + 1) from ⟨by decide, by decide⟩) ⟨⟨(3, s + B 2), by dsimp only; decide, ⟨by show 0 ≤ s + B 2; omega, by show s + B 2 ≤ 10000 * ((3 : Nat) : Int); omega⟩, tog_next hts h h2⟩, (fun j => j), ?_, by dsimp only; decide⟩)
        refine ⟨?_, ?_, rfl, rfl, rfl, rfl, ⟨rfl, ⟨⟨rfl, rfl⟩, trivial⟩, rfl, trivial⟩⟩ <;> repeat' (first | exact trivial | exact rfl | (intro i hi; exact ⟨rfl, rfl⟩) | refine And.intro ?_ ?_)
    · have h : decide ((((S.fdiv (2 ^ ((2 : Nat) : Int).toNat)).toNat &&& (1 : Int).toNat : Nat) : Int) = 1) = false := h
      rw [hasB_eq hS.1] at h
      refine Chk.mk (show InK .i64 (((2 : Nat) : Int) + 1) from ⟨by decide, by decide⟩) ⟨⟨(3, s), by dsimp only; decide, ⟨hsb.1, by show s ≤ 10000 * ((3 : Nat) : Int); omega⟩, tog_skip hts h⟩, (fun j => j), ?_, by dsimp only; decide⟩
      refine ⟨?_, ?_, rfl, rfl, rfl, rfl, ⟨rfl, ⟨⟨rfl, rfl⟩, trivial⟩, rfl, trivial⟩⟩ <;> repeat' (first | exact trivial | exact rfl | (intro i hi; exact ⟨rfl, rfl⟩) | refine And.intro ?_ ?_)
  · refine Br.mk (fun _ => ?_) (fun h => by cases h)
    have hBk := hBl 3
    refine Chk.mk (show (0 : Int) ≤ ((3 : Nat) : Int) ∧ ((3 : Nat) : Int) < ((6 : Nat) : Int) from by decide) ?_
    refine Chk.mk (shr_in (i := 3) (by decide)) (Chk.mk (sh_in (i := 3) hS (by decide)) ?_)
    refine Br.mk (fun h => ?_) (fun h => ?_)
    · have h : decide ((((S.fdiv (2 ^ ((3 : Nat) : Int).toNat)).toNat &&& (1 : Int).toNat : Nat) : Int) = 1) = true := h
      rw [hasB_eq hS.1] at h
      refine Br.mk (fun h2 => ?_) (fun h2 => ?_)
      · have h2 : (!decide (0 ≤ B 3)) = true := h2
        have h2 : ¬ 0 ≤ B 3 := by simpa using h2
        obtain rfl : O = none := by rw [← hO]; exact tog_stop (by decide) hts h h2
        refine ⟨.inl rfl, end_noid ⟨⟨rfl, rfl⟩, ⟨rfl, rfl⟩, trivial⟩ rfl rfl (by repeat' (first | exact trivial | exact rfl | (intro i hi; exact ⟨rfl, rfl⟩) | refine And.intro ?_ ?_))⟩
      · have h2 : (!decide (0 ≤ B 3)) = false := h2
        have h2 : 0 ≤ B 3 := by simpa using h2
        refine Chk.mk (show InK .i64 (s + B 3) from ⟨by omega, by omega⟩) (Chk.mk (show InK .i64 (((3 : Nat) : Int) + 1) from ⟨by decide, by decide⟩) ⟨⟨(4, s + B 3), by dsimp only; decide, ⟨by show 0 ≤ s + B 3; omega, by show s + B 3 ≤ 10000 * ((4 : Nat) : Int); omega⟩, tog_next hts h h2⟩, (fun j => j), ?_, by dsimp only; decide⟩)
        refine ⟨?_, ?_, rfl, rfl, rfl, rfl, ⟨rfl, ⟨⟨rfl, rfl⟩, trivial⟩, rfl, trivial⟩⟩ <;> repeat' (first | exact trivial | exact rfl | (intro i hi; exact ⟨rfl, rfl⟩) | refine And.intro ?_ ?_)
    · have h : decide ((((S.fdiv (2 ^ ((3 : Nat) : Int).toNat)).toNat &&& (1 : Int).toNat : Nat) : Int) = 1) = false := h
      rw [hasB_eq hS.1] at h
      refine Chk.mk (show InK .i64 (((3 : Nat) : Int) + 1) from ⟨by decide, by decide⟩) ⟨⟨(4, s), by dsimp only; decide, ⟨hsb.1, by show s ≤ 10000 * ((4 : Nat) : Int); omega⟩, tog_skip hts h⟩, (fun j => j), ?_, by dsimp only; decide⟩
      refine ⟨?_, ?_, rfl, rfl, rfl, rfl, ⟨rfl, ⟨⟨rfl, rfl⟩, trivial⟩, rfl, trivial⟩⟩ <;> repeat' (first | exact trivial | exact rfl | (intro i hi; exact ⟨rfl, rfl⟩) | refine And.intro ?_ ?_)
  · refine Br.mk (fun _ => ?_) (fun h => by cases h)
    have hBk := hBl 4
    refine Chk.mk (show (0 : Int) ≤ ((4 : Nat) : Int) ∧ ((4 : Nat) : Int) < ((6 : Nat) : Int) from by decide) ?_
    refine Chk.mk (shr_in (i := 4) (by decide)) (Chk.mk (sh_in (i := 4) hS (by decide)) ?_)
    refine Br.mk (fun h => ?_) (fun h => ?_)
    · have h : decide ((((S.fdiv (2 ^ ((4 : Nat) : Int).toNat)).toNat &&& (1 : Int).toNat : Nat) : Int) = 1) = true := h
      rw [hasB_eq hS.1] at h
      refine Br.mk (fun h2 => ?_) (fun h2 => ?_)
      · have h2 : (!decide (0 ≤ B 4)) = true := h2
        have h2 : ¬ 0 ≤ B 4 := by simpa using h2
        obtain rfl : O = none := by rw [← hO]; exact tog_stop (by decide) hts h h2
        refine ⟨.inl rfl, end_noid ⟨⟨rfl, rfl⟩, ⟨rfl, rfl⟩, trivial⟩ rfl rfl (by repeat' (first | exact trivial | exact rfl | (intro i hi; exact ⟨rfl, rfl⟩) | refine And.intro ?_ ?_))⟩
      · have h2 : (!decide (0 ≤ B 4)) = false := h2
        have h2 : 0 ≤ B 4 := by simpa using h2
        refine Chk.mk (show InK .i64 (s + B 4) from ⟨by omega, by omega⟩) (Chk.mk (show InK .i64 (((4 : Nat) : Int) + 1) from ⟨by decide, by decide⟩) ⟨⟨(5, s + B 4), by dsimp only; decide, ⟨by show 0 ≤ s + B 4; omega, by show s + B 4 ≤ 10000 * ((5 : Nat) : Int); omega⟩, tog_next hts h h2⟩, (fun j => j), ?_, by dsimp only; decide⟩)
        refine ⟨?_, ?_, rfl, rfl, rfl, rfl, ⟨rfl, ⟨⟨rfl, rfl⟩, trivial⟩, rfl, trivial⟩⟩ <;> repeat' (first | exact trivial | exact rfl | (intro i hi; exact ⟨rfl, rfl⟩) | refine And.intro ?_ ?_)
    · have h : decide ((((S.fdiv (2 ^ ((4 : Nat) : Int).toNat)).toNat &&& (1 : Int).toNat : Nat) : Int) = 1) = false := h
      rw [hasB_eq hS.1] at h
      refine Chk.mk (show InK .i64 (((4 : Nat) : Int) + 1) from ⟨by decide, by decide⟩) ⟨⟨(5, s), by dsimp only; decide, ⟨hsb.1, by show s ≤ 10000 * ((5 : Nat) : Int); omega⟩, tog_skip hts h⟩, (fun j => j), ?_, by dsimp only; decide⟩
      refine ⟨?_, ?_, rfl, rfl, rfl, rfl, ⟨rfl, ⟨⟨rfl, rfl⟩, trivial⟩, rfl, trivial⟩⟩ <;> repeat' (first | exact trivial | exact rfl | (intro i hi; exact ⟨rfl, rfl⟩) | refine And.intro ?_ ?_)
  · refine Br.mk (fun _ => ?_) (fun h => by cases h)
    have hBk := hBl 5
    refine Chk.mk (show (0 : Int) ≤ ((5 : Nat) : Int) ∧ ((5 : Nat) : Int) < ((6 : Nat) : Int) from by decide) ?_
    refine Chk.mk (shr_in (i := 5) (by decide)) (Chk.mk (sh_in (i := 5) hS (by decide)) ?_)
    refine Br.mk (fun h => ?_) (fun h => ?_)
    · have h : decide ((((S.fdiv (2 ^ ((5 : Nat) : Int).toNat)).toNat &&& (1 : Int).toNat : Nat) : Int) = 1) = true := h
      rw [hasB_eq hS.1] at h
      refine Br.mk (fun h2 => ?_) (fun h2 => ?_)
      · have h2 : (!decide (0 ≤ B 5)) = true := h2
        have h2 : ¬ 0 ≤ B 5 := by simpa using h2
        obtain rfl : O = none := by rw [← hO]; exact tog_stop (by decide) hts h h2
        refine ⟨.inl rfl, end_noid ⟨⟨rfl, rfl⟩, ⟨rfl, rfl⟩, trivial⟩ rfl rfl (by repeat' (first | exact trivial | exact rfl | (intro i hi; exact ⟨rfl, rfl⟩) | refine And.intro ?_ ?_))⟩
      · have h2 : (!decide (0 ≤ B 5)) = false := h2
        have h2 : 0 ≤ B 5 := by simpa using h2
        refine Chk.mk (show InK .i64 (s + B 5) from ⟨by omega, by omega⟩) (Chk.mk (show InK .i64 (((5 : Nat) : Int) + 1) from ⟨by decide, by decide⟩) ⟨⟨(6, s + B 5), by dsimp only; decide, ⟨by show 0 ≤ s + B 5; omega, by show s + B 5 ≤ 10000 * ((6 : Nat) : Int); omega⟩, tog_next hts h h2⟩, (fun j => j), ?_, by dsimp only; decide⟩)
        refine ⟨?_, ?_, rfl, rfl, rfl, rfl, ⟨rfl, ⟨⟨rfl, rfl⟩, trivial⟩, rfl, trivial⟩⟩ <;> repeat' (first | exact trivial | exact rfl | (intro i hi; exact ⟨rfl, rfl⟩) | refine And.intro ?_ ?_)
    · have h : decide ((((S.fdiv (2 ^ ((5 : Nat) : Int).toNat)).toNat &&& (1 : Int).toNat : Nat) : Int) = 1) = false := h
      rw [hasB_eq hS.1] at h
      refine Chk.mk (show InK .i64 (((5 : Nat) : Int) + 1) from ⟨by decide, by decide⟩) ⟨⟨(6, s), by dsimp only; decide, ⟨hsb.1, by show s ≤ 10000 * ((6 : Nat) : Int); omega⟩, tog_skip hts h⟩, (fun j => j), ?_, by dsimp only; decide⟩
      refine ⟨?_, ?_, rfl, rfl, rfl, rfl, ⟨rfl, ⟨⟨rfl, rfl⟩, trivial⟩, rfl, trivial⟩⟩ <;> repeat' (first | exact trivial | exact rfl | (intro i hi; exact ⟨rfl, rfl⟩) | refine And.intro ?_ ?_)
theorem g24 {l : List (Nat × Ct)} (g : Good P T l) : Good P T ((24, c24) :: l) := g.add (k24 g) c24_mono (body_of Try.func24 (c := code Try.f24) rfl (by decide))
end Go.X.Ps
end

section
set_option linter.unusedVariables false
set_option linter.unusedSimpArgs false
set_option linter.unusedSectionVars false
/- Pass: certificates without one. -/
set_option linter.unusedVariables false
set_option linter.unusedSimpArgs false
set_option maxRecDepth 10000
set_option maxHeartbeats 4000000
namespace Go.X.Ps
open Go Go.Proofs Go.X

noncomputable def opr5 : Array Oper := regO 5 (code Try.f26)
noncomputable def opr6 : Array Oper := regO 6 (code Try.f26)
noncomputable abbrev X26 (G : Base) : Cx := ⟨P, T, tabC [(60, c60), (45, c45), (43, c43), (63, c63)], G, none, Try.f26.ntmps⟩
theorem x26_ok {G : Base} : (X26 G).Ok := (g60 (g45 (g43 (g63 good0)))).ok _ _ _
def woP (r : Nat → Pp) (k i : Nat) : Pp := if i < k then r i else r (i + 1)
def zP : List SV := ppC pp0
def b26 (k : Nat) (y : Int) : List (Nat × FE) := [(1, ⟨[], .si .i64 (k : Int)⟩), (2, ⟨[], .si .i64 y⟩), (3, ⟨[], .sp 1 0⟩), (6, ⟨[], .si .i64 0⟩), (7, ⟨[], .si .i64 0⟩), (8, ⟨[], .sp 2 0⟩), (9, ⟨[], .sp 47 0⟩), (10, ⟨[], .sp 55 0⟩)]
def H26 (it ag : Int) (m : Nat) (r : Nat → Pp) (g : Nat → List SV) : List (Nat × HB) :=
  [(56, .vec 49 5 m g), (55, .cells 24 [.si .i64 it, .si .i64 ag, .sl 56]), (47, .cells 108 (ofC 0 48 it ag)), (48, .mp []), (2, .cells 27 [.si .i64 0]), (1, .cells 24 (paA 0 it ag)), (0, .ro 5 (m + 1) fun i => ppC (r i))]
def g25 (r : Nat → Pp) (k i : Nat) : List SV := if i < k then ppC (r i) else zP
def arr25 (l : List Bool) : Array Bool := ((List.range 7).map fun j => if j < 6 then l.getD j false else false).toArray
def anc25 : Nat → List Nat
  | 1 => [0]
  | 3 => [2]
  | 5 => [3, 4]
  | _ => []
def ex25 (l : List Bool) : Bool := (List.range 6).all fun j => l.getD j false
theorem anc25_lt : ∀ i, ∀ j ∈ anc25 i, j < i := by
  intro i j hj
  unfold anc25 at hj
  split at hj <;> simp at hj <;> omega
theorem lat25 : (clL anc25 6).all (latX opr5 6 arr25 (fun i => i) ex25 anc25) = true := by kernel_rfl
def slo25 (k : Nat) : Nat → List (Nat × FE)
  | 0 => [(35, ⟨[], .sp 55 2⟩)]
  | 1 => [(36, ⟨[], .sl 56⟩)]
  | 2 => [(37, ⟨[], .sp 1 2⟩)]
  | 3 => [(38, ⟨[], .sl 0⟩)]
  | 4 => [(39, ⟨[], .si .i64 (k : Int)⟩)]
  | 5 => [(40, ⟨[], .ss 0 ((0 : Int).toNat * 5) (((k : Nat) : Int) - 0).toNat 0⟩)]
  | _ => []
theorem reg25 {G : Base} (hG : ∀ j, 1 ≤ j → G.ρ j = none) {it ag : Int} {m k : Nat} {r : Nat → Pp} {y : Int} {K : Ex → St → Prop} (hk : k ≤ m)
    (h : K .normal ⟨b26 k y, [], H26 it ag m r (g25 r k), 57, D17⟩) :
    AnyS (X26 G) opr5 7 (Array.replicate 7 false) ⟨b26 k y, [], H26 it ag m r (fun _ => zP), 57, D17⟩ K := by
  refine any_latD (D := D17) x26_ok 6 arr25 (fun i => i) ex25 (slo25 k) (b26 k y) (fun _ => H26 it ag m r (fun _ => zP)) (fun _ => 57) anc25 1 (fun i hi j hj => by have := anc25_lt i j hj; omega) (latX_of anc25_lt lat25) ?_ ?_ ?_ (List.replicate 6 false) rfl (by decide)
  · repeat' (first | exact trivial | exact ⟨rfl, rfl⟩ | refine And.intro ?_ ?_)
  · intro i hi l hl hf ha hcl
    rcases (show i = 0 ∨ i = 1 ∨ i = 2 ∨ i = 3 ∨ i = 4 ∨ i = 5 by omega) with rfl | rfl | rfl | rfl | rfl | rfl
    · exact ⟨_, rfl, rfl, fun tail Q Kn hC hK => hK⟩
    · exact ⟨_, rfl, rfl, fun tail Q Kn hC hK => hK⟩
    · exact ⟨_, rfl, rfl, fun tail Q Kn hC hK => hK⟩
    · exact ⟨_, rfl, rfl, fun tail Q Kn hC hK => hK⟩
    · exact ⟨_, rfl, rfl, fun tail Q Kn hC hK => hK⟩
    · exact ⟨_, rfl, rfl, fun tail Q Kn hC hK => Chk.mk (show (0 : Int) ≤ 0 ∧ (0 : Int) ≤ (k : Int) ∧ (k : Int) ≤ ((m + 1 : Nat) : Int) ∧ 0 < m + 1 ∧ 0 < 5 from ⟨by omega, by omega, by omega, by omega, by omega⟩) hK⟩
  · intro l hl he
    match l, hl, he with
    | [a0, a1, a2, a3, a4, a5], _, he =>
      have he : (a0 && (a1 && (a2 && (a3 && (a4 && (a5 && true)))))) = true := he
      simp only [Bool.and_eq_true] at he
      obtain ⟨rfl, rfl, rfl, rfl, rfl, rfl, -⟩ := he
      refine any_step [6] x26_ok (by kernel_rfl) (by decide) ⟨?_, trivial⟩
      by_cases hm : m = 0
      · subst hm
        obtain rfl : k = 0 := by omega
        refine fb_copyZ (.sl 56) (.ss 0 ((0 : Int).toNat * 5) (((0 : Nat) : Int) - 0).toNat 0) x26_ok cont_any rfl rfl rfl rfl rfl rfl rfl rfl rfl rfl rfl rfl rfl (fun ρ w hH u1 u2 d1 d2 => ?_) ?_
        · obtain ⟨nm, q1, q2⟩ := hH.ok 56 _ rfl
          obtain ⟨a2, c2, _, p2, _, _⟩ := part_of hH (sz := 5) (n := 1) (get := fun i => ppC (r i)) rfl d2
          cases nm with
          | blk _ => exact q2.elim
          | sl A n' c s =>
            obtain ⟨rfl, rfl, rfl, _, rfl⟩ := q2
            simp only [den, q1, Option.some.injEq] at d1
            exact ⟨_, 0, _, _, _, _, d1.symm, p2, Nat.min_zero _⟩
          | row nb n' c s =>
            obtain ⟨rfl, _⟩ := q2
            simp only [den, q1, Option.some.injEq] at d1
            exact ⟨_, 0, _, _, _, _, d1.symm, p2, Nat.min_zero _⟩
        · refine any_weaken 1 (fun j => j) hG ?_ (any_done (by kernel_rfl) h)
          refine ⟨?_, ?_, rfl, rfl, rfl, rfl, ⟨rfl, ⟨⟨rfl, rfl⟩, trivial⟩, rfl, trivial⟩⟩
          · repeat' (first | exact trivial | exact rfl | refine And.intro ?_ ?_)
          · repeat' (first | exact trivial | exact rfl | exact List.Perm.refl _ | (intro i hi; exact ⟨rfl, rfl⟩) | (intro i hi; exact absurd hi (Nat.not_lt_zero _)) | refine And.intro ?_ ?_)
      · refine fb_asPart 36 56 49 5 m (fun _ => zP) x26_ok cont_any rfl rfl rfl (by omega) (by decide) ?_
        refine fb_copyQ (o1 := 0) (o2 := 0) (t1 := 0) (t2 := 0) 56 0 m (m + 1) 0 0 m k (fun _ => zP) (fun i => ppC (r i)) (g25 r k) x26_ok cont_any rfl rfl rfl rfl rfl rfl rfl rfl rfl rfl rfl rfl ?_ rfl rfl (by decide) rfl rfl (by omega) (by omega) ?_ ?_
        · show some (SV.ss 0 _ (((k : Nat) : Int) - 0).toNat 0) = some (SV.ss 0 _ k 0)
          congr 2
        · intro q hq
          unfold g25
          rw [Nat.min_eq_left hk, Nat.zero_add, Nat.zero_add]
          simp only [Nat.zero_le, true_and, Nat.sub_zero]
        · refine any_weaken 1 (fun j => j) hG ?_ (any_done (by kernel_rfl) h)
          refine ⟨?_, ?_, rfl, rfl, rfl, rfl, ⟨rfl, ⟨⟨rfl, rfl⟩, trivial⟩, rfl, trivial⟩⟩
          · repeat' (first | exact trivial | exact rfl | refine And.intro ?_ ?_)
          · repeat' (first | exact trivial | exact rfl | exact List.Perm.refl _ | (intro i hi; unfold g25; split <;> exact ⟨rfl, rfl⟩) | (intro i hi; exact ⟨rfl, rfl⟩) | refine And.intro ?_ ?_)
def arr26 (l : List Bool) : Array Bool := ((List.range 10).map fun j => if j < 9 then l.getD j false else false).toArray
def anc26 : Nat → List Nat
  | 1 => [0]
  | 3 => [1, 2]
  | 5 => [4]
  | 7 => [6]
  | 8 => [5, 7]
  | _ => []
def ex26 (l : List Bool) : Bool := (List.range 9).all fun j => l.getD j false
theorem anc26_lt : ∀ i, ∀ j ∈ anc26 i, j < i := by
  intro i j hj
  unfold anc26 at hj
  split at hj <;> simp at hj <;> omega
theorem lat26 : (clL anc26 9).all (latX opr6 9 arr26 (fun i => i) ex26 anc26) = true := by kernel_rfl
def slo26 (m k : Nat) (v : SV) : Nat → List (Nat × FE)
  | 0 => [(42, ⟨[], .sp 55 2⟩)]
  | 1 => [(43, ⟨[], .sl 56⟩)]
  | 2 => [(44, ⟨[], .si .i64 (k : Int)⟩)]
  | 3 => [(45, ⟨[], v⟩)]
  | 4 => [(46, ⟨[], .sp 1 2⟩)]
  | 5 => [(47, ⟨[], .sl 0⟩)]
  | 6 => [(48, ⟨[], .si .i64 (k : Int)⟩)]
  | 7 => [(49, ⟨[], .si .i64 ((k : Int) + 1)⟩)]
  | 8 => [(50, ⟨[], .ss 0 (((k : Int) + 1).toNat * 5) (((m + 1 : Nat) : Int) - ((k : Int) + 1)).toNat 0⟩)]
  | _ => []
theorem reg26 {G : Base} (hG : ∀ j, 1 ≤ j → G.ρ j = none) {it ag : Int} {m k : Nat} {r : Nat → Pp} {y : Int} {K : Ex → St → Prop} (hk : k ≤ m) (hm9 : m ≤ 100)
    (h : K .normal ⟨b26 k y, [], H26 it ag m r (fun i => ppC (woP r k i)), 57, D17⟩) :
    AnyS (X26 G) opr6 10 (Array.replicate 10 false) ⟨b26 k y, [], H26 it ag m r (g25 r k), 57, D17⟩ K := by
  have key : ∀ v : SV, (v = (if m = 0 then .sl 56 else .ss 56 ((k : Int).toNat * 5) ((m : Int) - (k : Int)).toNat 0)) →
      AnyS (X26 G) opr6 1 (arr26 (List.replicate 9 true)) ⟨slF (slo26 m k v) (b26 k y) (List.replicate 9 true), [], H26 it ag m r (g25 r k), 57, D17⟩ K →
      AnyS (X26 G) opr6 10 (Array.replicate 10 false) ⟨b26 k y, [], H26 it ag m r (g25 r k), 57, D17⟩ K := by
    intro v hv hend
    refine any_latS (D := D17) x26_ok 9 arr26 (fun i => i) ex26 (slo26 m k v) (b26 k y) (fun _ => H26 it ag m r (g25 r k)) (fun _ => 57) anc26 1 (fun i hi j hj => by have := anc26_lt i j hj; omega) (latX_of anc26_lt lat26) ?_ ?_ ?_ (List.replicate 9 false) rfl (by decide)
    · repeat' (first | exact trivial | exact ⟨rfl, rfl⟩ | refine And.intro ?_ ?_)
    · intro i hi l hl hf ha hcl
      rcases (show i = 0 ∨ i = 1 ∨ i = 2 ∨ i = 3 ∨ i = 4 ∨ i = 5 ∨ i = 6 ∨ i = 7 ∨ i = 8 by omega) with rfl | rfl | rfl | rfl | rfl | rfl | rfl | rfl | rfl
      · exact ⟨_, rfl, rfl, fun tail Q Kn hC hK => fb_again x26_ok hC rfl hK⟩
      · exact ⟨_, rfl, rfl, fun tail Q Kn hC hK => fb_again x26_ok hC rfl hK⟩
      · exact ⟨_, rfl, rfl, fun tail Q Kn hC hK => fb_again x26_ok hC rfl hK⟩
      · refine ⟨_, rfl, rfl, fun tail Q Kn hC hK => ?_⟩
        by_cases hm : m = 0
        · subst hm
          obtain rfl : k = 0 := by omega
          rw [if_pos rfl] at hv
          subst hv
          exact fb_slice0 56 49 5 .i64 (g25 r 0) x26_ok hC rfl rfl rfl rfl rfl rfl rfl rfl rfl rfl rfl hK
        · rw [if_neg hm] at hv
          subst hv
          exact fb_again x26_ok hC rfl (Chk.mk (show (0 : Int) ≤ (k : Int) ∧ (k : Int) ≤ (m : Int) ∧ (m : Int) ≤ (m : Int) ∧ 0 < m ∧ 0 < 5 from ⟨by omega, by omega, by omega, by omega, by omega⟩) hK)
      · exact ⟨_, rfl, rfl, fun tail Q Kn hC hK => fb_again x26_ok hC rfl hK⟩
      · exact ⟨_, rfl, rfl, fun tail Q Kn hC hK => fb_again x26_ok hC rfl hK⟩
      · exact ⟨_, rfl, rfl, fun tail Q Kn hC hK => fb_again x26_ok hC rfl hK⟩
      · exact ⟨_, rfl, rfl, fun tail Q Kn hC hK => fb_again x26_ok hC rfl (Chk.mk (show InK .i64 ((k : Int) + 1) from ⟨by omega, by omega⟩) hK)⟩
      · exact ⟨_, rfl, rfl, fun tail Q Kn hC hK => fb_again x26_ok hC rfl (Chk.mk (show (0 : Int) ≤ (k : Int) + 1 ∧ (k : Int) + 1 ≤ ((m + 1 : Nat) : Int) ∧ ((m + 1 : Nat) : Int) ≤ ((m + 1 : Nat) : Int) ∧ 0 < m + 1 ∧ 0 < 5 from ⟨by omega, by omega, by omega, by omega, by omega⟩) hK)⟩
    · intro l hl he
      match l, hl, he with
      | [a0, a1, a2, a3, a4, a5, a6, a7, a8], _, he =>
        have he : (a0 && (a1 && (a2 && (a3 && (a4 && (a5 && (a6 && (a7 && (a8 && true))))))))) = true := he
        simp only [Bool.and_eq_true] at he
        obtain ⟨rfl, rfl, rfl, rfl, rfl, rfl, rfl, rfl, rfl, -⟩ := he
        exact hend
  by_cases hm : m = 0
  · subst hm
    obtain rfl : k = 0 := by omega
    refine key (.sl 56) rfl ?_
    refine any_step [9] x26_ok (by kernel_rfl) (by decide) ⟨?_, trivial⟩
    refine fb_copyZ (.sl 56) (.ss 0 ((((0 : Nat) : Int) + 1).toNat * 5) (((0 + 1 : Nat) : Int) - (((0 : Nat) : Int) + 1)).toNat 0) x26_ok cont_any rfl rfl rfl rfl rfl rfl rfl rfl rfl rfl rfl rfl rfl (fun ρ w hH u1 u2 d1 d2 => ?_) ?_
    · obtain ⟨nm, q1, q2⟩ := hH.ok 56 _ rfl
      obtain ⟨a2, c2, _, p2, _, _⟩ := part_of hH (sz := 5) (n := 1) (get := fun i => ppC (r i)) rfl d2
      cases nm with
      | blk _ => exact q2.elim
      | sl A n' c s =>
        obtain ⟨rfl, rfl, rfl, _, rfl⟩ := q2
        simp only [den, q1, Option.some.injEq] at d1
        exact ⟨_, 0, _, _, _, _, d1.symm, p2, Nat.min_zero _⟩
      | row nb n' c s =>
        obtain ⟨rfl, _⟩ := q2
        simp only [den, q1, Option.some.injEq] at d1
        exact ⟨_, 0, _, _, _, _, d1.symm, p2, Nat.min_zero _⟩
    · refine any_weaken 1 (fun j => j) hG ?_ (any_done (by kernel_rfl) h)
      refine ⟨?_, ?_, rfl, rfl, rfl, rfl, ⟨rfl, ⟨⟨rfl, rfl⟩, trivial⟩, rfl, trivial⟩⟩
      · repeat' (first | exact trivial | exact rfl | refine And.intro ?_ ?_)
      · repeat' (first | exact trivial | exact rfl | exact List.Perm.refl _ | (intro i hi; exact ⟨rfl, rfl⟩) | (intro i hi; exact absurd hi (Nat.not_lt_zero _)) | refine And.intro ?_ ?_)
  · refine key _ (by rw [if_neg hm]) ?_
    refine any_step [9] x26_ok (by kernel_rfl) (by decide) ⟨?_, trivial⟩
    refine fb_copyQ (o1 := k * 5) (o2 := (k + 1) * 5) (t1 := 0) (t2 := 0) 56 0 m (m + 1) k (k + 1) (m - k) (m - k) (g25 r k) (fun i => ppC (r i)) (fun i => ppC (woP r k i)) x26_ok cont_any rfl rfl rfl rfl rfl rfl rfl rfl rfl rfl rfl ?_ ?_ rfl rfl (by decide) rfl rfl (by omega) (by omega) ?_ ?_
    · show some (SV.ss 56 _ ((m : Int) - (k : Int)).toNat 0) = some (SV.ss 56 _ (m - k) 0)
      congr 2
      omega
    · show some (SV.ss 0 (((k : Int) + 1).toNat * 5) (((m + 1 : Nat) : Int) - ((k : Int) + 1)).toNat 0) = some (SV.ss 0 ((k + 1) * 5) (m - k) 0)
      congr 2
      omega
    · intro q hq
      unfold g25 woP
      rw [Nat.min_self]
      split
      · rw [if_neg (by omega)]
      · rw [if_pos (by omega)]
        congr 2
        omega
    · refine any_weaken 1 (fun j => j) hG ?_ (any_done (by kernel_rfl) h)
      refine ⟨?_, ?_, rfl, rfl, rfl, rfl, ⟨rfl, ⟨⟨rfl, rfl⟩, trivial⟩, rfl, trivial⟩⟩
      · repeat' (first | exact trivial | exact rfl | refine And.intro ?_ ?_)
      · repeat' (first | exact trivial | exact rfl | exact List.Perm.refl _ | (intro i hi; exact ⟨rfl, rfl⟩) | refine And.intro ?_ ?_)
end Go.X.Ps
end
