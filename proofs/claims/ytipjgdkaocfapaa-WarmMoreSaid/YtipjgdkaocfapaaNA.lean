/- Contracts of functions of the package warm and of its document, for every input. -/
import Derived.Test.YtipjgdkaocfapaaMD

section
set_option linter.unusedVariables false
set_option linter.unusedSimpArgs false
set_option linter.unusedSectionVars false
/- Warm: the small functions of the package and of its document. -/
set_option linter.unusedVariables false
set_option linter.unusedSimpArgs false
set_option maxRecDepth 10000
set_option maxHeartbeats 1000000
namespace Go.X.W
open Go Go.Proofs Go.X

noncomputable abbrev P : Program := Try.prog
def pl : List Nat := [24, 41, 90]
theorem pl_ok : PlainOk P pl := by
  intro t ht
  simp only [pl, List.mem_cons, List.not_mem_nil, or_false] at ht
  rcases ht with rfl | rfl | rfl
  · exact ⟨by kernel_rfl, by kernel_rfl, by decide⟩
  · exact ⟨by kernel_rfl, by kernel_rfl, by decide⟩
  · exact ⟨by kernel_rfl, by kernel_rfl, by decide⟩
noncomputable abbrev T : Tab := tabP P pl
theorem fol : P.follows .mixedOrders = true := by kernel_rfl
theorem good0 : Good P T [] := ⟨tabP_ok pl_ok, fun p h => by cases h⟩

def code (f : Func) : Code := match f.body with
  | some c => c
  | none => .skip

/-! ### within, in -/
def inB (n lo hi : Int) : Bool := decide (lo ≤ n) && decide (n ≤ hi)
def c66 : Ct := plainCt fun
  | [.si .i64 a, .si .i64 b, .si .i64 c] => some ⟨none, none, .sb (inB a b c), []⟩
  | _ => none
theorem k66 {l : List (Nat × Ct)} (g : Good P T l) : COk P 66 c66 := cok (C := tabC l) g.ok Try.func66 (c := code Try.f66) rfl fun fr args H out h hp => by
  simp only [c66, plainCt] at h
  split at h
  · cases h
    refine walk_plain rfl (Nat.le_of_ble_eq_true rfl) fun G hG => ?_
    refine ⟨.inl rfl, end_plain rfl rfl rfl⟩
  · cases h
theorem g66 {l : List (Nat × Ct)} (g : Good P T l) : Good P T ((66, c66) :: l) := g.add (k66 g) (plainCt_mono _) (body_of Try.func66 (c := code Try.f66) rfl (by decide))
theorem k54 {l : List (Nat × Ct)} (g : Good P T l) : COk P 54 c66 := cok (C := tabC l) g.ok Try.func54 (c := code Try.f54) rfl fun fr args H out h hp => by
  simp only [c66, plainCt] at h
  split at h
  · cases h
    refine walk_plain rfl (Nat.le_of_ble_eq_true rfl) fun G hG => ?_
    refine ⟨.inl rfl, end_plain rfl rfl rfl⟩
  · cases h
theorem g54 {l : List (Nat × Ct)} (g : Good P T l) : Good P T ((54, c66) :: l) := g.add (k54 g) (plainCt_mono _) (body_of Try.func54 (c := code Try.f54) rfl (by decide))

/-! ### isSpan, span -/
def spanB (a b lo hi wide : Int) : Bool := decide (lo ≤ a) && decide (a ≤ b) && decide (b ≤ hi) && decide (b - a ≤ wide)
def c99 : Ct := plainCt fun
  | [.agg [.si .i64 a, .si .i64 b], .si .i64 lo, .si .i64 hi, .si .i64 wide] => some ⟨some (-1000000 ≤ lo ∧ hi ≤ 1000000), none, .sb (spanB a b lo hi wide), []⟩
  | _ => none
theorem k99 {l : List (Nat × Ct)} (g : Good P T l) : COk P 99 c99 := cok (C := tabC l) g.ok Try.func99 (c := code Try.f99) rfl fun fr args H out h hp => by
  simp only [c99, plainCt] at h
  split at h
  · rename_i a b lo hi wide
    cases h
    obtain ⟨h1, h2⟩ : -1000000 ≤ lo ∧ hi ≤ 1000000 := hp
    refine walk_plain rfl (Nat.le_of_ble_eq_true rfl) fun G hG => ?_
    refine Chk.mk (fun h => ?_) ⟨.inl rfl, end_plain rfl rfl rfl⟩
    have h : (decide (lo ≤ a) && decide (a ≤ b) && decide (b ≤ hi)) = true := h
    simp only [Bool.and_eq_true, decide_eq_true_eq] at h
    show _ ≤ b - a ∧ b - a ≤ _
    omega
  · cases h
theorem g99 {l : List (Nat × Ct)} (g : Good P T l) : Good P T ((99, c99) :: l) := g.add (k99 g) (plainCt_mono _) (body_of Try.func99 (c := code Try.f99) rfl (by decide))
theorem k55 {l : List (Nat × Ct)} (g : Good P T l) : COk P 55 c99 := cok (C := tabC l) g.ok Try.func55 (c := code Try.f55) rfl fun fr args H out h hp => by
  simp only [c99, plainCt] at h
  split at h
  · rename_i a b lo hi wide
    cases h
    obtain ⟨h1, h2⟩ : -1000000 ≤ lo ∧ hi ≤ 1000000 := hp
    refine walk_plain rfl (Nat.le_of_ble_eq_true rfl) fun G hG => ?_
    refine Chk.mk (fun h => ?_) ⟨.inl rfl, end_plain rfl rfl rfl⟩
    have h : (decide (lo ≤ a) && decide (a ≤ b) && decide (b ≤ hi)) = true := h
    simp only [Bool.and_eq_true, decide_eq_true_eq] at h
    show _ ≤ b - a ∧ b - a ≤ _
    omega
  · cases h
theorem g55 {l : List (Nat × Ct)} (g : Good P T l) : Good P T ((55, c99) :: l) := g.add (k55 g) (plainCt_mono _) (body_of Try.func55 (c := code Try.f55) rfl (by decide))

/-! ### ask, answer -/
def refP (e : Int) : List PanicEntry := [{ v := .iface 142 (.int .i64 e), recovered := false }]
def c95 : Ct := plainCt fun
  | [.sb b, .si .i64 e] => some ⟨none, some (!b, refP e), .tup [], []⟩
  | _ => none
theorem k95 {l : List (Nat × Ct)} (g : Good P T l) : COk P 95 c95 := by
  refine cok (C := tabC _) g.ok Try.func95 (c := code Try.f95) rfl fun fr args H out h hp => ?_
  simp only [c95, plainCt] at h
  split at h
  · rename_i b e
    cases h
    refine walk_plain rfl (Nat.le_of_ble_eq_true rfl) fun G hG => ?_
    refine Br.mk (fun h => ?_) (fun h => ?_)
    · refine fb_panic cont_std rfl rfl rfl ?_
      exact ⟨by rw [h]; rfl, trivial⟩
    · exact ⟨.inr ⟨_, by rw [h]⟩, end_plain trivial rfl rfl⟩
  · cases h
theorem g95 {l : List (Nat × Ct)} (g : Good P T l) : Good P T ((95, c95) :: l) := g.add (k95 g) (plainCt_mono _) (body_of Try.func95 (c := code Try.f95) rfl (by decide))
theorem answer_ok : AnswerOk P 56 142 44 := by
  refine answer_of (T := T) (tabP_ok pl_ok) Try.func56 rfl (by decide) rfl rfl rfl rfl rfl rfl rfl rfl (by decide) (by decide) (by decide) (by decide) (by decide) ?_ ?_
  · intro x G hG
    refine Br.mk (fun h => by cases h) (fun _ => rfl)
  · intro x k m G hG
    refine Br.mk (fun _ => ?_) (fun h => by cases h)
    refine Br.mk (fun h => by cases h) (fun _ => rfl)
end Go.X.W
end

section
set_option linter.unusedVariables false
set_option linter.unusedSimpArgs false
set_option linter.unusedSectionVars false
/- Warm: what a pair shows. -/
set_option linter.unusedVariables false
set_option linter.unusedSimpArgs false
set_option maxRecDepth 10000
set_option maxHeartbeats 1000000
namespace Go.X.W
open Go Go.Proofs Go.X

/-! ### Numbers that are small -/
def smB (k x : Int) : Prop := -k ≤ x ∧ x ≤ k
theorem mul_sm {x y k m : Int} (hx : smB k x) (hy : smB m y) (hk : 0 ≤ k) (hm : 0 ≤ m) : smB (k * m) (x * y) := by
  unfold smB at *
  have h1 : x * y ≤ k * m ∧ -(k * m) ≤ x * y := by
    rcases Int.le_total 0 x with h0 | h0 <;> rcases Int.le_total 0 y with g0 | g0
    · have a1 := Int.mul_le_mul hx.2 hy.2 g0 hk
      have a2 := Int.mul_nonneg h0 g0
      have a3 := Int.mul_nonneg hk hm
      omega
    · have a1 := Int.mul_le_mul hx.2 (show -y ≤ m by omega) (by omega) hk
      have a2 := Int.mul_nonneg h0 (show 0 ≤ -y by omega)
      have a3 := Int.mul_nonneg hk hm
      rw [Int.mul_neg] at a1 a2
      omega
    · have a1 := Int.mul_le_mul (show -x ≤ k by omega) hy.2 g0 hk
      have a2 := Int.mul_nonneg (show 0 ≤ -x by omega) g0
      have a3 := Int.mul_nonneg hk hm
      rw [Int.neg_mul] at a1 a2
      omega
    · have a1 := Int.mul_le_mul (show -x ≤ k by omega) (show -y ≤ m by omega) (by omega) hk
      have a2 := Int.mul_nonneg (show 0 ≤ -x by omega) (show 0 ≤ -y by omega)
      have a3 := Int.mul_nonneg hk hm
      rw [Int.neg_mul_neg] at a1 a2
      omega
  omega

/-! ### product, of three -/
def prod3 (a b c : Int) : Nat → Int
  | 0 => 1
  | 1 => a
  | 2 => a * b
  | _ => a * b * c
def at3 (a b c : Int) : Nat → Int
  | 0 => a
  | 1 => b
  | _ => c
def c104 : Ct := fun _ args H => match args with
  | [.sl id] => (match sliceOf 1 H id with
    | some (3, get) => (match get 0, get 1, get 2 with
      | [.si .i64 a], [.si .i64 b], [.si .i64 c] => some ⟨some (smB 1000 a ∧ smB 1000 b ∧ smB 1000 c), none, .si .i64 (a * b * c), []⟩
      | _, _, _ => none)
    | _ => none)
  | _ => none
theorem c104_mono : CtMono c104 := by
  intro fr args H H' out hH h
  unfold c104 at h ⊢
  split at h
  · split at h
    · rename_i e
      simp only [sliceOf_mono hH e]
      exact h
    · cases h
  · cases h
theorem k104 {l : List (Nat × Ct)} (g : Good P T l) : COk P 104 c104 := by
  refine cok (C := tabC _) g.ok Try.func104 (c := code Try.f104) rfl fun fr args H out h hp => ?_
  unfold c104 at h
  split at h
  · rename_i id
    split at h
    · rename_i get e
      split at h
      · rename_i a b c e0 e1 e2
        cases h
        obtain ⟨ha, hb, hc⟩ : smB 1000 a ∧ smB 1000 b ∧ smB 1000 c := hp
        have hab := mul_sm ha hb (by decide) (by decide)
        have habc := mul_sm hab hc (by decide) (by decide)
        unfold smB at ha hb hc hab habc
        have hh : Hand H [(id, .ro 1 3 fun i => [.si .i64 (at3 a b c i)])] := hand_one e (fun i => rfl) (fun i hi => by
          rcases (show i = 0 ∨ i = 1 ∨ i = 2 by omega) with rfl | rfl | rfl
          · exact e0.symm
          · exact e1.symm
          · exact e2.symm)
        refine ⟨_, [.sl 0], [(0, .ro 1 3 fun i => [.si .i64 (at3 a b c i)])], 1, [], rfl, rfl, Nat.le_of_ble_eq_true rfl, hh, rfl, rfl, fun G hG => ?_⟩
        refine loop_ok (g.ok _ _ _) (fun x : {i : Nat // i ≤ 3} => ⟨[(0, ⟨[], .sl 0⟩), (3, ⟨[], .si .i64 (prod3 a b c x.1)⟩), (6, ⟨[], .sl 0⟩), (7, ⟨[], .si .i64 3⟩), (8, ⟨[], .si .i64 x.1⟩)], [],
          [(0, .ro 1 3 fun i => [.si .i64 (at3 a b c i)])], 1, []⟩) (fun x => 3 - x.1) (fun _ j hj => hG j hj) ⟨0, Nat.zero_le _⟩ ?_ ?_
        · refine ⟨?_, ?_, rfl, rfl, rfl⟩ <;> repeat' (first | exact trivial | exact rfl | (intro i hi; exact rfl) | refine And.intro ?_ ?_)
        · rintro ⟨i, hi⟩
          refine Br.mk (fun h => ?_) (fun h => ?_)
          · have h : (i : Int) < 3 := of_decide_eq_true h
            have key : ∀ (v w : Int), (i = 0 ∧ v = a ∨ i = 1 ∧ v = b ∨ i = 2 ∧ v = c) → prod3 a b c i * v = prod3 a b c (i + 1) ∧ InK .i64 (prod3 a b c i * v) := by
              rintro v w (⟨rfl, rfl⟩ | ⟨rfl, rfl⟩ | ⟨rfl, rfl⟩)
              · have : prod3 v b c 0 * v = v := Int.one_mul _
                exact ⟨this, by rw [this]; exact ⟨by omega, by omega⟩⟩
              · exact ⟨rfl, ⟨show _ ≤ a * v by omega, show a * v ≤ _ by omega⟩⟩
              · exact ⟨rfl, ⟨show _ ≤ a * b * v by omega, show a * b * v ≤ _ by omega⟩⟩
            refine Chk.mk (show (0 : Int) ≤ (i : Int) ∧ (i : Int) < ((3 : Nat) : Int) from ⟨by omega, by omega⟩) ?_
            obtain ⟨k1, k2⟩ := key (at3 a b c i) 0 (by
              rcases (show i = 0 ∨ i = 1 ∨ i = 2 by omega) with rfl | rfl | rfl
              · exact .inl ⟨rfl, rfl⟩
              · exact .inr (.inl ⟨rfl, rfl⟩)
              · exact .inr (.inr ⟨rfl, rfl⟩))
            refine Chk.mk k2 (Chk.mk (show InK .i64 ((i : Int) + 1) from ⟨by omega, by omega⟩) ⟨⟨i + 1, by omega⟩, ?_, by show 3 - (i + 1) < 3 - i; omega⟩)
            refine ⟨?_, ?_, rfl, rfl, rfl⟩
            · repeat' (first | exact trivial | exact rfl | refine And.intro ?_ ?_)
              exact k1
            · repeat' (first | exact trivial | exact rfl | (intro i hi; exact rfl) | refine And.intro ?_ ?_)
          · have h : ¬ (i : Int) < 3 := of_decide_eq_false h
            have hi3 : i = 3 := by omega
            subst hi3
            exact ⟨.inl rfl, end_noid ⟨rfl, rfl⟩ rfl rfl ⟨trivial, trivial⟩⟩
      · cases h
    · cases h
  · cases h
theorem g104 {l : List (Nat × Ct)} (g : Good P T l) : Good P T ((104, c104) :: l) := g.add (k104 g) c104_mono (body_of Try.func104 (c := code Try.f104) rfl (by decide))

/-! ### grows, shows, Show -/
/-- By how much longer a block is; what it shows. -/
def growV (mk a t : Int) : Int := mk * a * t / 10
def showV (mk : Int) (p : Int × Int) (t : Int) : Int := p.1 + growV mk p.2 t
theorem quo_floor (n : Int) : (if n.tmod 10 < 0 then n.tdiv 10 - 1 else n.tdiv 10) = n / 10 := by
  rcases Int.le_total 0 n with h | h
  · rw [Int.tdiv_eq_ediv_of_nonneg h, Int.tmod_eq_emod_of_nonneg h]
    split <;> omega
  · obtain ⟨m, rfl⟩ : ∃ m, n = -m := ⟨-n, by omega⟩
    have hm : 0 ≤ m := by omega
    rw [Int.neg_tdiv, Int.neg_tmod, Int.tdiv_eq_ediv_of_nonneg hm, Int.tmod_eq_emod_of_nonneg hm]
    split <;> omega
theorem tdiv_sm {n k : Int} (h : smB k n) : smB k (n.tdiv 10) := by
  unfold smB at *
  rcases Int.le_total 0 n with h | h
  · rw [Int.tdiv_eq_ediv_of_nonneg h]; omega
  · obtain ⟨m, rfl⟩ : ∃ m, n = -m := ⟨-n, by omega⟩
    have hm : 0 ≤ m := by omega
    rw [Int.neg_tdiv, Int.tdiv_eq_ediv_of_nonneg hm]; omega
theorem growV_le {mk a t : Int} (h1 : smB 1000 mk) (h2 : smB 1000 a) (h3 : smB 1000 t) : smB 1000000000 (mk * a * t) ∧ smB 100000000 (growV mk a t) := by
  have h := mul_sm (mul_sm h1 h2 (by decide) (by decide)) h3 (by decide) (by decide)
  unfold growV
  unfold smB at *
  omega
def c68 : Ct := plainCt fun
  | [.agg [.si .i64 n, .si .i64 a], .si .i64 mk, .si .i64 t] => some ⟨some (smB 1000 mk ∧ smB 1000 a ∧ smB 1000 t), none, .si .i64 (growV mk a t), []⟩
  | _ => none
theorem k68 {l : List (Nat × Ct)} (g0 : Good P T l) : COk P 68 c68 := by
  have g := g104 g0
  refine cok (C := tabC _) g.ok Try.func68 (c := code Try.f68) rfl fun fr args H out h hp => ?_
  simp only [c68, plainCt] at h
  split at h
  · rename_i n a mk t
    cases h
    obtain ⟨h1, h2, h3⟩ : smB 1000 mk ∧ smB 1000 a ∧ smB 1000 t := hp
    obtain ⟨hb, -⟩ := growV_le h1 h2 h3
    have hd := tdiv_sm hb
    unfold smB at hb hd
    have hq := quo_floor (mk * a * t)
    refine walk_plain rfl (Nat.le_of_ble_eq_true rfl) fun G hG => ?_
    refine Chk.mk ⟨h1, h2, h3⟩ ?_
    refine Chk.mk (show (10 : Int) ≠ 0 ∧ _ ≤ (mk * a * t).tdiv 10 ∧ (mk * a * t).tdiv 10 ≤ _ from ⟨by decide, by omega, by omega⟩) ?_
    refine Chk.mk (show (10 : Int) ≠ 0 by decide) ?_
    refine Br.mk (fun h => ?_) (fun h => ?_)
    · have h : (mk * a * t).tmod 10 < 0 := of_decide_eq_true h
      rw [if_pos h] at hq
      refine Chk.mk (show _ ≤ (mk * a * t).tdiv 10 - 1 ∧ (mk * a * t).tdiv 10 - 1 ≤ _ from ⟨by omega, by omega⟩) ⟨.inl rfl, end_plain ⟨rfl, hq⟩ rfl rfl⟩
    · have h : ¬ (mk * a * t).tmod 10 < 0 := of_decide_eq_false h
      rw [if_neg h] at hq
      exact ⟨.inl rfl, end_plain ⟨rfl, hq⟩ rfl rfl⟩
  · cases h
theorem g68 {l : List (Nat × Ct)} (g : Good P T l) : Good P T ((68, c68) :: l) := g.add (k68 g) (plainCt_mono _) (body_of Try.func68 (c := code Try.f68) rfl (by decide))

def c81 : Ct := plainCt fun
  | [.agg [.si .i64 n, .si .i64 a], .si .i64 mk, .si .i64 t] => some ⟨some (smB 1000000 n ∧ smB 1000 mk ∧ smB 1000 a ∧ smB 1000 t), none, .si .i64 (showV mk (n, a) t), []⟩
  | _ => none
theorem k81 {l : List (Nat × Ct)} (g0 : Good P T l) : COk P 81 c81 := by
  have g := g68 g0
  refine cok (C := tabC _) g.ok Try.func81 (c := code Try.f81) rfl fun fr args H out h hp => ?_
  simp only [c81, plainCt] at h
  split at h
  · rename_i n a mk t
    cases h
    obtain ⟨h0, h1, h2, h3⟩ : smB 1000000 n ∧ smB 1000 mk ∧ smB 1000 a ∧ smB 1000 t := hp
    obtain ⟨-, hb⟩ := growV_le h1 h2 h3
    unfold smB at hb h0
    refine walk_plain rfl (Nat.le_of_ble_eq_true rfl) fun G hG => ?_
    refine drawn_ok (g.ok _ _ _) fol [0,1,0,0,0,28,63,127] [] 8 (by kernel_rfl) ?_
    refine Chk.mk ⟨h1, h2, h3⟩ ?_
    refine Chk.mk (show _ ≤ n + growV mk a t ∧ n + growV mk a t ≤ _ from ⟨by omega, by omega⟩) ⟨.inl rfl, end_plain ⟨rfl, rfl⟩ rfl rfl⟩
  · cases h
theorem g81 {l : List (Nat × Ct)} (g : Good P T l) : Good P T ((81, c81) :: l) := g.add (k81 g) (plainCt_mono _) (body_of Try.func81 (c := code Try.f81) rfl (by decide))
end Go.X.W
end

section
set_option linter.unusedVariables false
set_option linter.unusedSimpArgs false
set_option linter.unusedSectionVars false
/- Warm: powers of two, sets, and contracts of functions of a block. -/
set_option linter.unusedVariables false
set_option linter.unusedSimpArgs false
set_option maxRecDepth 10000
set_option maxHeartbeats 1000000
namespace Go.X.W
open Go Go.Proofs Go.X

/-!  power -/
def c111 : Ct := plainCt fun
  | [.si .i64 n] => some ⟨some (n ≤ 62), none, .si .i64 (2 ^ n.toNat), []⟩
  | _ => none
theorem pow_le {n : Nat} (h : n ≤ 62) : (0 : Int) < 2 ^ n ∧ (2 : Int) ^ n ≤ 4611686018427387904 := by
  constructor
  · exact Int.pow_pos (by decide)
  · have : (2 : Nat) ^ n ≤ 2 ^ 62 := Nat.pow_le_pow_right (by decide) h
    have h2 : ((2 ^ n : Nat) : Int) ≤ ((2 ^ 62 : Nat) : Int) := by exact_mod_cast this
    rw [Int.natCast_pow] at h2
    exact h2
theorem k111 {l : List (Nat × Ct)} (g : Good P T l) : COk P 111 c111 := cok (C := tabC l) g.ok Try.func111 (c := code Try.f111) rfl fun fr args H out h hp => by
  simp only [c111, plainCt] at h
  split at h
  · rename_i n
    cases h
    have hp : n ≤ 62 := hp
    refine walk_plain rfl (Nat.le_of_ble_eq_true rfl) fun G hG => ?_
    refine loop_ok (g.ok _ _ _) (fun x : {i : Nat // i ≤ n.toNat} => ⟨[(0, ⟨[], .si .i64 n⟩), (3, ⟨[], .si .i64 (2 ^ x.1)⟩), (4, ⟨[], .si .i64 x.1⟩)], [], [], 0, []⟩) (fun x => n.toNat - x.1) (fun _ => hG) ⟨0, Nat.zero_le _⟩ ?_ ?_
    · refine ⟨?_, ?_, rfl, rfl, rfl⟩ <;> repeat' (first | exact trivial | exact rfl | refine And.intro ?_ ?_)
    · rintro ⟨i, hi⟩
      refine Br.mk (fun h => ?_) (fun h => ?_)
      · have h : (i : Int) < n := of_decide_eq_true h
        have := pow_le (n := i) (by omega)
        refine Chk.mk (show _ ∧ _ from ?_) (Chk.mk (show _ ∧ _ from ?_) ⟨⟨i + 1, by omega⟩, ?_, ?_⟩)
        · show _ ≤ (2 : Int) * 2 ^ i ∧ (2 : Int) * 2 ^ i ≤ _
          have h2 := pow_le (n := i + 1) (by omega)
          rw [Int.pow_succ] at h2
          omega
        · show _ ≤ (i : Int) + 1 ∧ (i : Int) + 1 ≤ _
          omega
        · refine ⟨?_, ?_, rfl, rfl, rfl⟩ <;> repeat' (first | exact trivial | exact rfl | refine And.intro ?_ ?_)
          show (2 : Int) * 2 ^ i = 2 ^ (i + 1)
          rw [Int.pow_succ]; omega
        · show n.toNat - (i + 1) < n.toNat - i
          omega
      · have h : ¬ (i : Int) < n := of_decide_eq_false h
        refine ⟨.inl rfl, end_plain ⟨rfl, ?_⟩ rfl rfl⟩
        show (2 : Int) ^ i = 2 ^ n.toNat
        rw [show i = n.toNat by omega]
  · cases h

/-!  Has, Size -/
theorem g111 {l : List (Nat × Ct)} (g : Good P T l) : Good P T ((111, c111) :: l) := g.add (k111 g) (plainCt_mono _) (body_of Try.func111 (c := code Try.f111) rfl (by decide))

def c112 : Ct := plainCt fun
  | [.si .i64 x, .si .i64 n] => some ⟨some (n ≤ 62 ∧ 0 ≤ x ∧ x < 4611686018427387904), none, .sb (decide ((x.tdiv (2 ^ n.toNat)).tmod 2 = 1)), []⟩
  | _ => none
theorem k112 {l : List (Nat × Ct)} (g0 : Good P T l) : COk P 112 c112 := by
  have g := g111 g0
  refine cok (C := tabC _) g.ok Try.func112 (c := code Try.f112) rfl fun fr args H out h hp => ?_
  simp only [c112, plainCt] at h
  split at h
  · rename_i x n
    cases h
    obtain ⟨hn, hx, hx'⟩ : n ≤ 62 ∧ 0 ≤ x ∧ x < 4611686018427387904 := hp
    refine walk_plain rfl (Nat.le_of_ble_eq_true rfl) fun G hG => ?_
    have hpw := pow_le (n := n.toNat) (by omega)
    refine Chk.mk hn (Chk.mk (show _ ∧ _ from ⟨?_, ?_⟩) (Chk.mk ?_ ⟨.inl rfl, end_plain rfl rfl rfl⟩))
    · show (2 : Int) ^ n.toNat ≠ 0
      omega
    · show _ ≤ x.tdiv (2 ^ n.toNat) ∧ x.tdiv (2 ^ n.toNat) ≤ _
      rw [Int.tdiv_eq_ediv_of_nonneg hx]
      have h1 : 0 ≤ x / 2 ^ n.toNat := Int.ediv_nonneg hx (by omega)
      have h2 : x / 2 ^ n.toNat ≤ x := Int.ediv_le_self _ hx
      omega
    · show (2 : Int) ≠ 0
      decide
  · cases h

/-- How many bits. -/
def sizeN : Nat → Nat
  | 0 => 0
  | n + 1 => (n + 1) % 2 + sizeN ((n + 1) / 2)
decreasing_by omega
theorem sizeN_pos {n : Nat} (h : 0 < n) : sizeN n = n % 2 + sizeN (n / 2) := by
  obtain ⟨m, rfl⟩ : ∃ m, n = m + 1 := ⟨n - 1, by omega⟩
  rw [sizeN]
theorem sizeN_le (n : Nat) : sizeN n ≤ n := by
  induction n using Nat.strongRecOn with
  | _ n ih =>
    rcases Nat.eq_zero_or_pos n with rfl | h
    · simp [sizeN]
    · rw [sizeN_pos h]
      have := ih (n / 2) (by omega)
      omega

def c49 : Ct := plainCt fun
  | [.si .i64 x] => some ⟨some (x < 4611686018427387904), none, .si .i64 (sizeN x.toNat), []⟩
  | _ => none
theorem k49 {l : List (Nat × Ct)} (g : Good P T l) : COk P 49 c49 := cok (C := tabC l) g.ok Try.func49 (c := code Try.f49) rfl fun fr args H out h hp => by
  simp only [c49, plainCt] at h
  split at h
  · rename_i x
    cases h
    have hp : x < 4611686018427387904 := hp
    refine walk_plain rfl (Nat.le_of_ble_eq_true rfl) fun G hG => ?_
    refine loop_ok (g.ok _ _ _) (fun y : {y : Int × Int // y.1 ≤ x ∧ 0 ≤ y.2 ∧ y.2 + sizeN y.1.toNat = sizeN x.toNat} => ⟨[(0, ⟨[], .si .i64 y.1.1⟩), (3, ⟨[], .si .i64 y.1.2⟩)], [], [], 0, []⟩) (fun y => y.1.1.toNat) (fun _ => hG)
      ⟨(x, 0), by refine ⟨by omega, by omega, ?_⟩; simp⟩ ?_ ?_
    · refine ⟨?_, ?_, rfl, rfl, rfl⟩ <;> repeat' (first | exact trivial | exact rfl | refine And.intro ?_ ?_)
    · rintro ⟨⟨y, n⟩, h1, h2, h3⟩
      simp only at h1 h2 h3
      have hle := sizeN_le x.toNat
      refine Br.mk (fun h => ?_) (fun h => ?_)
      · have h : (0 : Int) < y := of_decide_eq_true h
        have e1 : y.tmod 2 = y % 2 := Int.tmod_eq_emod_of_nonneg (by omega)
        have e2 : y.tdiv 2 = y / 2 := Int.tdiv_eq_ediv_of_nonneg (by omega)
        have hs := sizeN_pos (n := y.toNat) (by omega)
        refine Chk.mk (show (2 : Int) ≠ 0 by decide) (Chk.mk (show _ ∧ _ from ?_) (Chk.mk (show _ ∧ _ from ⟨by decide, ?_⟩) ⟨⟨(y / 2, n + y % 2), ?_⟩, ?_, ?_⟩))
        · show _ ≤ n + y.tmod 2 ∧ n + y.tmod 2 ≤ _
          omega
        · show _ ≤ y.tdiv 2 ∧ y.tdiv 2 ≤ _
          omega
        · have e3 : (y / 2).toNat = y.toNat / 2 := by omega
          simp only [e3]
          omega
        · refine ⟨?_, ?_, rfl, rfl, rfl⟩ <;> repeat' (first | exact trivial | exact rfl | refine And.intro ?_ ?_)
          · exact e2
          · show n + y.tmod 2 = n + y % 2
            rw [e1]
        · show (y / 2).toNat < y.toNat
          omega
      · have h : ¬ (0 : Int) < y := of_decide_eq_false h
        refine ⟨.inl rfl, end_plain ⟨rfl, ?_⟩ rfl rfl⟩
        show n = sizeN x.toNat
        rw [show y.toNat = 0 by omega] at h3
        simp [sizeN] at h3
        omega
  · cases h


theorem g112 {l : List (Nat × Ct)} (g : Good P T l) : Good P T ((112, c112) :: l) := g.add (k112 g) (plainCt_mono _) (body_of Try.func112 (c := code Try.f112) rfl (by decide))
theorem g49 {l : List (Nat × Ct)} (g : Good P T l) : Good P T ((49, c49) :: l) := g.add (k49 g) (plainCt_mono _) (body_of Try.func49 (c := code Try.f49) rfl (by decide))

/-! ### Readings, and blocks -/
abbrev Rd := Int × Int × Int × Int
def rdC (r : Rd) : List SV := [.si .i64 r.1, .si .i64 r.2.1, .si .i64 r.2.2.1, .si .i64 r.2.2.2]
def rdAt (get : Nat → List SV) (i : Nat) : Rd := match get i with
  | [.si .i64 a, .si .i64 b, .si .i64 c, .si .i64 d] => (a, b, c, d)
  | _ => (0, 0, 0, 0)
def Rds (n : Nat) (get : Nat → List SV) : Prop := ∀ i, i < n → get i = rdC (rdAt get i)
def rdL (n : Nat) (get : Nat → List SV) : List Rd := (List.range n).map (rdAt get)
theorem rds_rd (n : Nat) (rd : Nat → Rd) : Rds n (fun i => rdC (rd i)) := fun i hi => rfl
structure Blk where
  mark : Int
  l1 : Int
  l2 : Int
  c1 : Int
  c2 : Int
  rs : List Rd
def wA (mk l1 l2 c1 c2 : Int) (id : Nat) : SV := .agg [.si .i64 mk, .si .i64 l1, .si .i64 l2, .si .i64 c1, .si .i64 c2, .sl id]

/-- A contract of a function of a block, and of more that holds no ids. -/
def wmCt (k : Blk → List SV → Option (Option Prop × SV)) : Ct := fun _ args H =>
  match args with
  | .agg [.si .i64 mk, .si .i64 l1, .si .i64 l2, .si .i64 c1, .si .i64 c2, .sl id] :: r => (match sliceOf 4 H id with
    | some (n, get) => (match k ⟨mk, l1, l2, c1, c2, rdL n get⟩ r with
      | some (p, v) => some ⟨some (Rds n get ∧ knL 0 [] r = true ∧ PreH p), none, v, []⟩
      | none => none)
    | none => none)
  | _ => none
theorem wmCt_mono (k : Blk → List SV → Option (Option Prop × SV)) : CtMono (wmCt k) := by
  intro fr args H H' out hH h
  unfold wmCt at h ⊢
  split at h
  · split at h
    · rename_i e
      simp only [sliceOf_mono hH e]
      exact h
    · cases h
  · cases h

theorem wmWalk {C : Nat → Option Ct} {fn : Func} {c : Code} {k : Blk → List SV → Option (Option Prop × SV)} {fr : Nat} {args : List SV} {H : LH} {out : COut} (ho : wmCt k fr args H = some out) (hp : PreH out.pre)
    (h : ∀ (mk l1 l2 c1 c2 : Int) (n : Nat) (rd : Nat → Rd) (r : List SV) (p : Option Prop) (v : SV) (Rv : SV → St → Prop) (Rp : List PanicEntry → St → Prop), k ⟨mk, l1, l2, c1, c2, (List.range n).map rd⟩ r = some (p, v) → PreH p →
      (∀ v' st, SVeq v' v → knSV 0 [] v' = true → Rv v' st) → r.length + 1 ≤ fn.ntmps ∧
      ∀ G : Base, (∀ j, 1 ≤ j → G.ρ j = none) → exec ⟨P, T, C, G, none, fn.ntmps⟩ c (start (wA mk l1 l2 c1 c2 0 :: r) [(0, .ro 4 n fun i => rdC (rd i))] 1) (Fin ⟨P, T, C, G, none, fn.ntmps⟩ fn.results.toList Rv Rp)) :
    Walk P T C fn c H args fr out := by
  unfold wmCt at ho
  split at ho
  · rename_i mk l1 l2 c1 c2 id r
    split at ho
    · rename_i n get e
      split at ho
      · rename_i p v hk
        cases ho
        obtain ⟨hs, hr, hp⟩ : Rds n get ∧ knL 0 [] r = true ∧ PreH p := hp
        have hh : Hand H [(id, .ro 4 n fun i => rdC (rdAt get i))] := hand_one e (fun i => rfl) (fun i hi => (hs i hi).symm)
        have h0 := h mk l1 l2 c1 c2 n (rdAt get) r p v (fun v' st => ((none : Option (Bool × List PanicEntry)) = none ∨ ∃ ch, (none : Option (Bool × List PanicEntry)) = some (false, ch)) ∧ EndOk [(id, .ro 4 n fun i => rdC (rdAt get i))] [] fr ⟨some (Rds n get ∧ knL 0 [] r = true ∧ PreH p), none, v, []⟩ v' st)
          (fun ch st => (none : Option (Bool × List PanicEntry)) = some (true, ch) ∧ keepP st.H [(0, .ro 4 n fun i => rdC (rdAt get i))]) hk hp
          (fun v' st h1 h2 => ⟨.inl rfl, end_noid h1 h2 rfl ⟨trivial, trivial⟩⟩)
        refine ⟨[(id, .ro 4 n fun i => rdC (rdAt get i))], wA mk l1 l2 c1 c2 0 :: r, [(0, .ro 4 n fun i => rdC (rdAt get i))], 1, [], ?_, ?_, h0.1, hh, rfl, rfl, h0.2⟩
        · show _ = renSV _ _ :: renL _ r
          rw [renL_none r hr]
          rfl
        · show (match knSV 1 [] (wA mk l1 l2 c1 c2 0) with
            | true => knL 1 [] r
            | false => false) = true
          exact knL_up r hr
      · cases ho
    · cases ho
  · cases ho
/-- The walk of one with a deferred answer. -/
theorem wmWalkD {C : Nat → Option Ct} {fn : Func} {c : Code} {k : Blk → List SV → Option (Option Prop × SV)} {fr : Nat} {args : List SV} {H : LH} {out : COut} (ho : wmCt k fr args H = some out) (hp : PreH out.pre)
    (h : ∀ (mk l1 l2 c1 c2 : Int) (n : Nat) (rd : Nat → Rd) (r : List SV) (p : Option Prop) (v : SV) (Rv : SV → St → Prop), k ⟨mk, l1, l2, c1, c2, (List.range n).map rd⟩ r = some (p, v) → PreH p →
      (∀ v' st, SVeq v' v → knSV 0 [] v' = true → Rv v' st) → r.length + 1 ≤ fn.ntmps ∧
      ∀ G : Base, (∀ j, 1 ≤ j → G.ρ j = none) → exec ⟨P, T, C, G, none, fn.ntmps⟩ c (start (wA mk l1 l2 c1 c2 0 :: r) [(0, .ro 4 n fun i => rdC (rd i))] 1) (FinDM ⟨P, T, C, G, none, fn.ntmps⟩ 56 142 44 fn.results.toList Rv)) :
    WalkDM P T C 56 142 44 fn c H args fr out := by
  unfold wmCt at ho
  split at ho
  · rename_i mk l1 l2 c1 c2 id r
    split at ho
    · rename_i n get e
      split at ho
      · rename_i p v hk
        cases ho
        obtain ⟨hs, hr, hp⟩ : Rds n get ∧ knL 0 [] r = true ∧ PreH p := hp
        have hh : Hand H [(id, .ro 4 n fun i => rdC (rdAt get i))] := hand_one e (fun i => rfl) (fun i hi => (hs i hi).symm)
        have h0 := h mk l1 l2 c1 c2 n (rdAt get) r p v (fun v' st => ((none : Option (Bool × List PanicEntry)) = none ∨ ∃ ch, (none : Option (Bool × List PanicEntry)) = some (false, ch)) ∧ EndOk [(id, .ro 4 n fun i => rdC (rdAt get i))] [] fr ⟨some (Rds n get ∧ knL 0 [] r = true ∧ PreH p), none, v, []⟩ v' st)
          hk hp
          (fun v' st h1 h2 => ⟨.inl rfl, end_noid h1 h2 rfl ⟨trivial, trivial⟩⟩)
        refine ⟨[(id, .ro 4 n fun i => rdC (rdAt get i))], wA mk l1 l2 c1 c2 0 :: r, [(0, .ro 4 n fun i => rdC (rdAt get i))], 1, [], ?_, ?_, h0.1, hh, rfl, rfl, h0.2⟩
        · show _ = renSV _ _ :: renL _ r
          rw [renL_none r hr]
          rfl
        · show (match knSV 1 [] (wA mk l1 l2 c1 c2 0) with
            | true => knL 1 [] r
            | false => false) = true
          exact knL_up r hr
      · cases ho
    · cases ho
  · cases ho
end Go.X.W
end

section
set_option linter.unusedVariables false
set_option linter.unusedSimpArgs false
set_option linter.unusedSectionVars false
/- Warm: what a block shows by the document, valid blocks, and small functions of the statements. -/
set_option linter.unusedVariables false
set_option linter.unusedSimpArgs false
set_option maxRecDepth 10000
set_option maxHeartbeats 1000000
namespace Go.X.W
open Go Go.Proofs Go.X

def c17 : Ct := wmCt fun B r => match r with
  | [.agg [.si .i64 n, .si .i64 a], .si .i64 t] => some (some (smB 1000000 n ∧ smB 1000 B.mark ∧ smB 1000 a ∧ smB 1000 t), .si .i64 (showV B.mark (n, a) t))
  | _ => none
theorem k17 {l : List (Nat × Ct)} (g : Good P T l) : COk P 17 c17 := by
  refine cok (C := tabC _) g.ok Try.func17 (c := code Try.f17) rfl fun fr args H out h hp => wmWalk h hp fun mk l1 l2 c1 c2 n rd r p v Rv Rp hk hp hR => ?_
  split at hk
  · rename_i x a t
    cases hk
    obtain ⟨h0, h1, h2, h3⟩ : smB 1000000 x ∧ smB 1000 mk ∧ smB 1000 a ∧ smB 1000 t := hp
    have hma := mul_sm h1 h2 (by decide) (by decide)
    obtain ⟨hb, hg⟩ := growV_le h1 h2 h3
    have hv : showV mk (x, a) t = x + mk * a * t / 10 := rfl
    unfold smB at hb hma h0
    refine ⟨Nat.le_of_ble_eq_true rfl, fun G hG => ?_⟩
    refine Chk.mk (show _ ≤ mk * a ∧ mk * a ≤ _ from ⟨by omega, by omega⟩) (Chk.mk (show _ ≤ mk * a * t ∧ mk * a * t ≤ _ from ⟨by omega, by omega⟩) ?_)
    refine Br.mk (fun h => ?_) (fun h => ?_)
    · have h : mk * a * t < 0 := of_decide_eq_true h
      have hd : (9 - mk * a * t).tdiv 10 = (9 - mk * a * t) / 10 := Int.tdiv_eq_ediv_of_nonneg (by omega)
      refine Chk.mk (show _ ≤ 9 - mk * a * t ∧ 9 - mk * a * t ≤ _ from ⟨by omega, by omega⟩) (Chk.mk (show (10 : Int) ≠ 0 ∧ _ ≤ (9 - mk * a * t).tdiv 10 ∧ (9 - mk * a * t).tdiv 10 ≤ _ from ⟨by decide, by omega, by omega⟩)
        (Chk.mk (show _ ≤ x - (9 - mk * a * t).tdiv 10 ∧ x - (9 - mk * a * t).tdiv 10 ≤ _ from ⟨by omega, by omega⟩) (hR _ _ ⟨rfl, ?_⟩ rfl)))
      show x - (9 - mk * a * t).tdiv 10 = showV mk (x, a) t
      omega
    · have h : ¬ mk * a * t < 0 := of_decide_eq_false h
      have hd : (mk * a * t).tdiv 10 = (mk * a * t) / 10 := Int.tdiv_eq_ediv_of_nonneg (by omega)
      refine Chk.mk (show (10 : Int) ≠ 0 ∧ _ ≤ (mk * a * t).tdiv 10 ∧ (mk * a * t).tdiv 10 ≤ _ from ⟨by decide, by omega, by omega⟩)
        (Chk.mk (show _ ≤ x + (mk * a * t).tdiv 10 ∧ x + (mk * a * t).tdiv 10 ≤ _ from ⟨by omega, by omega⟩) (hR _ _ ⟨rfl, ?_⟩ rfl))
      show x + (mk * a * t).tdiv 10 = showV mk (x, a) t
      omega
  · cases hk
theorem g17 {l : List (Nat × Ct)} (g : Good P T l) : Good P T ((17, c17) :: l) := g.add (k17 g) (wmCt_mono _) (body_of Try.func17 (c := code Try.f17) rfl (by decide))

/-! ### Valid blocks -/
def rdOk (r : Rd) : Bool := spanB r.1 r.2.1 (-100) 100 4 && spanB r.2.2.1 r.2.2.2 (-30000) 30000 60000
def headOk (mk l1 l2 c1 c2 : Int) (n : Nat) : Bool := inB mk 1 100 && spanB l1 l2 (-1000) 1000 24 && spanB c1 c2 0 20 3 && decide ((n : Int) ≤ 5)
def blkOk (B : Blk) : Bool := headOk B.mark B.l1 B.l2 B.c1 B.c2 B.rs.length && B.rs.all rdOk
theorem blkOk_eq (mk l1 l2 c1 c2 : Int) (n : Nat) (rd : Nat → Rd) : blkOk ⟨mk, l1, l2, c1, c2, (List.range n).map rd⟩ = (headOk mk l1 l2 c1 c2 n && (List.range n).all fun i => rdOk (rd i)) := by
  simp only [blkOk, List.length_map, List.length_range, List.all_map]
  rfl
theorem all_succ {q : Nat → Bool} {i : Nat} : (List.range (i + 1)).all q = ((List.range i).all q && q i) := by
  rw [List.range_succ, List.all_append]; simp
theorem all_false {q : Nat → Bool} {i n : Nat} (h : i < n) (hq : q i = false) : (List.range n).all q = false := by
  rw [List.all_eq_false]
  exact ⟨i, List.mem_range.2 h, by rw [hq]; exact Bool.false_ne_true⟩

def c16 : Ct := wmCt fun B r => match r with
  | [] => some (none, .sb (blkOk B))
  | _ => none
theorem k16 {l : List (Nat × Ct)} (g0 : Good P T l) : COk P 16 c16 := by
  have g := g55 (g54 g0)
  refine cok (C := tabC _) g.ok Try.func16 (c := code Try.f16) rfl fun fr args H out h hp => wmWalk h hp fun mk l1 l2 c1 c2 n rd r p v Rv Rp hk hp hR => ?_
  split at hk
  · cases hk
    rw [blkOk_eq] at hR
    refine ⟨Nat.le_of_ble_eq_true rfl, fun G hG => ?_⟩
    refine Chk.mk (fun _ => ⟨by decide, by decide⟩) (Chk.mk (fun _ => ⟨by decide, by decide⟩) ?_)
    refine Br.mk (fun h => ?_) (fun h => ?_)
    · have h : headOk mk l1 l2 c1 c2 n = false := by
        have h : (!inB mk 1 100 || !spanB l1 l2 (-1000) 1000 24 || !spanB c1 c2 0 20 3 || decide ((5 : Int) < (n : Int))) = true := h
        unfold headOk
        cases h1 : inB mk 1 100 <;> cases h2 : spanB l1 l2 (-1000) 1000 24 <;> cases h3 : spanB c1 c2 0 20 3 <;> simp [h1, h2, h3] at h ⊢
        omega
      rw [h] at hR
      exact hR _ _ rfl rfl
    · have h : headOk mk l1 l2 c1 c2 n = true := by
        have h : (!inB mk 1 100 || !spanB l1 l2 (-1000) 1000 24 || !spanB c1 c2 0 20 3 || decide ((5 : Int) < (n : Int))) = false := h
        unfold headOk
        cases h1 : inB mk 1 100 <;> cases h2 : spanB l1 l2 (-1000) 1000 24 <;> cases h3 : spanB c1 c2 0 20 3 <;> simp [h1, h2, h3] at h ⊢
        omega
      rw [h, Bool.true_and] at hR
      have hn : n ≤ 5 := by
        simp only [headOk, Bool.and_eq_true, decide_eq_true_eq] at h
        omega
      refine loop_ok (g.ok _ _ _) (fun x : {i : Nat // i ≤ n ∧ ((List.range i).all fun i => rdOk (rd i)) = true} => ⟨[(1, ⟨[], .sp 1 0⟩), (3, ⟨[], .si .i64 x.1⟩)], [],
        [(0, .ro 4 n fun i => rdC (rd i)), (1, .cells 36 [.si .i64 mk, .si .i64 l1, .si .i64 l2, .si .i64 c1, .si .i64 c2, .sl 0])], 2, []⟩) (fun x => n - x.1) (fun _ j hj => hG j (by have : 2 ≤ j := hj; omega)) ⟨0, Nat.zero_le _, rfl⟩ ?_ ?_
      · refine ⟨?_, ?_, rfl, rfl, rfl⟩ <;> repeat' (first | exact trivial | exact rfl | (intro i hi; exact rfl) | refine And.intro ?_ ?_)
      · rintro ⟨i, hi, hall⟩
        refine Br.mk (fun h => ?_) (fun h => ?_)
        · have h : (i : Int) < (n : Int) := of_decide_eq_true h
          refine Chk.mk (show (0 : Int) ≤ (i : Int) ∧ (i : Int) < (n : Int) from ⟨by omega, h⟩) (Chk.mk ⟨by decide, by decide⟩ (Chk.mk (fun _ => (show (0 : Int) ≤ (i : Int) ∧ (i : Int) < (n : Int) from ⟨by omega, h⟩)) (Chk.mk (fun _ => ⟨by decide, by decide⟩) ?_)))
          have hq : (!spanB (rd i).1 (rd i).2.1 (-100) 100 4 || !spanB (rd i).2.2.1 (rd i).2.2.2 (-30000) 30000 60000) = !rdOk (rd i) := by
            rw [rdOk, Bool.not_and]
          refine Br.mk (fun h2 => ?_) (fun h2 => ?_)
          · have h2 : (!spanB (rd i).1 (rd i).2.1 (-100) 100 4 || !spanB (rd i).2.2.1 (rd i).2.2.2 (-30000) 30000 60000) = true := h2
            rw [hq] at h2
            have := all_false (q := fun i => rdOk (rd i)) (i := i) (n := n) (by omega) (by simpa using h2)
            rw [this] at hR
            exact hR _ _ rfl rfl
          · have h2 : (!spanB (rd i).1 (rd i).2.1 (-100) 100 4 || !spanB (rd i).2.2.1 (rd i).2.2.2 (-30000) 30000 60000) = false := h2
            rw [hq] at h2
            refine Chk.mk (show InK .i64 ((i : Int) + 1) from ⟨by omega, by omega⟩) ⟨⟨i + 1, by omega, by rw [all_succ, hall]; simpa using h2⟩, ?_, by show n - (i + 1) < n - i; omega⟩
            refine ⟨?_, ?_, rfl, rfl, rfl⟩ <;> repeat' (first | exact trivial | exact rfl | (intro i hi; exact rfl) | refine And.intro ?_ ?_)
        · have h : ¬ (i : Int) < (n : Int) := of_decide_eq_false h
          have hin : i = n := by omega
          subst hin
          rw [hall] at hR
          exact hR _ _ rfl rfl
  · cases hk
theorem g16 {l : List (Nat × Ct)} (g : Good P T l) : Good P T ((16, c16) :: l) := g.add (k16 g) (wmCt_mono _) (body_of Try.func16 (c := code Try.f16) rfl (by decide))
end Go.X.W
end

section
set_option linter.unusedVariables false
set_option linter.unusedSimpArgs false
set_option linter.unusedSectionVars false
/- Warm: small functions of the document and of the statements. -/
set_option linter.unusedVariables false
set_option linter.unusedSimpArgs false
set_option maxRecDepth 10000
set_option maxHeartbeats 1000000
namespace Go.X.W
open Go Go.Proofs Go.X

def c77 : Ct := wmCt fun B r => match r with
  | [.si .i64 i] => some (some (B.rs.length ≤ 40), .sb (inB i 0 (B.rs.length - 1)))
  | _ => none
theorem k77 {l : List (Nat × Ct)} (g0 : Good P T l) : COk P 77 c77 := by
  have g := g54 g0
  refine cok (C := tabC _) g.ok Try.func77 (c := code Try.f77) rfl fun fr args H out h hp => wmWalk h hp fun mk l1 l2 c1 c2 n rd r p v Rv Rp hk hp hR => ?_
  split at hk
  · rename_i i
    cases hk
    have hp : ((List.range n).map rd).length ≤ 40 := hp
    have hl : ((List.range n).map rd).length = n := by simp
    rw [hl] at hp
    simp only [hl] at hR
    refine ⟨Nat.le_of_ble_eq_true rfl, fun G hG => ?_⟩
    exact Chk.mk (show InK .i64 ((n : Int) - 1) from ⟨by omega, by omega⟩) (hR _ _ rfl rfl)
  · cases hk
theorem g77 {l : List (Nat × Ct)} (g : Good P T l) : Good P T ((77, c77) :: l) := g.add (k77 g) (wmCt_mono _) (body_of Try.func77 (c := code Try.f77) rfl (by decide))

def c83 : Ct := plainCt fun
  | [.agg [.si .i64 a, .si .i64 b]] => some ⟨none, none, .sb (spanB a b (-100) 100 200), []⟩
  | _ => none
theorem k83 {l : List (Nat × Ct)} (g0 : Good P T l) : COk P 83 c83 := by
  have g := g55 g0
  refine cok (C := tabC _) g.ok Try.func83 (c := code Try.f83) rfl fun fr args H out h hp => ?_
  simp only [c83, plainCt] at h
  split at h
  · cases h
    refine walk_plain rfl (Nat.le_of_ble_eq_true rfl) fun G hG => ?_
    exact Chk.mk ⟨by decide, by decide⟩ ⟨.inl rfl, end_plain rfl rfl rfl⟩
  · cases h
theorem g83 {l : List (Nat × Ct)} (g : Good P T l) : Good P T ((83, c83) :: l) := g.add (k83 g) (plainCt_mono _) (body_of Try.func83 (c := code Try.f83) rfl (by decide))
theorem k79 {l : List (Nat × Ct)} (g0 : Good P T l) : COk P 79 c83 := by
  have g := g99 g0
  refine cok (C := tabC _) g.ok Try.func79 (c := code Try.f79) rfl fun fr args H out h hp => ?_
  simp only [c83, plainCt] at h
  split at h
  · cases h
    refine walk_plain rfl (Nat.le_of_ble_eq_true rfl) fun G hG => ?_
    exact Chk.mk ⟨by decide, by decide⟩ ⟨.inl rfl, end_plain rfl rfl rfl⟩
  · cases h
theorem g79 {l : List (Nat × Ct)} (g : Good P T l) : Good P T ((79, c83) :: l) := g.add (k79 g) (plainCt_mono _) (body_of Try.func79 (c := code Try.f79) rfl (by decide))

/-! ### every -/
def c96 : Ct := wmCt fun B r => match r with
  | [] => some (some (B.rs.length ≤ 40), .si .i64 (2 ^ B.rs.length - 1))
  | _ => none
theorem k96 {l : List (Nat × Ct)} (g0 : Good P T l) : COk P 96 c96 := by
  have g := g111 g0
  refine cok (C := tabC _) g.ok Try.func96 (c := code Try.f96) rfl fun fr args H out h hp => wmWalk h hp fun mk l1 l2 c1 c2 n rd r p v Rv Rp hk hp hR => ?_
  split at hk
  · cases hk
    have hp : ((List.range n).map rd).length ≤ 40 := hp
    have hl : ((List.range n).map rd).length = n := by simp
    rw [hl] at hp
    simp only [hl] at hR
    have hpw := pow_le (n := n) (by omega)
    refine ⟨Nat.le_of_ble_eq_true rfl, fun G hG => ?_⟩
    exact Chk.mk (show (n : Int) ≤ 62 by omega) (Chk.mk (show _ ≤ (2 : Int) ^ n - 1 ∧ (2 : Int) ^ n - 1 ≤ _ from ⟨by omega, by omega⟩) (hR _ _ ⟨rfl, rfl⟩ rfl))
  · cases hk
theorem g96 {l : List (Nat × Ct)} (g : Good P T l) : Good P T ((96, c96) :: l) := g.add (k96 g) (wmCt_mono _) (body_of Try.func96 (c := code Try.f96) rfl (by decide))

/-! ### far, fine -/
def c23 : Ct := wmCt fun B r => match r with
  | [.sv (.slice none 0 0)] => some (none, .sb (decide ((40 : Int) < max (B.rs.length : Int) 0)))
  | _ => none
theorem k23 {l : List (Nat × Ct)} (g : Good P T l) : COk P 23 c23 := by
  refine cok (C := tabC _) g.ok Try.func23 (c := code Try.f23) rfl fun fr args H out h hp => wmWalk h hp fun mk l1 l2 c1 c2 n rd r p v Rv Rp hk hp hR => ?_
  split at hk
  · cases hk
    have hl : ((List.range n).map rd).length = n := by simp
    simp only [hl] at hR
    exact ⟨Nat.le_of_ble_eq_true rfl, fun G hG => hR _ _ rfl rfl⟩
  · cases hk
theorem g23 {l : List (Nat × Ct)} (g : Good P T l) : Good P T ((23, c23) :: l) := g.add (k23 g) (wmCt_mono _) (body_of Try.func23 (c := code Try.f23) rfl (by decide))
def fineB (B : Blk) : Bool := decide (B.rs.length ≤ 40) && blkOk B
def c39 : Ct := wmCt fun B r => match r with
  | [] => some (none, .sb (fineB B))
  | _ => none
theorem k39 {l : List (Nat × Ct)} (g0 : Good P T l) : COk P 39 c39 := by
  have g := g16 (g23 g0)
  refine cok (C := tabC _) g.ok Try.func39 (c := code Try.f39) rfl fun fr args H out h hp => wmWalk h hp fun mk l1 l2 c1 c2 n rd r p v Rv Rp hk hp hR => ?_
  split at hk
  · cases hk
    refine ⟨Nat.le_of_ble_eq_true rfl, fun G hG => ?_⟩
    refine Chk.mk ⟨rds_rd _ _, rfl, trivial⟩ (Chk.mk (fun _ => ⟨rds_rd _ _, rfl, trivial⟩) (hR _ _ ?_ rfl))
    show ((!decide ((40 : Int) < max (((List.range n).map rd).length : Int) 0)) && blkOk ⟨mk, l1, l2, c1, c2, (List.range n).map rd⟩) = fineB ⟨mk, l1, l2, c1, c2, (List.range n).map rd⟩
    unfold fineB
    congr 1
    rw [← decide_not, decide_eq_decide]
    dsimp only
    omega
  · cases hk
theorem g39 {l : List (Nat × Ct)} (g : Good P T l) : Good P T ((39, c39) :: l) := g.add (k39 g) (wmCt_mono _) (body_of Try.func39 (c := code Try.f39) rfl (by decide))

/-! ### inside, span, shows, reading -/
def c41 : Ct := plainCt fun
  | [.si .i64 n, .agg [.si .i64 a, .si .i64 b]] => some ⟨none, none, .sb (inB n a b), []⟩
  | _ => none
theorem k41 {l : List (Nat × Ct)} (g : Good P T l) : COk P 41 c41 := by
  refine cok (C := tabC _) g.ok Try.func41 (c := code Try.f41) rfl fun fr args H out h hp => ?_
  simp only [c41, plainCt] at h
  split at h
  · cases h
    refine walk_plain rfl (Nat.le_of_ble_eq_true rfl) fun G hG => ?_
    exact ⟨.inl rfl, end_plain rfl rfl rfl⟩
  · cases h
theorem g41 {l : List (Nat × Ct)} (g : Good P T l) : Good P T ((41, c41) :: l) := g.add (k41 g) (plainCt_mono _) (body_of Try.func41 (c := code Try.f41) rfl (by decide))
def c42 : Ct := plainCt fun
  | [.si .i64 a, .si .i64 b] => some ⟨none, none, .agg [.si .i64 a, .si .i64 b], []⟩
  | _ => none
theorem k42 {l : List (Nat × Ct)} (g : Good P T l) : COk P 42 c42 := by
  refine cok (C := tabC _) g.ok Try.func42 (c := code Try.f42) rfl fun fr args H out h hp => ?_
  simp only [c42, plainCt] at h
  split at h
  · cases h
    refine walk_plain rfl (Nat.le_of_ble_eq_true rfl) fun G hG => ?_
    exact ⟨.inl rfl, end_plain ⟨⟨rfl, rfl⟩, ⟨rfl, rfl⟩, trivial⟩ rfl rfl⟩
  · cases h
theorem g42 {l : List (Nat × Ct)} (g : Good P T l) : Good P T ((42, c42) :: l) := g.add (k42 g) (plainCt_mono _) (body_of Try.func42 (c := code Try.f42) rfl (by decide))
def c70 : Ct := plainCt fun
  | [.si .i64 a, .si .i64 b, .si .i64 c, .si .i64 d] => some ⟨none, none, .agg (rdC (a, b, c, d)), []⟩
  | _ => none
theorem k70 {l : List (Nat × Ct)} (g0 : Good P T l) : COk P 70 c70 := by
  have g := g42 g0
  refine cok (C := tabC _) g.ok Try.func70 (c := code Try.f70) rfl fun fr args H out h hp => ?_
  simp only [c70, plainCt] at h
  split at h
  · cases h
    refine walk_plain rfl (Nat.le_of_ble_eq_true rfl) fun G hG => ?_
    exact ⟨.inl rfl, end_plain ⟨⟨rfl, rfl⟩, ⟨rfl, rfl⟩, ⟨rfl, rfl⟩, ⟨rfl, rfl⟩, trivial⟩ rfl rfl⟩
  · cases h
theorem g70 {l : List (Nat × Ct)} (g : Good P T l) : Good P T ((70, c70) :: l) := g.add (k70 g) (plainCt_mono _) (body_of Try.func70 (c := code Try.f70) rfl (by decide))
def c43 : Ct := plainCt fun
  | [.si .i64 mk, .si .i64 n, .si .i64 a, .si .i64 t] => some ⟨some (smB 1000000 n ∧ smB 1000 mk ∧ smB 1000 a ∧ smB 1000 t), none, .si .i64 (showV mk (n, a) t), []⟩
  | _ => none
theorem k43 {l : List (Nat × Ct)} (g : Good P T l) : COk P 43 c43 := by
  refine cok (C := tabC _) g.ok Try.func43 (c := code Try.f43) rfl fun fr args H out h hp => ?_
  simp only [c43, plainCt] at h
  split at h
  · rename_i mk n a t
    cases h
    obtain ⟨h0, h1, h2, h3⟩ : smB 1000000 n ∧ smB 1000 mk ∧ smB 1000 a ∧ smB 1000 t := hp
    have hma := mul_sm h1 h2 (by decide) (by decide)
    obtain ⟨hb, hg⟩ := growV_le h1 h2 h3
    have hv : showV mk (n, a) t = n + mk * a * t / 10 := rfl
    have hd := tdiv_sm hb
    have hq := quo_floor (mk * a * t)
    unfold smB at hb hma h0 hd
    refine walk_plain rfl (Nat.le_of_ble_eq_true rfl) fun G hG => ?_
    refine Chk.mk (show _ ≤ mk * a ∧ mk * a ≤ _ from ⟨by omega, by omega⟩) (Chk.mk (show _ ≤ mk * a * t ∧ mk * a * t ≤ _ from ⟨by omega, by omega⟩) ?_)
    refine Chk.mk (show (10 : Int) ≠ 0 ∧ _ ≤ (mk * a * t).tdiv 10 ∧ (mk * a * t).tdiv 10 ≤ _ from ⟨by decide, by omega, by omega⟩) ?_
    have hx : ∃ k : Nat, (mk * a * t).tdiv 10 = mk * a * t / 10 + k ∧ k ≤ 1 := by
      split at hq
      · exact ⟨1, by omega, by omega⟩
      · exact ⟨0, by omega, by omega⟩
    obtain ⟨k0, hk0, hk1⟩ := hx
    rw [hk0]
    generalize hM : mk * a * t = M at *
    refine loop_ok (g.ok _ _ _) (fun x : {k : Nat // k ≤ 1} => ⟨[(1, ⟨[], .si .i64 n⟩), (9, ⟨[], .si .i64 M⟩), (10, ⟨[], .si .i64 (M / 10 + (x.1 : Int))⟩)], [], [], 0, []⟩) (fun x => x.1) (fun _ => hG) ⟨k0, hk1⟩ ?_ ?_
    · refine ⟨?_, ?_, rfl, rfl, rfl⟩ <;> repeat' (first | exact trivial | exact rfl | refine And.intro ?_ ?_)
    · rintro ⟨k, hk⟩
      refine Chk.mk (show _ ≤ 10 * (M / 10 + (k : Int)) ∧ 10 * (M / 10 + (k : Int)) ≤ _ from ⟨by omega, by omega⟩) ?_
      refine Br.mk (fun h => ?_) (fun h => ?_)
      · have h : M < 10 * (M / 10 + (k : Int)) := of_decide_eq_true h
        have hk1 : k = 1 := by omega
        subst hk1
        refine Chk.mk (show _ ≤ M / 10 + ((1 : Nat) : Int) - 1 ∧ M / 10 + ((1 : Nat) : Int) - 1 ≤ _ from ⟨by omega, by omega⟩) ⟨⟨0, by omega⟩, ?_, by show 0 < 1; omega⟩
        refine ⟨?_, ?_, rfl, rfl, rfl⟩ <;> repeat' (first | exact trivial | exact rfl | refine And.intro ?_ ?_)
        show M / 10 + ((1 : Nat) : Int) - 1 = M / 10 + ((0 : Nat) : Int)
        omega
      · have h : ¬ M < 10 * (M / 10 + (k : Int)) := of_decide_eq_false h
        have hk0 : k = 0 := by omega
        subst hk0
        refine Chk.mk (show _ ≤ n + (M / 10 + ((0 : Nat) : Int)) ∧ n + (M / 10 + ((0 : Nat) : Int)) ≤ _ from ⟨by omega, by omega⟩) ⟨.inl rfl, end_plain ⟨rfl, ?_⟩ rfl rfl⟩
        show n + (M / 10 + ((0 : Nat) : Int)) = showV mk (n, a) t
        omega
  · cases h
theorem g43 {l : List (Nat × Ct)} (g : Good P T l) : Good P T ((43, c43) :: l) := g.add (k43 g) (plainCt_mono _) (body_of Try.func43 (c := code Try.f43) rfl (by decide))
end Go.X.W
end

section
set_option linter.unusedVariables false
set_option linter.unusedSimpArgs false
set_option linter.unusedSectionVars false
/- Warm: open; functions of a block that is looked at. -/
set_option linter.unusedVariables false
set_option linter.unusedSimpArgs false
set_option maxRecDepth 10000
set_option maxHeartbeats 1000000
namespace Go.X.W
open Go Go.Proofs Go.X

/-- The error of a block, of so many offers, and of what else is asked; 0: none. -/
def errV (B : Blk) (offers : Int) (is : Bool) : Int := if blkOk B = true then (if offers ≤ 6 then (if is = true then 0 else 2) else 3) else 1
theorem errV_zero {B : Blk} {o : Int} {is : Bool} (h : errV B o is = 0) : blkOk B = true ∧ o ≤ 6 ∧ is = true := by
  unfold errV at h
  split at h
  · rename_i h1
    split at h
    · rename_i h2
      split at h
      · rename_i h3; exact ⟨h1, h2, h3⟩
      · cases h
    · cases h
  · cases h
def bC (mk l1 l2 c1 c2 : Int) (id : Nat) : List SV := [.si .i64 mk, .si .i64 l1, .si .i64 l2, .si .i64 c1, .si .i64 c2, .sl id]
def c57 : Ct := fun fr args H =>
  match args with
  | [.agg [.si .i64 mk, .si .i64 l1, .si .i64 l2, .si .i64 c1, .si .i64 c2, .sl id], .si .i64 o, .sb is] => (match sliceOf 4 H id with
    | some (n, get) => some ⟨some (Rds n get), some (!decide (errV ⟨mk, l1, l2, c1, c2, rdL n get⟩ o is = 0), refP (errV ⟨mk, l1, l2, c1, c2, rdL n get⟩ o is)), .sp fr 0,
        [(fr, .cells 138 (bC mk l1 l2 c1 c2 id))]⟩
    | none => none)
  | _ => none
theorem c57_mono : CtMono c57 := by
  intro fr args H H' out hH h
  unfold c57 at h ⊢
  split at h
  · split at h
    · rename_i e
      simp only [sliceOf_mono hH e]
      exact h
    · cases h
  · cases h
theorem k57 {l : List (Nat × Ct)} (g0 : Good P T l) : COk P 57 c57 := by
  have g := g95 (g99 (g66 g0))
  refine cok (C := tabC _) g.ok Try.func57 (c := code Try.f57) rfl fun fr args H out h hp => ?_
  unfold c57 at h
  split at h
  · rename_i mk l1 l2 c1 c2 id o is
    split at h
    · rename_i n get e
      cases h
      have hs : Rds n get := hp
      have hh : Hand H [(id, .ro 4 n fun i => rdC (rdAt get i))] := hand_one e (fun i => rfl) (fun i hi => (hs i hi).symm)
      refine ⟨[(id, .ro 4 n fun i => rdC (rdAt get i))], [wA mk l1 l2 c1 c2 0, .si .i64 o, .sb is], [(0, .ro 4 n fun i => rdC (rdAt get i))], 1, [2], rfl, rfl, Nat.le_of_ble_eq_true rfl, hh, rfl, rfl, fun G hG => ?_⟩
      have hE : errV ⟨mk, l1, l2, c1, c2, rdL n get⟩ o is = if headOk mk l1 l2 c1 c2 n = true then (if (List.range n).all (fun i => rdOk (rdAt get i)) = true then (if o ≤ 6 then (if is = true then 0 else 2) else 3) else 1) else 1 := by
        have := blkOk_eq mk l1 l2 c1 c2 n (rdAt get)
        unfold errV
        rw [show rdL n get = (List.range n).map (rdAt get) from rfl, this]
        cases headOk mk l1 l2 c1 c2 n <;> simp
      generalize errV ⟨mk, l1, l2, c1, c2, rdL n get⟩ o is = E at hE
      generalize rdAt get = rd at hE
      refine Chk.mk (fun _ => ⟨by decide, by decide⟩) (Chk.mk (fun _ => ⟨by decide, by decide⟩) ?_)
      refine Br.mk (fun h => ?_) (fun h => ?_)
      · have h : (!headOk mk l1 l2 c1 c2 n) = true := h
        have h : headOk mk l1 l2 c1 c2 n = false := by simpa only [Bool.not_eq_true'] using h
        rw [h] at hE
        simp at hE
        subst hE
        exact ⟨rfl, trivial, trivial⟩
      · have h : (!headOk mk l1 l2 c1 c2 n) = false := h
        have h : headOk mk l1 l2 c1 c2 n = true := by simpa only [Bool.not_eq_false'] using h
        rw [h] at hE
        simp only [if_true] at hE
        have h5 : n ≤ 5 := by
          simp only [headOk, Bool.and_eq_true, decide_eq_true_eq] at h
          omega
        refine loop_ok (g.ok _ _ _) (fun x : {i : Nat // i ≤ n ∧ ((List.range i).all fun i => rdOk (rd i)) = true} => ⟨[(1, ⟨[], .si .i64 o⟩), (2, ⟨[], .sb is⟩), (3, ⟨[], .sp 1 0⟩), (30, ⟨[], .sl 0⟩), (31, ⟨[], .si .i64 n⟩), (32, ⟨[], .si .i64 x.1⟩)], [],
          [(0, .ro 4 n fun i => rdC (rd i)), (1, .cells 36 (bC mk l1 l2 c1 c2 0))], 2, []⟩) (fun x => n - x.1) (fun _ j hj => hG j (by have : 2 ≤ j := hj; omega)) ⟨0, Nat.zero_le _, rfl⟩ ?_ ?_
        · refine ⟨?_, ?_, rfl, rfl, rfl⟩ <;> repeat' (first | exact trivial | exact rfl | (intro i hi; exact rfl) | refine And.intro ?_ ?_)
        · rintro ⟨i, hi, hall⟩
          refine Br.mk (fun h1 => ?_) (fun h1 => ?_)
          · have h1 : (i : Int) < (n : Int) := of_decide_eq_true h1
            refine Chk.mk (show (0 : Int) ≤ (i : Int) ∧ (i : Int) < (n : Int) from ⟨by omega, h1⟩) (Chk.mk ⟨by decide, by decide⟩ (Chk.mk (fun _ => ⟨by decide, by decide⟩) ?_))
            refine Br.mk (fun h2 => ?_) (fun h2 => ?_)
            · have h2 : (!rdOk (rd i)) = true := h2
              have h3 := all_false (q := fun i => rdOk (rd i)) (i := i) (n := n) (by omega) (by simpa using h2)
              rw [h3] at hE
              simp at hE
              subst hE
              exact ⟨rfl, trivial, trivial⟩
            · have h2 : (!rdOk (rd i)) = false := h2
              refine Chk.mk (show InK .i64 ((i : Int) + 1) from ⟨by omega, by omega⟩) ⟨⟨i + 1, by omega, by rw [all_succ, hall]; simpa using h2⟩, ?_, by show n - (i + 1) < n - i; omega⟩
              refine ⟨?_, ?_, rfl, rfl, rfl⟩ <;> repeat' (first | exact trivial | exact rfl | (intro i hi; exact rfl) | refine And.intro ?_ ?_)
          · have h1 : ¬ (i : Int) < (n : Int) := of_decide_eq_false h1
            have hin' : i = n := by omega
            subst hin'
            rw [hall] at hE
            simp only [if_true] at hE
            refine Br.mk (fun h2 => ?_) (fun h2 => ?_)
            · have h2 : (!decide (o ≤ 6)) = true := h2
              have h2 : ¬ o ≤ 6 := by simpa using h2
              rw [if_neg h2] at hE
              subst hE
              exact ⟨rfl, trivial, trivial⟩
            · have h2 : (!decide (o ≤ 6)) = false := h2
              have h2 : o ≤ 6 := by simpa using h2
              rw [if_pos h2] at hE
              refine Br.mk (fun h3 => ?_) (fun h3 => ?_)
              · have h3 : (!is) = true := h3
                have h3 : is = false := by simpa only [Bool.not_eq_true'] using h3
                subst h3
                simp at hE
                subst hE
                exact ⟨rfl, trivial, trivial⟩
              · have h3 : (!is) = false := h3
                have h3 : is = true := by simpa only [Bool.not_eq_false'] using h3
                subst h3
                simp at hE
                subst hE
                exact ⟨.inr ⟨_, rfl⟩, ⟨⟨rfl, rfl⟩, rfl, ⟨rfl, ⟨⟨rfl, ⟨rfl, rfl⟩, ⟨rfl, rfl⟩, ⟨rfl, rfl⟩, ⟨rfl, rfl⟩, ⟨rfl, rfl⟩, rfl, trivial⟩, rfl⟩, trivial⟩, ⟨trivial, trivial⟩, rfl, rfl⟩⟩
    · cases h
  · cases h
theorem g57 {l : List (Nat × Ct)} (g : Good P T l) : Good P T ((57, c57) :: l) := g.add (k57 g) c57_mono (body_of Try.func57 (c := code Try.f57) rfl (by decide))

/-! ### Functions of a block that is looked at -/
def bkP (bid id n : Nat) (mk l1 l2 c1 c2 : Int) (rd : Nat → Rd) : List (Nat × HB) := [(bid, .cells 138 (bC mk l1 l2 c1 c2 1)), (id, .ro 4 n fun i => rdC (rd i))]
def bkH (n : Nat) (mk l1 l2 c1 c2 : Int) (rd : Nat → Rd) : List (Nat × HB) := [(0, .cells 138 (bC mk l1 l2 c1 c2 1)), (1, .ro 4 n fun i => rdC (rd i))]
theorem bkHand {H : LH} {bid id n : Nat} {mk l1 l2 c1 c2 : Int} {get : Nat → List SV} (h1 : H bid = some (.cells 138 (bC mk l1 l2 c1 c2 id))) (h2 : sliceOf 4 H id = some (n, get)) (hs : Rds n get) :
    Hand H (bkP bid id n mk l1 l2 c1 c2 (rdAt get)) where
  ok j c hb h := by
    match j, h with
    | 0, h => simp [bkP] at h; obtain ⟨rfl, rfl⟩ := h; exact h1
    | 1, h =>
      simp [bkP] at h; obtain ⟨rfl, rfl⟩ := h
      exact sliceOf_piece h2 fun i hi => by rw [hs i hi]; rfl
    | j + 2, h => simp [bkP] at h
  ids j c hb h := by
    match j, h with
    | 0, h => simp [bkP] at h; obtain ⟨rfl, rfl⟩ := h; exact ⟨trivial, trivial, trivial, trivial, trivial, (by show 1 < 2; decide), trivial⟩
    | 1, h => simp [bkP] at h; obtain ⟨rfl, rfl⟩ := h; exact fun i hi => ⟨trivial, trivial, trivial, trivial, trivial⟩
    | j + 2, h => simp [bkP] at h
  inj i j c hb hb' h1 h2 o1 o2 := by
    match i, j, h1, h2 with
    | 0, 0, _, _ => rfl
    | 1, 1, _, _ => rfl
    | 0, 1, h1, h2 => simp [bkP] at h2; obtain ⟨_, rfl⟩ := h2; cases o2
    | 1, 0, h1, h2 => simp [bkP] at h1; obtain ⟨_, rfl⟩ := h1; cases o1
    | i + 2, _, h, _ => simp [bkP] at h
    | _, j + 2, _, h => simp [bkP] at h
end Go.X.W
end

section
set_option linter.unusedVariables false
set_option linter.unusedSimpArgs false
set_option linter.unusedSectionVars false
/- Warm: warmths that are gone through; can. -/
set_option linter.unusedVariables false
set_option linter.unusedSimpArgs false
set_option maxRecDepth 10000
set_option maxHeartbeats 1000000
namespace Go.X.W
open Go Go.Proofs Go.X

/-- The numbers from one to another one. -/
def iota (a b : Int) : List Int := (List.range (b + 1 - a).toNat).map fun i : Nat => a + (i : Int)
theorem mem_iota {a b t : Int} : t ∈ iota a b ↔ a ≤ t ∧ t ≤ b := by
  simp only [iota, List.mem_map, List.mem_range]
  constructor
  · rintro ⟨i, hi, rfl⟩; omega
  · rintro ⟨h1, h2⟩; exact ⟨(t - a).toNat, by omega, by omega⟩
theorem iota_nil {a b : Int} (h : b < a) : iota a b = [] := by
  simp only [iota]
  rw [show (b + 1 - a).toNat = 0 by omega]
  rfl
theorem iota_cons {a b : Int} (h : a ≤ b) : iota a b = a :: iota (a + 1) b := by
  simp only [iota]
  obtain ⟨k, hk⟩ : ∃ k : Nat, (b + 1 - a).toNat = k + 1 := ⟨(b - a).toNat, by omega⟩
  rw [hk, show (b + 1 - (a + 1)).toNat = k by omega, List.range_succ_eq_map]
  simp only [List.map_cons, List.map_map]
  congr 1
  · simp
  · refine List.map_congr_left fun i _ => ?_
    simp only [Function.comp]
    push_cast
    omega
theorem iota_snoc {a b : Int} (h : a ≤ b) : iota a b = iota a (b - 1) ++ [b] := by
  simp only [iota]
  obtain ⟨k, hk⟩ : ∃ k : Nat, (b + 1 - a).toNat = k + 1 := ⟨(b - a).toNat, by omega⟩
  rw [hk, show (b - 1 + 1 - a).toNat = k by omega, List.range_succ, List.map_append]
  simp only [List.map_cons, List.map_nil]
  congr 2
  omega
theorem iota_len (a b : Int) : (iota a b).length = (b + 1 - a).toNat := by simp [iota]

def hitB (mk : Int) (p : Int × Int) (r : Rd) (t : Int) : Bool := inB (showV mk p t) r.2.2.1 r.2.2.2
/-- The warmths at which a reading can have been made of a pair. -/
def warmV (mk : Int) (p : Int × Int) (r : Rd) : List Int := (iota r.1 r.2.1).filter (hitB mk p r)
def canV (mk : Int) (p : Int × Int) (r : Rd) : Bool := (iota r.1 r.2.1).any (hitB mk p r)

/-! ### (anywhere).warm, (reading).warm -/
def c101 : Ct := fun fr args _ => match args with
  | [.agg [.si .i64 a, .si .i64 b], .si .i64 m, .agg [.si .i64 n, .si .i64 x]] => some ⟨none, none, .fn (.func 114) [] [.sp fr 0], [(fr, .cells 116 [.si .i64 a, .si .i64 b])]⟩
  | _ => none
theorem c101_mono : CtMono c101 := by
  intro fr args H H' out hH h
  unfold c101 at h ⊢
  exact h
theorem k101 {l : List (Nat × Ct)} (g : Good P T l) : COk P 101 c101 := by
  refine cok (C := tabC _) g.ok Try.func101 (c := code Try.f101) rfl fun fr args H out h hp => ?_
  unfold c101 at h
  split at h
  · rename_i a b m n x
    cases h
    refine ⟨[], [.agg [.si .i64 a, .si .i64 b], .si .i64 m, .agg [.si .i64 n, .si .i64 x]], [], 0, [0], rfl, rfl, Nat.le_of_ble_eq_true rfl, hand_nil H, rfl, rfl, fun G hG => ?_⟩
    exact ⟨.inl rfl, ⟨rfl, rfl, ⟨rfl, ⟨⟨rfl, ⟨rfl, rfl⟩, ⟨rfl, rfl⟩, trivial⟩, rfl⟩, trivial⟩, trivial, rfl, rfl⟩⟩
  · cases h
theorem g101 {l : List (Nat × Ct)} (g : Good P T l) : Good P T ((101, c101) :: l) := g.add (k101 g) c101_mono (body_of Try.func101 (c := code Try.f101) rfl (by decide))
def c76 : Ct := fun fr args _ => match args with
  | [.agg [.si .i64 a, .si .i64 b, .si .i64 c, .si .i64 d], .si .i64 m, .agg [.si .i64 n, .si .i64 x]] => some ⟨none, none, .fn (.func 105) [] [.sp fr 0, .sp (fr + 1) 0, .sp (fr + 2) 0],
    [(fr, .cells 118 (rdC (a, b, c, d))), (fr + 1, .cells 3 [.si .i64 m]), (fr + 2, .cells 90 [.si .i64 n, .si .i64 x])]⟩
  | _ => none
theorem c76_mono : CtMono c76 := by
  intro fr args H H' out hH h
  unfold c76 at h ⊢
  exact h
theorem k76 {l : List (Nat × Ct)} (g : Good P T l) : COk P 76 c76 := by
  refine cok (C := tabC _) g.ok Try.func76 (c := code Try.f76) rfl fun fr args H out h hp => ?_
  unfold c76 at h
  split at h
  · rename_i a b c d m n x
    cases h
    refine ⟨[], [.agg [.si .i64 a, .si .i64 b, .si .i64 c, .si .i64 d], .si .i64 m, .agg [.si .i64 n, .si .i64 x]], [], 0, [0, 1, 2], rfl, rfl, Nat.le_of_ble_eq_true rfl, hand_nil H, rfl, rfl, fun G hG => ?_⟩
    exact ⟨.inl rfl, ⟨rfl, rfl, ⟨rfl, ⟨⟨rfl, ⟨rfl, rfl⟩, ⟨rfl, rfl⟩, ⟨rfl, rfl⟩, ⟨rfl, rfl⟩, trivial⟩, rfl⟩, rfl, ⟨⟨rfl, ⟨rfl, rfl⟩, trivial⟩, rfl⟩, rfl, ⟨⟨rfl, ⟨rfl, rfl⟩, ⟨rfl, rfl⟩, trivial⟩, rfl⟩, trivial⟩, trivial, rfl, rfl⟩⟩
  · cases h
theorem g76 {l : List (Nat × Ct)} (g : Good P T l) : Good P T ((76, c76) :: l) := g.add (k76 g) c76_mono (body_of Try.func76 (c := code Try.f76) rfl (by decide))

/-! ### can -/
theorem m118 : MethOk P 118 "blockworks/warm.warm" 76 := meth_of' (by kernel_rfl)
theorem b76 : Body P 76 := body_of Try.func76 (c := code Try.f76) rfl (by decide)
theorem b105 : Body P 105 := body_of Try.func105 (c := code Try.f105) rfl (by decide)
theorem b114 : Body P 114 := body_of Try.func114 (c := code Try.f114) rfl (by decide)
def c109 : Ct := fun fr args H =>
  match args with
  | [.sp bid 0, .ifc 118 (.agg [.si .i64 a, .si .i64 b, .si .i64 c, .si .i64 d]), .agg [.si .i64 x, .si .i64 y]] => (match H bid with
    | some (.cells 138 [.si .i64 mk, .si .i64 l1, .si .i64 l2, .si .i64 c1, .si .i64 c2, .sl id]) => (match sliceOf 4 H id with
      | some (n, get) => some ⟨some (Rds n get ∧ smB 1000 mk ∧ smB 1000000 x ∧ smB 1000 y ∧ smB 1000 a ∧ smB 1000 b), none, .sb (canV mk (x, y) (a, b, c, d)), []⟩
      | none => none)
    | _ => none)
  | _ => none
theorem c109_mono : CtMono c109 := by
  intro fr args H H' out hH h
  unfold c109 at h ⊢
  split at h
  · split at h
    · rename_i e1
      rw [hH _ _ e1]
      split at h
      · rename_i e
        simp only [sliceOf_mono hH e]
        exact h
      · cases h
    · cases h
  · cases h
theorem k109 : COk P 109 c109 := by
  have g := g101 (g81 (g66 good0))
  refine cokM (C := tabC _) g.ok Try.func109 (c := code Try.f109) rfl fun fr args H out h hp => ?_
  unfold c109 at h
  split at h
  · rename_i bid a b c d x y
    split at h
    · rename_i mk l1 l2 c1 c2 id e1
      split at h
      · rename_i n get e
        cases h
        obtain ⟨hs, hmk, hx, hy, ha, hb⟩ : Rds n get ∧ smB 1000 mk ∧ smB 1000000 x ∧ smB 1000 y ∧ smB 1000 a ∧ smB 1000 b := hp
        have hh := bkHand e1 e hs
        refine ⟨bkP bid id n mk l1 l2 c1 c2 (rdAt get), [.sp 0 0, .ifc 118 (.agg [.si .i64 a, .si .i64 b, .si .i64 c, .si .i64 d]), .agg [.si .i64 x, .si .i64 y]], bkH n mk l1 l2 c1 c2 (rdAt get), 2, [], rfl, rfl, Nat.le_of_ble_eq_true rfl, hh, rfl, rfl, fun G hG => ?_⟩
        generalize rdAt get = rd
        refine drawn_ok (g.ok _ _ _) fol [0,0,2,6,14,30,0,1,129,385,1023] [] 10 (by kernel_rfl) ?_
        refine Chk.mk (by kernel_rfl) ?_
        refine fb_invoke 76 (g.ok _ _ _) cont_std rfl rfl rfl rfl rfl rfl rfl m118 b76 ?_
        refine callS_ct (k76 good0) (out := ⟨none, none, _, _⟩) rfl trivial (fun hz => ?_) (fun ch h => by cases h)
        clear hz
        refine rangeFunc_ok (g.ok _ _ _) rfl rfl rfl b105 ?_
        intro fn
        refine callS_execM g.ok Try.func105 (c := code Try.f105) rfl (Nat.le_of_ble_eq_true rfl) fun G2 hG2 => ?_
        refine rangeFunc_ok (g.ok _ _ _) rfl rfl rfl b114 ?_
        intro fn2
        refine callS_exec g.ok Try.func114 (c := code Try.f114) rfl (Nat.le_of_ble_eq_true rfl) fun G3 hG3 => ?_
        have hit : ∀ t, hitB mk (x, y) (a, b, c, d) t = inB (showV mk (x, y) t) c d := fun t => rfl
        unfold smB at ha hb
        have hab : a ≤ b + 1 ∨ b + 1 < a := by omega
        refine loop_okR (g.ok _ _ _) 57 (fun z : {t : Int // a ≤ t ∧ (t ≤ b + 1 ∨ t = a) ∧ ∀ u, a ≤ u → u < t → hitB mk (x, y) (a, b, c, d) u = false} => ⟨[(0, ⟨[], .fy 56⟩), (1, ⟨[], .sp 51 0⟩), (3, ⟨[], .si .i64 z.1⟩)], [],
          [(56, .loop [(1, .sp 44 0), (2, .sp 45 0), (3, .sp 46 0), (4, .sp 50 0)] Try.f105.ntmps fn2 [11] (rfA (code Try.f105)) (rfB (code Try.f105)) 55 .ready none), (55, .dfr), (51, .cells 116 [.si .i64 a, .si .i64 b]), (50, .cells 75 [.fy 49]),
           (49, .loop [(6, .sp 3 0)] Try.f109.ntmps fn [18] (rfA (code Try.f109)) (rfB (code Try.f109)) 48 .ready none), (48, .dfr), (44, .cells 118 (rdC (a, b, c, d))), (45, .cells 3 [.si .i64 mk]), (46, .cells 90 [.si .i64 x, .si .i64 y]), (3, .cells 4 [.sb false])] ++ bkH n mk l1 l2 c1 c2 rd, 57, []⟩)
          (fun z => (b + 1 - z.1).toNat) hG3 ⟨a, by omega, .inr rfl, fun u h1 h2 => by omega⟩ (fun j => j) ?_ ?_
        · refine ⟨?_, ?_, rfl, rfl, rfl, rfl, trivial⟩
          · repeat' (first | exact trivial | exact rfl | refine And.intro ?_ ?_)
          · repeat' (first | exact trivial | exact rfl | (intro i hi; exact ⟨rfl, rfl⟩) | refine allV_find ?_ | refine And.intro ?_ ?_)
        · rintro ⟨t, h1, h2, h3⟩
          refine Br.mk (fun h => ?_) (fun h => ?_)
          · replace h : t ≤ b := of_decide_eq_true h
            refine fb_yield 56 g.ok (g.ok _ _ _) cont_std rfl rfl rfl rfl rfl rfl rfl rfl rfl (by decide) ?_
            intro G4 r hG4
            refine drawn_ok (g.ok _ _ _) fol [0,0,0,7,0,16,48,0,128,384,1023,2047] [] 12 (by kernel_rfl) ?_
            refine Chk.mk ⟨hx, hmk, hy, ⟨(show -1000 ≤ t by omega), (show t ≤ 1000 by omega)⟩⟩ ?_
            refine Br.mk (fun hq => ?_) (fun hq => ?_)
            · have hq : (!hitB mk (x, y) (a, b, c, d) t) = true := hq
              refine Br.mk (fun h => by cases h) (fun _ => ?_)
              refine Chk.mk (show InK .i64 (t + 1) from ⟨by omega, by omega⟩) ⟨⟨t + 1, by omega, .inl (by omega), fun u hu1 hu2 => ?_⟩, (fun j => j), ?_, ?_⟩
              · rcases Int.lt_or_eq_of_le (show u ≤ t by omega) with h | h
                · exact h3 u hu1 h
                · subst h; simpa using hq
              · refine ⟨?_, ?_, rfl, rfl, rfl, rfl, trivial⟩
                · repeat' (first | exact trivial | exact rfl | refine And.intro ?_ ?_)
                · repeat' (first | exact trivial | exact rfl | (intro i hi; exact ⟨rfl, rfl⟩) | refine allV_find ?_ | refine And.intro ?_ ?_)
              · show (b + 1 - (t + 1)).toNat < (b + 1 - t).toNat
                omega
            · have hq : (!hitB mk (x, y) (a, b, c, d) t) = false := hq
              have hcan : canV mk (x, y) (a, b, c, d) = true := by
                rw [canV, List.any_eq_true]
                exact ⟨t, mem_iota.2 ⟨h1, h⟩, by simpa using hq⟩
              refine fb_yield 49 g.ok (g.ok _ _ _) cont_std rfl rfl rfl rfl rfl rfl rfl rfl rfl (by decide) ?_
              intro G5 r5 hG5
              refine Br.mk (fun _ => ?_) (fun h => by cases h)
              refine Br.mk (fun _ => ?_) (fun h => by cases h)
              rw [hcan]
              exact ⟨.inl rfl, end_noid rfl rfl rfl ⟨⟨rfl, ⟨rfl, rfl⟩, ⟨rfl, rfl⟩, ⟨rfl, rfl⟩, ⟨rfl, rfl⟩, ⟨rfl, rfl⟩, rfl, trivial⟩, trivial, trivial⟩⟩
          · replace h : ¬ t ≤ b := of_decide_eq_false h
            have hcan : canV mk (x, y) (a, b, c, d) = false := by
              rw [canV, List.any_eq_false]
              intro u hu
              obtain ⟨u1, u2⟩ := mem_iota.1 hu
              have u2 : u ≤ b := u2
              rw [h3 u u1 (by omega)]
              exact Bool.false_ne_true
            rw [hcan]
            exact ⟨.inl rfl, end_noid rfl rfl rfl ⟨⟨rfl, ⟨rfl, rfl⟩, ⟨rfl, rfl⟩, ⟨rfl, rfl⟩, ⟨rfl, rfl⟩, ⟨rfl, rfl⟩, rfl, trivial⟩, trivial, trivial⟩⟩
      · cases h
    · cases h
  · cases h
theorem g109 {l : List (Nat × Ct)} (g : Good P T l) : Good P T ((109, c109) :: l) := g.add k109 c109_mono (body_of Try.func109 (c := code Try.f109) rfl (by decide))
end Go.X.W
end

section
set_option linter.unusedVariables false
set_option linter.unusedSimpArgs false
set_option linter.unusedSectionVars false
/- Warm: readings that are looked at; whether none of them clashes with a pair. -/
set_option linter.unusedVariables false
set_option linter.unusedSimpArgs false
set_option maxRecDepth 10000
set_option maxHeartbeats 1000000
namespace Go.X.W
open Go Go.Proofs Go.X

theorem smB_i64 {k x : Int} (h : smB k x) (hk : k ≤ 1000000000) : InK .i64 x := by
  unfold smB at h
  exact ⟨by omega, by omega⟩
/-! ### readings -/
def c74 : Ct := fun fr args H =>
  match args with
  | [.sp bid 0] => (match H bid with
    | some (.cells 138 [.si .i64 mk, .si .i64 l1, .si .i64 l2, .si .i64 c1, .si .i64 c2, .sl id]) => (match sliceOf 4 H id with
      | some (n, get) => some ⟨some (Rds n get ∧ n ≤ 40), none, .sl fr, [(fr, .ro 4 n fun i => rdC (rdAt get i))]⟩
      | none => none)
    | _ => none)
  | _ => none
theorem c74_mono : CtMono c74 := by
  intro fr args H H' out hH h
  unfold c74 at h ⊢
  split at h
  · split at h
    · rename_i e1
      rw [hH _ _ e1]
      split at h
      · rename_i e
        simp only [sliceOf_mono hH e]
        exact h
      · cases h
    · cases h
  · cases h
theorem k74 {l : List (Nat × Ct)} (g : Good P T l) : COk P 74 c74 := by
  refine cok (C := tabC _) g.ok Try.func74 (c := code Try.f74) rfl fun fr args H out h hp => ?_
  unfold c74 at h
  split at h
  · rename_i bid
    split at h
    · rename_i mk l1 l2 c1 c2 id e1
      split at h
      · rename_i n get e
        cases h
        obtain ⟨hs, hn⟩ : Rds n get ∧ n ≤ 40 := hp
        have hh := bkHand e1 e hs
        refine ⟨bkP bid id n mk l1 l2 c1 c2 (rdAt get), [.sp 0 0], bkH n mk l1 l2 c1 c2 (rdAt get), 2, [2], rfl, rfl, Nat.le_of_ble_eq_true rfl, hh, rfl, rfl, fun G hG => ?_⟩
        generalize rdAt get = rd
        refine nil_slot 2 118 4 (fun i => rdC (rd i)) rfl ?_
        refine loop_okR (g.ok _ _ _) 2 (fun x : {i : Nat // i ≤ n} => ⟨[(0, ⟨[], .sp 0 0⟩), (2, ⟨[], .sl 2⟩), (9, ⟨[], .sl 1⟩), (10, ⟨[], .si .i64 n⟩), (11, ⟨[], .si .i64 x.1⟩)], [],
          (2, .vec 118 4 x.1 (fun i => rdC (rd i))) :: bkH n mk l1 l2 c1 c2 rd, 3, []⟩) (fun x => n - x.1) hG ⟨0, Nat.zero_le _⟩ (fun j => j) ?_ ?_
        · refine ⟨?_, ?_, rfl, rfl, rfl, rfl, trivial⟩
          · repeat' (first | exact trivial | exact rfl | refine And.intro ?_ ?_)
          · repeat' (first | exact trivial | exact rfl | (intro i hi; exact ⟨rfl, rfl⟩) | refine And.intro ?_ ?_)
        · rintro ⟨i, hi⟩
          refine Br.mk (fun h => ?_) (fun h => ?_)
          · have h : (i : Int) < (n : Int) := of_decide_eq_true h
            refine Chk.mk (show (0 : Int) ≤ (i : Int) ∧ (i : Int) < (n : Int) from ⟨by omega, h⟩) ?_
            refine fb_append (Te := 0) 2 4 i 1 _ _ (fun i => rdC (rd i)) (g.ok _ _ _) cont_std rfl rfl rfl rfl rfl rfl rfl rfl rfl rfl rfl rfl (by decide) (by decide) rfl rfl rfl rfl ?_ ?_ ?_
            · omega
            · intro j hj
              split
              · rfl
              · have : j = i := by omega
                subst this
                rw [Nat.sub_self]
                rfl
            · refine Chk.mk (show InK .i64 ((i : Int) + 1) from ⟨by omega, by omega⟩) ⟨⟨i + 1, by omega⟩, (fun j => if j = 2 then 5 else j), ?_, by show n - (i + 1) < n - i; omega⟩
              refine ⟨?_, ?_, rfl, rfl, rfl, rfl, trivial⟩
              · repeat' (first | exact trivial | exact rfl | refine And.intro ?_ ?_)
              · repeat' (first | exact trivial | exact rfl | (intro i hi; exact ⟨rfl, rfl⟩) | refine And.intro ?_ ?_)
          · have h : ¬ (i : Int) < (n : Int) := of_decide_eq_false h
            have hin : i = n := by omega
            subst hin
            exact ⟨.inl rfl, ⟨rfl, rfl, ⟨rfl, ⟨rfl, rfl, fun i hi => ⟨rfl, rfl⟩⟩, trivial⟩, ⟨⟨rfl, ⟨rfl, rfl⟩, ⟨rfl, rfl⟩, ⟨rfl, rfl⟩, ⟨rfl, rfl⟩, ⟨rfl, rfl⟩, rfl, trivial⟩, trivial, trivial⟩, rfl, rfl⟩⟩
      · cases h
    · cases h
  · cases h
theorem g74 {l : List (Nat × Ct)} (g : Good P T l) : Good P T ((74, c74) :: l) := g.add (k74 g) c74_mono (body_of Try.func74 (c := code Try.f74) rfl (by decide))

/-! ### Does a reading clash with a pair? -/
/-- The pieces of the closure that asks. -/
def askP (bx bid id px n : Nat) (mk l1 l2 c1 c2 x y : Int) (rd : Nat → Rd) : List (Nat × HB) :=
  [(bx, .cells 86 [.sp 1 0]), (bid, .cells 138 (bC mk l1 l2 c1 c2 2)), (id, .ro 4 n fun i => rdC (rd i)), (px, .cells 90 [.si .i64 x, .si .i64 y])]
def askQ (n : Nat) (get : Nat → List SV) (mk x y : Int) (r : Rd) : Prop := Rds n get ∧ smB 1000 mk ∧ smB 1000000 x ∧ smB 1000 y ∧ smB 1000 r.1 ∧ smB 1000 r.2.1
def c108 : Ct := fun fr args H =>
  match args with
  | [.agg [.si .i64 a, .si .i64 b, .si .i64 c, .si .i64 d], .sp bx 0, .sp px 0] => (match H bx, H px with
    | some (.cells 86 [.sp bid 0]), some (.cells 90 [.si .i64 x, .si .i64 y]) => (match H bid with
      | some (.cells 138 [.si .i64 mk, .si .i64 l1, .si .i64 l2, .si .i64 c1, .si .i64 c2, .sl id]) => (match sliceOf 4 H id with
        | some (n, get) => some ⟨some (askQ n get mk x y (a, b, c, d)), none, .sb (!canV mk (x, y) (a, b, c, d)), []⟩
        | none => none)
      | _ => none)
    | _, _ => none)
  | _ => none
theorem c108_mono : CtMono c108 := by
  intro fr args H H' out hH h
  unfold c108 at h ⊢
  split at h
  · split at h
    · rename_i e1 e2
      split at h
      · rename_i e3
        split at h
        · rename_i e
          simp only [hH _ _ e1, hH _ _ e2, hH _ _ e3, sliceOf_mono hH e]
          exact h
        · cases h
      · cases h
    · cases h
  · cases h
theorem k108 {l : List (Nat × Ct)} (g0 : Good P T l) : COk P 108 c108 := by
  have g := g109 g0
  refine cok (C := tabC _) g.ok Try.func108 (c := code Try.f108) rfl fun fr args H out h hp => ?_
  unfold c108 at h
  split at h
  · rename_i a b c d bx px
    split at h
    · rename_i bid x y e1 e2
      split at h
      · rename_i mk l1 l2 c1 c2 id e3
        split at h
        · rename_i n get e
          cases h
          obtain ⟨hs, hmk, hx, hy, ha, hb⟩ : askQ n get mk x y (a, b, c, d) := hp
          have hh : Hand H (askP bx bid id px n mk l1 l2 c1 c2 x y (rdAt get)) := hand_mk ⟨e1, e3, sliceOf_piece e fun i hi => by rw [hs i hi]; rfl, e2, trivial⟩
            (by repeat' (first | exact trivial | (intro i hi; exact ⟨trivial, trivial, trivial, trivial, trivial⟩) | refine And.intro ?_ ?_ | exact (by decide : (1 : Nat) < 4) | exact (by decide : (2 : Nat) < 4))) rfl
          refine ⟨askP bx bid id px n mk l1 l2 c1 c2 x y (rdAt get), [.agg [.si .i64 a, .si .i64 b, .si .i64 c, .si .i64 d], .sp 0 0, .sp 3 0], _, 4, [], rfl, rfl, Nat.le_of_ble_eq_true rfl, hh, rfl, rfl, fun G hG => ?_⟩
          generalize rdAt get = rd
          refine Chk.mk ⟨rds_rd _ _, hmk, hx, hy, ha, hb⟩ ?_
          exact ⟨.inl rfl, end_noid rfl rfl rfl ⟨⟨rfl, ⟨rfl, rfl⟩, trivial⟩, ⟨rfl, ⟨rfl, rfl⟩, ⟨rfl, rfl⟩, ⟨rfl, rfl⟩, ⟨rfl, rfl⟩, ⟨rfl, rfl⟩, rfl, trivial⟩, trivial, ⟨rfl, ⟨rfl, rfl⟩, ⟨rfl, rfl⟩, trivial⟩, trivial⟩⟩
        · cases h
      · cases h
    · cases h
  · cases h
theorem g108 {l : List (Nat × Ct)} (g : Good P T l) : Good P T ((108, c108) :: l) := g.add (k108 g) c108_mono (body_of Try.func108 (c := code Try.f108) rfl (by decide))
end Go.X.W
end

section
set_option linter.unusedVariables false
set_option linter.unusedSimpArgs false
set_option linter.unusedSectionVars false
/- Warm: does any reading clash with a pair: the library's functions. -/
set_option linter.unusedVariables false
set_option linter.unusedSimpArgs false
set_option maxRecDepth 10000
set_option maxHeartbeats 1000000
namespace Go.X.W
open Go Go.Proofs Go.X

/-- The first number of which something is so; -1: of none. -/
def idxV (q : Nat → Bool) (n : Nat) : Int := match (List.range n).find? q with
  | some i => i
  | none => -1
theorem idxV_none {q : Nat → Bool} {n : Nat} (h : ∀ i, i < n → q i = false) : idxV q n = -1 := by
  unfold idxV
  rw [List.find?_eq_none.2]
  intro x hx
  rw [h x (List.mem_range.1 hx)]
  exact Bool.false_ne_true
theorem range_split {i n : Nat} (h : i ≤ n) : List.range n = List.range i ++ (List.range (n - i)).map (· + i) := by
  have : n = i + (n - i) := by omega
  rw [this, List.range_add]
  simp [Nat.add_comm]
theorem idxV_some {q : Nat → Bool} {n i : Nat} (hi : i < n) (hq : q i = true) (h : ∀ j, j < i → q j = false) : idxV q n = i := by
  unfold idxV
  have : (List.range n).find? q = some i := by
    rw [range_split (Nat.le_of_lt hi), List.find?_append]
    rw [List.find?_eq_none.2 (fun x hx => by rw [h x (List.mem_range.1 hx)]; exact Bool.false_ne_true)]
    obtain ⟨k, hk⟩ : ∃ k, n - i = k + 1 := ⟨n - i - 1, by omega⟩
    rw [hk, List.range_succ_eq_map]
    simp [List.find?_cons, hq]
  rw [this]
theorem idxV_any {q : Nat → Bool} {n : Nat} : decide (0 ≤ idxV q n) = (List.range n).any q := by
  cases h : (List.range n).any q with
  | false =>
    rw [List.any_eq_false] at h
    rw [idxV_none (fun i hi => by simpa using h i (List.mem_range.2 hi))]
    decide
  | true =>
    rw [List.any_eq_true] at h
    unfold idxV
    cases e : (List.range n).find? q with
    | some i => simp
    | none =>
      rw [List.find?_eq_none] at e
      obtain ⟨x, h1, h2⟩ := h
      exact absurd h2 (e x h1)

def allQ (m : Nat) (g2 : Nat → List SV) (n : Nat) (get : Nat → List SV) (mk x y : Int) : Prop := Rds m g2 ∧ Rds n get ∧ smB 1000 mk ∧ smB 1000000 x ∧ smB 1000 y ∧ m ≤ 40 ∧ ∀ i, i < m → smB 1000 (rdAt g2 i).1 ∧ smB 1000 (rdAt g2 i).2.1
def getCt (k : (Nat → Bool) → Nat → SV) : Ct := fun fr args H =>
  match args with
  | [.sl lid, .fn (.func 108) [] [.sp bx 0, .sp px 0]] => (match sliceOf 4 H lid, H bx, H px with
    | some (m, g2), some (.cells 86 [.sp bid 0]), some (.cells 90 [.si .i64 x, .si .i64 y]) => (match H bid with
      | some (.cells 138 [.si .i64 mk, .si .i64 l1, .si .i64 l2, .si .i64 c1, .si .i64 c2, .sl id]) => (match sliceOf 4 H id with
        | some (n, get) => some ⟨some (allQ m g2 n get mk x y), none, k (fun i => !canV mk (x, y) (rdAt g2 i)) m, []⟩
        | none => none)
      | _ => none)
    | _, _, _ => none)
  | _ => none
theorem getCt_mono (k : (Nat → Bool) → Nat → SV) : CtMono (getCt k) := by
  intro fr args H H' out hH h
  unfold getCt at h ⊢
  split at h
  · split at h
    · rename_i e0 e1 e2
      split at h
      · rename_i e3
        split at h
        · rename_i e
          simp only [sliceOf_mono hH e0, hH _ _ e1, hH _ _ e2, hH _ _ e3, sliceOf_mono hH e]
          exact h
        · cases h
      · cases h
    · cases h
  · cases h
def getP (lid m bx bid id px n : Nat) (mk l1 l2 c1 c2 x y : Int) (r2 rd : Nat → Rd) : List (Nat × HB) :=
  [(lid, .ro 4 m fun i => rdC (r2 i)), (bx, .cells 86 [.sp 2 0]), (bid, .cells 138 (bC mk l1 l2 c1 c2 3)), (id, .ro 4 n fun i => rdC (rd i)), (px, .cells 90 [.si .i64 x, .si .i64 y])]
def getH (m n : Nat) (mk l1 l2 c1 c2 x y : Int) (r2 rd : Nat → Rd) : List (Nat × HB) :=
  [(0, .ro 4 m fun i => rdC (r2 i)), (1, .cells 86 [.sp 2 0]), (2, .cells 138 (bC mk l1 l2 c1 c2 3)), (3, .ro 4 n fun i => rdC (rd i)), (4, .cells 90 [.si .i64 x, .si .i64 y])]
theorem getWalk {C : Nat → Option Ct} {fn : Func} {c : Code} {k : (Nat → Bool) → Nat → SV} {fr : Nat} {args : List SV} {H : LH} {out : COut} (hk : ∀ q m, knSV 0 [] (k q m) = true) (ho : getCt k fr args H = some out) (hp : PreH out.pre)
    (hl : 2 ≤ fn.ntmps)
    (h : ∀ (m n : Nat) (mk l1 l2 c1 c2 x y : Int) (r2 rd : Nat → Rd) (Rv : SV → St → Prop) (Rp : List PanicEntry → St → Prop), smB 1000 mk → smB 1000000 x → smB 1000 y → m ≤ 40 → (∀ i, i < m → smB 1000 (r2 i).1 ∧ smB 1000 (r2 i).2.1) →
      (∀ v' st, SVeq v' (k (fun i => !canV mk (x, y) (r2 i)) m) → keepP st.H (getH m n mk l1 l2 c1 c2 x y r2 rd) → knSV 0 [] v' = true → Rv v' st) →
      ∀ G : Base, (∀ j, 5 ≤ j → G.ρ j = none) → exec ⟨P, T, C, G, none, fn.ntmps⟩ c (start [.sl 0, .fn (.func 108) [] [.sp 1 0, .sp 4 0]] (getH m n mk l1 l2 c1 c2 x y r2 rd) 5) (Fin ⟨P, T, C, G, none, fn.ntmps⟩ fn.results.toList Rv Rp)) :
    Walk P T C fn c H args fr out := by
  unfold getCt at ho
  split at ho
  · rename_i lid bx px
    split at ho
    · rename_i m g2 bid x y e0 e1 e2
      split at ho
      · rename_i mk l1 l2 c1 c2 id e3
        split at ho
        · rename_i n get e
          cases ho
          obtain ⟨hs2, hs, hmk, hx, hy, hm, hr⟩ : allQ m g2 n get mk x y := hp
          have hh : Hand H (getP lid m bx bid id px n mk l1 l2 c1 c2 x y (rdAt g2) (rdAt get)) := hand_mk ⟨sliceOf_piece e0 fun i hi => by rw [hs2 i hi]; rfl, e1, e3, sliceOf_piece e fun i hi => by rw [hs i hi]; rfl, e2, trivial⟩
            (by repeat' (first | exact trivial | (intro i hi; exact ⟨trivial, trivial, trivial, trivial, trivial⟩) | refine And.intro ?_ ?_ | exact (by decide : (2 : Nat) < 5) | exact (by decide : (3 : Nat) < 5))) rfl
          refine ⟨getP lid m bx bid id px n mk l1 l2 c1 c2 x y (rdAt g2) (rdAt get), [.sl 0, .fn (.func 108) [] [.sp 1 0, .sp 4 0]], _, 5, [], rfl, rfl, hl, hh, rfl, rfl, ?_⟩
          exact h m n mk l1 l2 c1 c2 x y (rdAt g2) (rdAt get) _ _ hmk hx hy hm hr (fun v' st h1 h2 h3 => ⟨.inl rfl, end_noid h1 h3 rfl h2⟩)
        · cases ho
      · cases ho
    · cases ho
  · cases ho

def c118 : Ct := getCt fun q m => .si .i64 (idxV q m)
theorem k118 {l : List (Nat × Ct)} (g0 : Good P T l) : COk P 118 c118 := by
  have g := g108 g0
  refine cok (C := tabC _) g.ok Try.func118 (c := code Try.f118) rfl fun fr args H out h hp => getWalk (fun _ _ => rfl) h hp (Nat.le_of_ble_eq_true rfl) fun m n mk l1 l2 c1 c2 x y r2 rd Rv Rp hmk hx hy hm hr hR G hG => ?_
  refine loop_ok (g.ok _ _ _) (fun z : {i : Nat // i ≤ m ∧ ∀ j, j < i → (!canV mk (x, y) (r2 j)) = false} => ⟨[(0, ⟨[], .sl 0⟩), (1, ⟨[], .fn (.func 108) [] [.sp 1 0, .sp 4 0]⟩), (7, ⟨[], .si .i64 m⟩), (8, ⟨[], .si .i64 z.1⟩)], [], getH m n mk l1 l2 c1 c2 x y r2 rd, 5, []⟩)
    (fun z => m - z.1) (fun _ j hj => hG j hj) ⟨0, Nat.zero_le _, fun j hj => by omega⟩ ?_ ?_
  · refine ⟨?_, ?_, rfl, rfl, rfl⟩ <;> repeat' (first | exact trivial | exact rfl | (intro i hi; exact rfl) | refine And.intro ?_ ?_)
  · rintro ⟨i, hi, hall⟩
    refine Br.mk (fun h => ?_) (fun h => ?_)
    · have h : (i : Int) < (m : Int) := of_decide_eq_true h
      have hri := hr i (by omega)
      refine Chk.mk (show (0 : Int) ≤ (i : Int) ∧ (i : Int) < (m : Int) from ⟨by omega, h⟩) (Chk.mk ⟨rds_rd _ _, hmk, hx, hy, hri.1, hri.2⟩ ?_)
      refine Br.mk (fun h2 => ?_) (fun h2 => ?_)
      · have h2 : (!canV mk (x, y) (r2 i)) = true := h2
        have e := idxV_some (q := fun i => !canV mk (x, y) (r2 i)) (n := m) (by omega) h2 hall
        refine hR _ _ ⟨rfl, e.symm⟩ ?_ rfl
        repeat' (first | exact trivial | exact rfl | refine And.intro ?_ ?_)
      · have h2 : (!canV mk (x, y) (r2 i)) = false := h2
        refine Chk.mk (show InK .i64 ((i : Int) + 1) from ⟨by omega, by omega⟩) ⟨⟨i + 1, by omega, fun j hj => ?_⟩, ?_, by show m - (i + 1) < m - i; omega⟩
        · rcases Nat.lt_or_eq_of_le (show j ≤ i by omega) with h | h
          · exact hall j h
          · subst h; exact h2
        · refine ⟨?_, ?_, rfl, rfl, rfl⟩ <;> repeat' (first | exact trivial | exact rfl | (intro i hi; exact rfl) | refine And.intro ?_ ?_)
    · have h : ¬ (i : Int) < (m : Int) := of_decide_eq_false h
      have e := idxV_none (q := fun i => !canV mk (x, y) (r2 i)) (n := m) (fun j hj => hall j (by omega))
      refine hR _ _ ⟨rfl, e.symm⟩ ?_ rfl
      repeat' (first | exact trivial | exact rfl | refine And.intro ?_ ?_)
theorem g118 {l : List (Nat × Ct)} (g : Good P T l) : Good P T ((118, c118) :: l) := g.add (k118 g) (getCt_mono _) (body_of Try.func118 (c := code Try.f118) rfl (by decide))
def c107 : Ct := getCt fun q m => .sb ((List.range m).any q)
theorem k107 {l : List (Nat × Ct)} (g0 : Good P T l) : COk P 107 c107 := by
  have g := g118 g0
  refine cok (C := tabC _) g.ok Try.func107 (c := code Try.f107) rfl fun fr args H out h hp => getWalk (fun _ _ => rfl) h hp (Nat.le_of_ble_eq_true rfl) fun m n mk l1 l2 c1 c2 x y r2 rd Rv Rp hmk hx hy hm hr hR G hG => ?_
  refine Chk.mk ⟨rds_rd _ _, rds_rd _ _, hmk, hx, hy, hm, hr⟩ (hR _ _ idxV_any ?_ rfl)
  repeat' (first | exact trivial | exact rfl | refine And.intro ?_ ?_)
theorem g107 {l : List (Nat × Ct)} (g : Good P T l) : Good P T ((107, c107) :: l) := g.add (k107 g) (getCt_mono _) (body_of Try.func107 (c := code Try.f107) rfl (by decide))
end Go.X.W
end

section
set_option linter.unusedVariables false
set_option linter.unusedSimpArgs false
set_option linter.unusedSectionVars false
/- Warm: all pairs, plainly; pairs as keys of maps. -/
set_option linter.unusedVariables false
set_option linter.unusedSimpArgs false
set_option maxRecDepth 10000
set_option maxHeartbeats 1000000
namespace Go.X.W
open Go Go.Proofs Go.X

abbrev Pr := Int × Int
def row (q : Pr → Bool) (n c1 a : Int) : List Pr := ((iota c1 (a - 1)).map fun a => (n, a)).filter q
/-- The pairs that come before a row. -/
def rows (q : Pr → Bool) (l1 c1 c2 n : Int) : List Pr := (iota l1 (n - 1)).flatMap fun n => row q n c1 (c2 + 1)
def okP (mk : Int) (rs : List Rd) (p : Pr) : Bool := rs.all (canV mk p)
/-- All pairs. -/
def pairsV (B : Blk) : List Pr := rows (okP B.mark B.rs) B.l1 B.c1 B.c2 (B.l2 + 1)

theorem row_first (q : Pr → Bool) (n c1 : Int) : row q n c1 c1 = [] := by
  unfold row
  rw [iota_nil (by omega)]
  rfl
theorem row_next {q : Pr → Bool} {n c1 a : Int} (h : c1 ≤ a) : row q n c1 (a + 1) = row q n c1 a ++ (if q (n, a) = true then [(n, a)] else []) := by
  unfold row
  rw [show a + 1 - 1 = a by omega, iota_snoc h, List.map_append, List.filter_append]
  congr 1
  simp only [List.map_cons, List.map_nil, List.filter_cons, List.filter_nil]
theorem rows_first (q : Pr → Bool) (l1 c1 c2 : Int) : rows q l1 c1 c2 l1 = [] := by
  unfold rows
  rw [iota_nil (by omega)]
  rfl
theorem rows_next {q : Pr → Bool} {l1 c1 c2 n : Int} (h : l1 ≤ n) : rows q l1 c1 c2 (n + 1) = rows q l1 c1 c2 n ++ row q n c1 (c2 + 1) := by
  unfold rows
  rw [show n + 1 - 1 = n by omega, iota_snoc h, List.flatMap_append]
  simp
theorem row_len (q : Pr → Bool) (n c1 a : Int) : (row q n c1 a).length ≤ (a - c1).toNat := by
  unfold row
  refine Nat.le_trans (List.length_filter_le _ _) ?_
  rw [List.length_map, iota_len]
  omega
theorem rows_len (q : Pr → Bool) (l1 c1 c2 : Int) (hc : c2 - c1 ≤ 3) : ∀ (k : Nat), (rows q l1 c1 c2 (l1 + k)).length ≤ 4 * k
  | 0 => by rw [Int.natCast_zero, Int.add_zero, rows_first]; simp
  | k + 1 => by
    rw [show l1 + ((k + 1 : Nat) : Int) = l1 + k + 1 by push_cast; omega, rows_next (by omega), List.length_append]
    have h1 := rows_len q l1 c1 c2 hc k
    have h2 := row_len q (l1 + k) c1 (c2 + 1)
    omega
theorem row_mem {q : Pr → Bool} {n c1 a : Int} {p : Pr} : p ∈ row q n c1 a ↔ (p.1 = n ∧ c1 ≤ p.2 ∧ p.2 < a) ∧ q p = true := by
  unfold row
  rw [List.mem_filter, List.mem_map]
  constructor
  · rintro ⟨⟨x, hx, rfl⟩, h2⟩
    have := mem_iota.1 hx
    exact ⟨⟨rfl, this.1, by show x < a; omega⟩, h2⟩
  · rintro ⟨⟨h1, h2, h3⟩, h4⟩
    exact ⟨⟨p.2, mem_iota.2 ⟨h2, by omega⟩, by rw [← h1]⟩, h4⟩
theorem rows_mem {q : Pr → Bool} {l1 c1 c2 n : Int} {p : Pr} : p ∈ rows q l1 c1 c2 n ↔ (l1 ≤ p.1 ∧ p.1 < n ∧ c1 ≤ p.2 ∧ p.2 ≤ c2) ∧ q p = true := by
  unfold rows
  rw [List.mem_flatMap]
  constructor
  · rintro ⟨m, hm, h⟩
    have h1 := mem_iota.1 hm
    obtain ⟨⟨h2, h3, h4⟩, h5⟩ := row_mem.1 h
    exact ⟨⟨by omega, by omega, h3, by omega⟩, h5⟩
  · rintro ⟨⟨h1, h2, h3, h4⟩, h5⟩
    exact ⟨p.1, mem_iota.2 ⟨h1, by omega⟩, row_mem.2 ⟨⟨rfl, h3, by omega⟩, h5⟩⟩
theorem pairs_mem {B : Blk} {p : Pr} : p ∈ pairsV B ↔ (B.l1 ≤ p.1 ∧ p.1 ≤ B.l2 ∧ B.c1 ≤ p.2 ∧ p.2 ≤ B.c2) ∧ okP B.mark B.rs p = true := by
  unfold pairsV
  rw [rows_mem]
  constructor
  · rintro ⟨⟨h1, h2, h3, h4⟩, h5⟩; exact ⟨⟨h1, by omega, h3, h4⟩, h5⟩
  · rintro ⟨⟨h1, h2, h3, h4⟩, h5⟩; exact ⟨⟨h1, by omega, h3, h4⟩, h5⟩
theorem nodup_map {α β : Type} {f : α → β} {l : List α} (h : l.Nodup) (hf : ∀ x y, f x = f y → x = y) : (l.map f).Nodup := by
  unfold List.Nodup
  rw [List.pairwise_map]
  exact List.Pairwise.imp (fun hne e => hne (hf _ _ e)) h
theorem iota_nodup (a b : Int) : (iota a b).Nodup := by
  unfold iota
  refine nodup_map List.nodup_range fun x y h => ?_
  have h : a + (x : Int) = a + (y : Int) := h
  omega
theorem row_nodup (q : Pr → Bool) (n c1 a : Int) : (row q n c1 a).Nodup := by
  unfold row
  exact List.Pairwise.filter _ (nodup_map (iota_nodup _ _) fun x y h => (Prod.mk.inj h).2)
theorem rows_nodup (q : Pr → Bool) (l1 c1 c2 : Int) : ∀ (k : Nat), (rows q l1 c1 c2 (l1 + k)).Nodup
  | 0 => by rw [Int.natCast_zero, Int.add_zero, rows_first]; exact List.nodup_nil
  | k + 1 => by
    rw [show l1 + ((k + 1 : Nat) : Int) = l1 + k + 1 by push_cast; omega, rows_next (by omega), List.nodup_append]
    refine ⟨rows_nodup q l1 c1 c2 k, row_nodup _ _ _ _, fun x hx y hy h => ?_⟩
    subst h
    have h1 := (rows_mem.1 hx).1
    have h2 := (row_mem.1 hy).1
    omega
theorem pairs_nodup (B : Blk) : (pairsV B).Nodup := by
  unfold pairsV
  rcases Int.le_total B.l1 (B.l2 + 1) with h | h
  · obtain ⟨k, hk⟩ : ∃ k : Nat, B.l2 + 1 = B.l1 + k := ⟨(B.l2 + 1 - B.l1).toNat, by omega⟩
    rw [hk]
    exact rows_nodup _ _ _ _ _
  · unfold rows
    rw [iota_nil (by omega)]
    exact List.nodup_nil

/-! ### Pairs as keys -/
def encP (p : Pr) : SV := .agg [.si .i64 p.1, .si .i64 p.2]
def encB (b : Bool) : SV := .sb b
theorem encP_key : KeyT T 90 encP where
  ty := ⟨_, rfl⟩
  chk := fun a => by kernel_rfl
  eq := fun a b => by
    have h : eqC T 9 90 (encP a) (encP b) = some (decide (a.1 = b.1) && (decide (a.2 = b.2) && true)) := by kernel_rfl
    rw [h]
    congr 1
    rw [Bool.eq_iff_iff]
    obtain ⟨a1, a2⟩ := a
    obtain ⟨b1, b2⟩ := b
    simp
  cl := fun a => ⟨.agg #[.int .i64 a.1, .int .i64 a.2], rfl⟩
  same := fun a => by
    have : cv (encP a) = .agg #[.int .i64 a.1, .int .i64 a.2] := rfl
    rw [this]
    simp [Instr.sameBits]
theorem encB_cl : Closed encB := fun a => ⟨.bool a, rfl⟩
/-- What is told, entry by entry. -/
def tellM (l : List Pr) : List (Pr × Bool) := l.foldl (fun m p => updA m p true) []
theorem tellM_snoc (l : List Pr) (p : Pr) : tellM (l ++ [p]) = updA (tellM l) p true := by
  simp [tellM, List.foldl_append]
theorem updA_new {κ ν : Type} [DecidableEq κ] : ∀ {m : List (κ × ν)} {k : κ} {v : ν}, k ∉ m.map (·.1) → updA m k v = m ++ [(k, v)]
  | [], _, _, _ => rfl
  | p :: r, k, v, h => by
    simp only [List.map_cons, List.mem_cons, not_or] at h
    rw [updA, if_neg (Ne.symm h.1), updA_new h.2]
    rfl
theorem tellM_eq {l : List Pr} (h : l.Nodup) : tellM l = l.map fun p => (p, true) := by
  have key : ∀ (l : List Pr) (m : List (Pr × Bool)), (m.map (·.1) ++ l).Nodup → l.foldl (fun m p => updA m p true) m = m ++ l.map fun p => (p, true) := by
    intro l
    induction l with
    | nil => intro m _; simp
    | cons x r ih =>
      intro m hm
      have hx : x ∉ m.map (·.1) := by
        intro hx
        have := (List.nodup_append.1 hm).2.2 x hx x List.mem_cons_self
        exact this rfl
      rw [List.foldl_cons, updA_new hx, ih _ (by simpa [List.append_assoc] using hm)]
      simp
  have := key l [] (by simpa using h)
  simpa [tellM] using this
end Go.X.W
end

section
set_option linter.unusedVariables false
set_option linter.unusedSimpArgs false
set_option linter.unusedSectionVars false
/- Warm: all pairs, as the program tells them. -/
set_option linter.unusedVariables false
set_option linter.unusedSimpArgs false
set_option maxRecDepth 10000
set_option maxHeartbeats 2000000
namespace Go.X.W
open Go Go.Proofs Go.X

theorem rdOk_b {r : Rd} (h : rdOk r = true) : -100 ≤ r.1 ∧ r.1 ≤ r.2.1 ∧ r.2.1 ≤ 100 ∧ r.2.1 - r.1 ≤ 4 ∧ -30000 ≤ r.2.2.1 ∧ r.2.2.1 ≤ r.2.2.2 ∧ r.2.2.2 ≤ 30000 := by
  simp only [rdOk, spanB, Bool.and_eq_true, decide_eq_true_eq] at h
  omega
theorem blk_b {B : Blk} (h : blkOk B = true) : (1 ≤ B.mark ∧ B.mark ≤ 100) ∧ (-1000 ≤ B.l1 ∧ B.l1 ≤ B.l2 ∧ B.l2 ≤ 1000 ∧ B.l2 - B.l1 ≤ 24) ∧ (0 ≤ B.c1 ∧ B.c1 ≤ B.c2 ∧ B.c2 ≤ 20 ∧ B.c2 - B.c1 ≤ 3) ∧ B.rs.length ≤ 5 ∧ ∀ r ∈ B.rs, rdOk r = true := by
  simp only [blkOk, headOk, inB, spanB, Bool.and_eq_true, decide_eq_true_eq, List.all_eq_true] at h
  obtain ⟨⟨⟨⟨h1, h2⟩, h3⟩, h4⟩, h5⟩ := h
  exact ⟨h1, by omega, by omega, by omega, h5⟩
theorem okP_any {n : Nat} {mk x y : Int} {rd : Nat → Rd} : (List.range n).any (fun i => !canV mk (x, y) (rd i)) = !okP mk ((List.range n).map rd) (x, y) := by
  unfold okP
  rw [List.all_map, List.not_all_eq_any_not]
  rfl

/-! ### pairs -/
def c85 : Ct := fun fr args H => match args with
  | [.sp bid 0] => (match H bid with
    | some (.cells 138 [.si .i64 mk, .si .i64 l1, .si .i64 l2, .si .i64 c1, .si .i64 c2, .sl id]) => (match sliceOf 4 H id with
      | some (n, get) => some ⟨some (Rds n get), none, .fn (.func 106) [] [.sp fr 0], [(fr, .cells 86 [.sp bid 0])]⟩
      | none => none)
    | _ => none)
  | _ => none
theorem c85_mono : CtMono c85 := by
  intro fr args H H' out hH h
  unfold c85 at h ⊢
  split at h
  · split at h
    · rename_i e1
      rw [hH _ _ e1]
      split at h
      · rename_i e
        simp only [sliceOf_mono hH e]
        exact h
      · cases h
    · cases h
  · cases h
theorem k85 {l : List (Nat × Ct)} (g : Good P T l) : COk P 85 c85 := by
  refine cok (C := tabC _) g.ok Try.func85 (c := code Try.f85) rfl fun fr args H out h hp => ?_
  unfold c85 at h
  split at h
  · rename_i bid
    split at h
    · rename_i mk l1 l2 c1 c2 id e1
      split at h
      · rename_i n get e
        cases h
        have hh := bkHand e1 e hp
        refine ⟨bkP bid id n mk l1 l2 c1 c2 (rdAt get), [.sp 0 0], bkH n mk l1 l2 c1 c2 (rdAt get), 2, [2], rfl, rfl, Nat.le_of_ble_eq_true rfl, hh, rfl, rfl, fun G hG => ?_⟩
        exact ⟨.inl rfl, ⟨rfl, rfl, ⟨rfl, ⟨⟨rfl, ⟨rfl, rfl⟩, trivial⟩, rfl⟩, trivial⟩, ⟨⟨rfl, ⟨rfl, rfl⟩, ⟨rfl, rfl⟩, ⟨rfl, rfl⟩, ⟨rfl, rfl⟩, ⟨rfl, rfl⟩, rfl, trivial⟩, trivial, trivial⟩, rfl, rfl⟩⟩
      · cases h
    · cases h
  · cases h
theorem g85 {l : List (Nat × Ct)} (g : Good P T l) : Good P T ((85, c85) :: l) := g.add (k85 g) c85_mono (body_of Try.func85 (c := code Try.f85) rfl (by decide))
theorem b106 : Body P 106 := body_of Try.func106 (c := code Try.f106) rfl (by decide)
theorem lookA_new {κ ν : Type} [DecidableEq κ] : ∀ {m : List (κ × ν)} {k : κ}, k ∉ m.map (·.1) → lookA m k = none
  | [], _, _ => rfl
  | p :: r, k, h => by
    simp only [List.map_cons, List.mem_cons, not_or] at h
    rw [lookA, if_neg (Ne.symm h.1)]
    exact lookA_new h.2
theorem tellM_len (B : Blk) : (tellM (pairsV B)).length = (pairsV B).length := by rw [tellM_eq (pairs_nodup B), List.length_map]

/-! ### told -/
def c67 : Ct := fun fr args H =>
  match args with
  | [.sp bid 0] => (match H bid with
    | some (.cells 138 [.si .i64 mk, .si .i64 l1, .si .i64 l2, .si .i64 c1, .si .i64 c2, .sl id]) => (match sliceOf 4 H id with
      | some (n, get) => some ⟨some (Rds n get ∧ blkOk ⟨mk, l1, l2, c1, c2, rdL n get⟩ = true), some (!decide ((0 : Int) < ((pairsV ⟨mk, l1, l2, c1, c2, rdL n get⟩).length : Int)), refP 10), .sm fr,
          [(fr, .mp (encM encP encB (tellM (pairsV ⟨mk, l1, l2, c1, c2, rdL n get⟩))))]⟩
      | none => none)
    | _ => none)
  | _ => none
theorem c67_mono : CtMono c67 := by
  intro fr args H H' out hH h
  unfold c67 at h ⊢
  split at h
  · split at h
    · rename_i e1
      rw [hH _ _ e1]
      split at h
      · rename_i e
        simp only [sliceOf_mono hH e]
        exact h
      · cases h
    · cases h
  · cases h
theorem k67 : COk P 67 c67 := by
  have g := g85 (g74 (g107 (g95 good0)))
  refine cokM (C := tabC _) g.ok Try.func67 (c := code Try.f67) rfl fun fr args H out h hp => ?_
  unfold c67 at h
  split at h
  · rename_i bid
    split at h
    · rename_i mk l1 l2 c1 c2 id e1
      split at h
      · rename_i n get e
        cases h
        obtain ⟨hs, hok⟩ : Rds n get ∧ blkOk ⟨mk, l1, l2, c1, c2, rdL n get⟩ = true := hp
        have hh := bkHand e1 e hs
        refine ⟨bkP bid id n mk l1 l2 c1 c2 (rdAt get), [.sp 0 0], bkH n mk l1 l2 c1 c2 (rdAt get), 2, [2], rfl, rfl, Nat.le_of_ble_eq_true rfl, hh, rfl, rfl, fun G hG => ?_⟩
        rw [show rdL n get = (List.range n).map (rdAt get) from rfl] at hok ⊢
        generalize rdAt get = rd at hok ⊢
        obtain ⟨hmk, hl, hc, hn, hr⟩ := blk_b hok
        simp only at hmk hl hc
        have hn : n ≤ 5 := by simpa using hn
        have hr : ∀ i, i < n → rdOk (rd i) = true := fun i hi => hr _ (List.mem_map.2 ⟨i, List.mem_range.2 hi, rfl⟩)
        have hr' : ∀ i, i < n → smB 1000 (rd i).1 ∧ smB 1000 (rd i).2.1 := fun i hi => by have := rdOk_b (hr i hi); unfold smB; omega
        refine fb_makeMap (g.ok _ _ _) cont_std rfl rfl rfl rfl rfl ?_
        refine Chk.mk (rds_rd _ _) ?_
        refine rangeFunc_ok (g.ok _ _ _) rfl rfl rfl b106 ?_
        intro fn
        refine callS_exec g.ok Try.func106 (c := code Try.f106) rfl (Nat.le_of_ble_eq_true rfl) fun G2 hG2 => ?_
        refine Chk.mk ⟨rds_rd _ _, by omega⟩ ?_
        obtain ⟨q, hq⟩ : ∃ q : Pr → Bool, okP mk ((List.range n).map rd) = q := ⟨_, rfl⟩
        refine loop_okR (g.ok _ _ _) 10 (fun z : {t : Int // l1 ≤ t ∧ t ≤ l2 + 1} => ⟨[(0, ⟨[], .fy 9⟩), (1, ⟨[], .sp 4 0⟩), (3, ⟨[], .sl 10⟩), (4, ⟨[], .si .i64 z.1⟩)], [],
          [(9, .loop [(3, .sp 3 0)] Try.f67.ntmps fn [8] (rfA (code Try.f67)) (rfB (code Try.f67)) 8 .ready none), (8, .dfr), (10, .ro 4 n fun i => rdC (rd i)), (4, .cells 86 [.sp 0 0]), (3, .cells 107 [.sm 2]), (2, .mp (encM encP encB (tellM (rows q l1 c1 c2 z.1))))] ++ bkH n mk l1 l2 c1 c2 rd, 14, []⟩)
          (fun z => (l2 + 1 - z.1).toNat) hG2 ⟨l1, by omega, by omega⟩ (fun j => j) ?_ ?_
        · refine ⟨?_, ?_, rfl, rfl, rfl, rfl, trivial⟩
          · repeat' (first | exact trivial | exact rfl | refine And.intro ?_ ?_)
          · repeat' (first | exact trivial | exact rfl | (intro i hi; exact ⟨rfl, rfl⟩) | refine allV_find ?_ | refine And.intro ?_ ?_)
            · show List.Perm [] (encM encP encB (tellM (rows q l1 c1 c2 l1)))
              rw [rows_first]
              exact List.Perm.refl _
        · rintro ⟨t, ht1, ht2⟩
          refine Br.mk (fun h => ?_) (fun h => ?_)
          · replace h : t ≤ l2 := of_decide_eq_true h
            refine loop_okR (g.ok _ _ _) 10 (fun z : {a : Int // c1 ≤ a ∧ a ≤ c2 + 1} => ⟨[(0, ⟨[], .fy 9⟩), (1, ⟨[], .sp 4 0⟩), (3, ⟨[], .sl 10⟩), (4, ⟨[], .si .i64 t⟩), (5, ⟨[], .si .i64 z.1⟩)], [],
              [(9, .loop [(3, .sp 3 0)] Try.f67.ntmps fn [8] (rfA (code Try.f67)) (rfB (code Try.f67)) 8 .ready none), (8, .dfr), (10, .ro 4 n fun i => rdC (rd i)), (4, .cells 86 [.sp 0 0]), (3, .cells 107 [.sm 2]), (2, .mp (encM encP encB (tellM (rows q l1 c1 c2 t ++ row q t c1 z.1))))] ++ bkH n mk l1 l2 c1 c2 rd, 14, []⟩)
              (fun z => (c2 + 1 - z.1).toNat) hG2 ⟨c1, by omega, by omega⟩ (fun j => j) ?_ ?_
            · refine ⟨?_, ?_, rfl, rfl, rfl, rfl, trivial⟩
              · repeat' (first | exact trivial | exact rfl | refine And.intro ?_ ?_)
              · repeat' (first | exact trivial | exact rfl | (intro i hi; exact ⟨rfl, rfl⟩) | refine allV_find ?_ | refine And.intro ?_ ?_)
                · show List.Perm (encM encP encB (tellM (rows q l1 c1 c2 t))) (encM encP encB (tellM (rows q l1 c1 c2 t ++ row q t c1 c1)))
                  rw [row_first, List.append_nil]
            · rintro ⟨a, ha1, ha2⟩
              refine Br.mk (fun h2 => ?_) (fun h2 => ?_)
              · replace h2 : a ≤ c2 := of_decide_eq_true h2
                refine Chk.mk ⟨rds_rd _ _, rds_rd _ _, ⟨by omega, by omega⟩, ⟨(show -1000000 ≤ t by omega), (show t ≤ 1000000 by omega)⟩, ⟨(show -1000 ≤ a by omega), (show a ≤ 1000 by omega)⟩, by omega, hr'⟩ ?_
                have hany := okP_any (n := n) (mk := mk) (x := t) (y := a) (rd := rd)
                rw [hq] at hany
                have hrn := row_next (q := q) (n := t) (c1 := c1) (a := a) ha1
                cases hqa : q (t, a) with
                | false =>
                  rw [hqa] at hany hrn
                  refine fb_skip 48 true (g.ok _ _ _) cont_std rfl rfl rfl rfl rfl rfl rfl trivial (by show (!(List.range n).any (fun i => !canV mk (t, a) (rd i))) = !true; rw [hany]; rfl) ?_
                  refine Br.mk (fun h3 => ?_) (fun _ => ?_)
                  · exfalso
                    have h3 : ((!(List.range n).any (fun i => !canV mk (t, a) (rd i))) && _) = true := h3
                    rw [hany] at h3
                    simp at h3
                  refine Chk.mk (show InK .i64 (a + 1) from ⟨by omega, by omega⟩) ⟨⟨a + 1, by omega, by omega⟩, (fun j => j), ?_, (by show (c2 + 1 - (a + 1)).toNat < (c2 + 1 - a).toNat; omega)⟩
                  refine ⟨?_, ?_, rfl, rfl, rfl, rfl, trivial⟩
                  · repeat' (first | exact trivial | exact rfl | refine And.intro ?_ ?_)
                  · repeat' (first | exact trivial | exact rfl | (intro i hi; exact ⟨rfl, rfl⟩) | refine allV_find ?_ | refine And.intro ?_ ?_)
                    · show List.Perm (encM encP encB (tellM (rows q l1 c1 c2 t ++ row q t c1 a))) (encM encP encB (tellM (rows q l1 c1 c2 t ++ row q t c1 (a + 1))))
                      rw [hrn]
                      simp
                | true =>
                  rw [hqa] at hany hrn
                  refine fb_run rfl rfl ⟨trivial, rfl, (by show (!(List.range n).any (fun i => !canV mk (t, a) (rd i))) = true; rw [hany]; rfl)⟩ ?_
                  refine fb_yield 9 g.ok (g.ok _ _ _) cont_std rfl rfl rfl rfl rfl rfl rfl rfl rfl (by decide) ?_
                  intro G4 r hG4
                  refine fb_update encP encB (tellM (rows q l1 c1 c2 t ++ row q t c1 a)) (t, a) true (tellM (rows q l1 c1 c2 t ++ row q t c1 (a + 1))) (by rw [hrn, if_pos rfl, ← List.append_assoc, tellM_snoc]) 2 (g.ok _ _ _) cont_std rfl (.inl rfl) rfl rfl rfl rfl encP_key encB_cl rfl rfl rfl rfl ?_
                  intro _
                  refine Br.mk (fun h3 => ?_) (fun _ => ?_)
                  · exfalso
                    have h3 : ((!(List.range n).any (fun i => !canV mk (t, a) (rd i))) && false) = true := h3
                    simp at h3
                  refine Chk.mk (show InK .i64 (a + 1) from ⟨by omega, by omega⟩) ⟨⟨a + 1, by omega, by omega⟩, (fun j => j), ?_, (by show (c2 + 1 - (a + 1)).toNat < (c2 + 1 - a).toNat; omega)⟩
                  refine ⟨?_, ?_, rfl, rfl, rfl, rfl, trivial⟩
                  · repeat' (first | exact trivial | exact rfl | refine And.intro ?_ ?_)
                  · repeat' (first | exact trivial | exact rfl | (intro i hi; exact ⟨rfl, rfl⟩) | refine allV_find ?_ | refine And.intro ?_ ?_)
                    · exact List.Perm.refl _
              · replace h2 : ¬ a ≤ c2 := of_decide_eq_false h2
                obtain rfl : a = c2 + 1 := by omega
                refine Chk.mk (show InK .i64 (t + 1) from ⟨by omega, by omega⟩) ⟨⟨t + 1, by omega, by omega⟩, (fun j => j), ?_, (by show (l2 + 1 - (t + 1)).toNat < (l2 + 1 - t).toNat; omega)⟩
                refine ⟨?_, ?_, rfl, rfl, rfl, rfl, trivial⟩
                · repeat' (first | exact trivial | exact rfl | refine And.intro ?_ ?_)
                · repeat' (first | exact trivial | exact rfl | (intro i hi; exact ⟨rfl, rfl⟩) | refine allV_find ?_ | refine And.intro ?_ ?_)
                  · show List.Perm (encM encP encB (tellM (rows q l1 c1 c2 t ++ row q t c1 (c2 + 1)))) (encM encP encB (tellM (rows q l1 c1 c2 (t + 1))))
                    rw [rows_next ht1]
          · replace h : ¬ t ≤ l2 := of_decide_eq_false h
            obtain rfl : t = l2 + 1 := by omega
            have hpv : pairsV ⟨mk, l1, l2, c1, c2, (List.range n).map rd⟩ = rows q l1 c1 c2 (l2 + 1) := by rw [← hq]; rfl
            have hlen := tellM_len ⟨mk, l1, l2, c1, c2, (List.range n).map rd⟩
            rw [hpv] at hlen ⊢
            refine fb_mapLen encP encB (tellM (rows q l1 c1 c2 (l2 + 1))) 2 (g.ok _ _ _) cont_std rfl rfl rfl rfl rfl rfl rfl rfl rfl rfl encP_key encB_cl rfl rfl ?_
            rw [hlen]
            refine Br.mk (fun h => ?_) (fun h => ?_)
            · have h : (!decide ((0 : Int) < ((rows q l1 c1 c2 (l2 + 1)).length : Int))) = true := h
              exact ⟨by rw [h], ⟨rfl, ⟨rfl, rfl⟩, ⟨rfl, rfl⟩, ⟨rfl, rfl⟩, ⟨rfl, rfl⟩, ⟨rfl, rfl⟩, rfl, trivial⟩, trivial, trivial⟩
            · have h : (!decide ((0 : Int) < ((rows q l1 c1 c2 (l2 + 1)).length : Int))) = false := h
              exact ⟨.inr ⟨_, by rw [h]⟩, ⟨rfl, rfl, ⟨rfl, List.Perm.refl _, trivial⟩, ⟨⟨rfl, ⟨rfl, rfl⟩, ⟨rfl, rfl⟩, ⟨rfl, rfl⟩, ⟨rfl, rfl⟩, ⟨rfl, rfl⟩, rfl, trivial⟩, trivial, trivial⟩, rfl, rfl⟩⟩
      · cases h
    · cases h
  · cases h
theorem g67 {l : List (Nat × Ct)} (g : Good P T l) : Good P T ((67, c67) :: l) := g.add k67 c67_mono (body_of Try.func67 (c := code Try.f67) rfl (by decide))
end Go.X.W
end

section
set_option linter.unusedVariables false
set_option linter.unusedSimpArgs false
set_option linter.unusedSectionVars false
/- Warm: the ends of numbers; closures that are asked for numbers. -/
set_option linter.unusedVariables false
set_option linter.unusedSimpArgs false
set_option maxRecDepth 10000
set_option maxHeartbeats 2000000
namespace Go.X.W
open Go Go.Proofs Go.X

def endF (s : Int × Int) (n : Int) : Int × Int := (min s.1 n, max s.2 n)
def endsV (l : List Int) : Int × Int := l.foldl endF (1099511627776, -1099511627776)
theorem endsV_append (l m : List Int) : endsV (l ++ m) = m.foldl endF (endsV l) := by simp [endsV, List.foldl_append]
theorem endsV_snoc (l : List Int) (n : Int) : endsV (l ++ [n]) = endF (endsV l) n := by simp [endsV, List.foldl_append]
theorem endF_comm (s : Int × Int) (a b : Int) : endF (endF s a) b = endF (endF s b) a := by
  simp only [endF, Prod.mk.injEq]
  omega
theorem endsV_perm {l m : List Int} (h : l.Perm m) : endsV l = endsV m := by
  have key : ∀ (l m : List Int), l.Perm m → ∀ s, l.foldl endF s = m.foldl endF s := by
    intro l m h
    induction h with
    | nil => intro s; rfl
    | cons x _ ih => intro s; exact ih _
    | swap x y l => intro s; simp only [List.foldl_cons]; rw [endF_comm]
    | trans _ _ ih1 ih2 => intro s; rw [ih1, ih2]
  exact key l m h _

/-! ### with, one -/
def c100 : Ct := plainCt fun
  | [.agg [.si .i64 a, .si .i64 b], .si .i64 n] => some ⟨none, none, .agg [.si .i64 (endF (a, b) n).1, .si .i64 (endF (a, b) n).2], []⟩
  | _ => none
theorem k100 {l : List (Nat × Ct)} (g : Good P T l) : COk P 100 c100 := by
  refine cok (C := tabC _) g.ok Try.func100 (c := code Try.f100) rfl fun fr args H out h hp => ?_
  simp only [c100, plainCt] at h
  split at h
  · rename_i a b n
    cases h
    refine walk_plain rfl (Nat.le_of_ble_eq_true rfl) fun G hG => ?_
    exact Chk.mk ⟨by decide, by decide⟩ (Chk.mk ⟨by decide, by decide⟩ ⟨.inl rfl, end_plain ⟨⟨rfl, rfl⟩, ⟨rfl, rfl⟩, trivial⟩ rfl rfl⟩)
  · cases h
theorem g100 {l : List (Nat × Ct)} (g : Good P T l) : Good P T ((100, c100) :: l) := g.add (k100 g) (plainCt_mono _) (body_of Try.func100 (c := code Try.f100) rfl (by decide))
def c60 : Ct := fun fr args _ => match args with
  | [.si .i64 n] => some ⟨none, none, .fn (.func 114) [] [.sp fr 0], [(fr, .cells 116 [.si .i64 n, .si .i64 n])]⟩
  | _ => none
theorem c60_mono : CtMono c60 := by
  intro fr args H H' out hH h
  unfold c60 at h ⊢
  exact h
theorem k60 {l : List (Nat × Ct)} (g0 : Good P T l) : COk P 60 c60 := by
  have g := g101 g0
  refine cok (C := tabC _) g.ok Try.func60 (c := code Try.f60) rfl fun fr args H out h hp => ?_
  unfold c60 at h
  split at h
  · rename_i n
    cases h
    refine ⟨[], [.si .i64 n], [], 0, [0], rfl, rfl, Nat.le_of_ble_eq_true rfl, hand_nil H, rfl, rfl, fun G hG => ?_⟩
    exact ⟨.inl rfl, ⟨rfl, rfl, ⟨rfl, ⟨⟨rfl, ⟨rfl, rfl⟩, ⟨rfl, rfl⟩, trivial⟩, rfl⟩, trivial⟩, trivial, rfl, rfl⟩⟩
  · cases h
theorem g60 {l : List (Nat × Ct)} (g : Good P T l) : Good P T ((60, c60) :: l) := g.add (k60 g) c60_mono (body_of Try.func60 (c := code Try.f60) rfl (by decide))
def c59 : Ct := fun fr args _ => match args with
  | [.agg [.si .i64 n, .si .i64 a]] => some ⟨none, none, .fn (.func 114) [] [.sp fr 0], [(fr, .cells 116 [.si .i64 n, .si .i64 n])]⟩
  | _ => none
theorem c59_mono : CtMono c59 := by
  intro fr args H H' out hH h
  unfold c59 at h ⊢
  exact h
theorem k59 {l : List (Nat × Ct)} (g0 : Good P T l) : COk P 59 c59 := by
  have g := g60 g0
  refine cok (C := tabC _) g.ok Try.func59 (c := code Try.f59) rfl fun fr args H out h hp => ?_
  unfold c59 at h
  split at h
  · rename_i n a
    cases h
    refine ⟨[], [.agg [.si .i64 n, .si .i64 a]], [], 0, [1], rfl, rfl, Nat.le_of_ble_eq_true rfl, hand_nil H, rfl, rfl, fun G hG => ?_⟩
    exact ⟨.inl rfl, ⟨rfl, rfl, ⟨rfl, ⟨⟨rfl, ⟨rfl, rfl⟩, ⟨rfl, rfl⟩, trivial⟩, rfl⟩, trivial⟩, trivial, rfl, rfl⟩⟩
  · cases h
theorem g59 {l : List (Nat × Ct)} (g : Good P T l) : Good P T ((59, c59) :: l) := g.add (k59 g) c59_mono (body_of Try.func59 (c := code Try.f59) rfl (by decide))
def c73 : Ct := fun fr args _ => match args with
  | [.agg [.si .i64 n, .si .i64 a]] => some ⟨none, none, .fn (.func 114) [] [.sp fr 0], [(fr, .cells 116 [.si .i64 a, .si .i64 a])]⟩
  | _ => none
theorem c73_mono : CtMono c73 := by
  intro fr args H H' out hH h
  unfold c73 at h ⊢
  exact h
theorem k73 {l : List (Nat × Ct)} (g0 : Good P T l) : COk P 73 c73 := by
  have g := g60 g0
  refine cok (C := tabC _) g.ok Try.func73 (c := code Try.f73) rfl fun fr args H out h hp => ?_
  unfold c73 at h
  split at h
  · rename_i n a
    cases h
    refine ⟨[], [.agg [.si .i64 n, .si .i64 a]], [], 0, [1], rfl, rfl, Nat.le_of_ble_eq_true rfl, hand_nil H, rfl, rfl, fun G hG => ?_⟩
    exact ⟨.inl rfl, ⟨rfl, rfl, ⟨rfl, ⟨⟨rfl, ⟨rfl, rfl⟩, ⟨rfl, rfl⟩, trivial⟩, rfl⟩, trivial⟩, trivial, rfl, rfl⟩⟩
  · cases h
theorem g73 {l : List (Nat × Ct)} (g : Good P T l) : Good P T ((73, c73) :: l) := g.add (k73 g) c73_mono (body_of Try.func73 (c := code Try.f73) rfl (by decide))

/-- Of all pairs. -/
def hullV (B : Blk) (L : Pr → List Int) : Int × Int := endsV ((pairsV B).flatMap L)
theorem hull_step (L : Pr → List Int) (vis : List ((Pr × Bool) × Nat)) (p : (Pr × Bool) × Nat) : endsV ((vis ++ [p]).flatMap fun x => L x.1.1) = (L p.1.1).foldl endF (endsV (vis.flatMap fun x => L x.1.1)) := by
  rw [List.flatMap_append, endsV_append]
  simp
theorem hull_end {B : Blk} {L : Pr → List Int} {ts : List ((Pr × Bool) × Nat)} (h : (ts.map fun x => x.1).Perm (tellM (pairsV B))) {vis : List ((Pr × Bool) × Nat)} (hv : ts.Perm vis) : endsV (vis.flatMap fun x => L x.1.1) = hullV B L := by
  have h1 : (vis.map fun x => x.1.1).Perm (pairsV B) := by
    have h2 := (((hv.map fun x => x.1).symm.trans h).map fun x : Pr × Bool => x.1)
    rw [tellM_eq (pairs_nodup B), List.map_map, List.map_map] at h2
    simpa [Function.comp_def] using h2
  unfold hullV
  refine endsV_perm ?_
  have h3 := h1.flatMap_right L
  rwa [List.flatMap_map] at h3
end Go.X.W
end
