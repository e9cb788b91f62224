/- Contracts of functions of the package stack and of its document, for every input. -/
import Derived.Test.YtacaohoiekglfaaMB
import Derived.Test.YtacaohoiekglfaaMC

section
set_option linter.unusedVariables false
set_option linter.unusedSimpArgs false
set_option linter.unusedSectionVars false
/- Stack: the small functions. -/
set_option linter.unusedVariables false
set_option linter.unusedSimpArgs false
set_option maxRecDepth 10000
set_option maxHeartbeats 1000000
namespace Go.X.S
open Go Go.Proofs Go.X

noncomputable abbrev P : Program := Try.prog
def pl : List Nat := [24, 62]
theorem pl_ok : PlainOk P pl := by
  intro t ht
  simp only [pl, List.mem_cons, List.not_mem_nil, or_false] at ht
  rcases ht with rfl | rfl
  · exact ⟨by kernel_rfl, by kernel_rfl, by decide⟩
  · exact ⟨by kernel_rfl, by kernel_rfl, by decide⟩
noncomputable abbrev T : Tab := tabP P pl
theorem fol : P.follows .mixedOrders = true := by kernel_rfl
theorem good0 : Good P T [] := ⟨tabP_ok pl_ok, fun p h => by cases h⟩

def code (f : Func) : Code := match f.body with
  | some c => c
  | none => .skip

/-! ### within, in -/
def c61 : Ct := plainCt fun
  | [.si .i64 a, .si .i64 b, .si .i64 c] => some ⟨none, none, .sb (decide (b ≤ a) && decide (a ≤ c)), []⟩
  | _ => none
theorem k61 {l : List (Nat × Ct)} (g : Good P T l) : COk P 61 c61 := cok (C := tabC l) g.ok Try.func61 (c := code Try.f61) rfl fun fr args H out h hp => by
  simp only [c61, plainCt] at h
  split at h
  · cases h
    refine walk_plain rfl (Nat.le_of_ble_eq_true rfl) fun G hG => ?_
    refine ⟨.inl rfl, end_plain rfl rfl rfl⟩
  · cases h


theorem k64 {l : List (Nat × Ct)} (g : Good P T l) : COk P 64 c61 := cok (C := tabC l) g.ok Try.func64 (c := code Try.f64) rfl fun fr args H out h hp => by
  simp only [c61, plainCt] at h
  split at h
  · cases h
    refine walk_plain rfl (Nat.le_of_ble_eq_true rfl) fun G hG => ?_
    refine ⟨.inl rfl, end_plain rfl rfl rfl⟩
  · cases h

/-! ### power -/
def c51 : Ct := plainCt fun
  | [.si .i64 n] => some ⟨some (n ≤ 62), none, .si .i64 (2 ^ n.toNat), []⟩
  | _ => none
theorem pow_le {n : Nat} (h : n ≤ 62) : (0 : Int) < 2 ^ n ∧ (2 : Int) ^ n ≤ 4611686018427387904 := by
  constructor
  · exact Int.pow_pos (by decide)
  · have : (2 : Nat) ^ n ≤ 2 ^ 62 := Nat.pow_le_pow_right (by decide) h
    have h2 : ((2 ^ n : Nat) : Int) ≤ ((2 ^ 62 : Nat) : Int) := by exact_mod_cast this
    rw [Int.natCast_pow] at h2
    exact h2
theorem k51 {l : List (Nat × Ct)} (g : Good P T l) : COk P 51 c51 := cok (C := tabC l) g.ok Try.func51 (c := code Try.f51) rfl fun fr args H out h hp => by
  simp only [c51, plainCt] at h
  split at h
  · rename_i n
    cases h
    have hp : n ≤ 62 := hp
    refine walk_plain rfl (Nat.le_of_ble_eq_true rfl) fun G hG => ?_
    refine loop_ok (g.ok _ _ _) (fun x : {i : Nat // i ≤ n.toNat} => ⟨[(0, ⟨[], .si .i64 n⟩), (3, ⟨[], .si .i64 (2 ^ x.1)⟩), (4, ⟨[], .si .i64 x.1⟩)], [], [], 0, []⟩) (fun x => n.toNat - x.1) (fun _ => hG) ⟨0, Nat.zero_le _⟩ ?_ ?_
    · refine ⟨?_, ?_, rfl, rfl, rfl⟩ <;> repeat' (first | exact trivial | exact rfl | refine And.intro ?_ ?_)
    · rintro ⟨i, hi⟩
      refine Br.mk (fun h => ?_) (fun h => ?_)
      · have h : (i : Int) < n := of_decide_eq_true h
        have := pow_le (n := i) (by omega)
        refine Chk.mk (show _ ∧ _ from ?_) (Chk.mk (show _ ∧ _ from ?_) ⟨⟨i + 1, by omega⟩, ?_, ?_⟩)
        · show _ ≤ (2 : Int) * 2 ^ i ∧ (2 : Int) * 2 ^ i ≤ _
          have h2 := pow_le (n := i + 1) (by omega)
          rw [Int.pow_succ] at h2
          omega
        · show _ ≤ (i : Int) + 1 ∧ (i : Int) + 1 ≤ _
          omega
        · refine ⟨?_, ?_, rfl, rfl, rfl⟩ <;> repeat' (first | exact trivial | exact rfl | refine And.intro ?_ ?_)
          show (2 : Int) * 2 ^ i = 2 ^ (i + 1)
          rw [Int.pow_succ]; omega
        · show n.toNat - (i + 1) < n.toNat - i
          omega
      · have h : ¬ (i : Int) < n := of_decide_eq_false h
        refine ⟨.inl rfl, end_plain ⟨rfl, ?_⟩ rfl rfl⟩
        show (2 : Int) ^ i = 2 ^ n.toNat
        rw [show i = n.toNat by omega]
  · cases h

/-! ### Has, Size -/
theorem g51 {l : List (Nat × Ct)} (g : Good P T l) : Good P T ((51, c51) :: l) := g.add (k51 g) (plainCt_mono _) (body_of Try.func51 (c := code Try.f51) rfl (by decide))

def c54 : Ct := plainCt fun
  | [.si .i64 x, .si .i64 n] => some ⟨some (n ≤ 62 ∧ 0 ≤ x ∧ x < 4611686018427387904), none, .sb (decide ((x.tdiv (2 ^ n.toNat)).tmod 2 = 1)), []⟩
  | _ => none
theorem k54 {l : List (Nat × Ct)} (g0 : Good P T l) : COk P 54 c54 := by
  have g := g51 g0
  refine cok (C := tabC _) g.ok Try.func54 (c := code Try.f54) rfl fun fr args H out h hp => ?_
  simp only [c54, plainCt] at h
  split at h
  · rename_i x n
    cases h
    obtain ⟨hn, hx, hx'⟩ : n ≤ 62 ∧ 0 ≤ x ∧ x < 4611686018427387904 := hp
    refine walk_plain rfl (Nat.le_of_ble_eq_true rfl) fun G hG => ?_
    have hpw := pow_le (n := n.toNat) (by omega)
    refine Chk.mk hn (Chk.mk (show _ ∧ _ from ⟨?_, ?_⟩) (Chk.mk ?_ ⟨.inl rfl, end_plain rfl rfl rfl⟩))
    · show (2 : Int) ^ n.toNat ≠ 0
      omega
    · show _ ≤ x.tdiv (2 ^ n.toNat) ∧ x.tdiv (2 ^ n.toNat) ≤ _
      rw [Int.tdiv_eq_ediv_of_nonneg hx]
      have h1 : 0 ≤ x / 2 ^ n.toNat := Int.ediv_nonneg hx (by omega)
      have h2 : x / 2 ^ n.toNat ≤ x := Int.ediv_le_self _ hx
      omega
    · show (2 : Int) ≠ 0
      decide
  · cases h

/-- How many bits. -/
def sizeN : Nat → Nat
  | 0 => 0
  | n + 1 => (n + 1) % 2 + sizeN ((n + 1) / 2)
decreasing_by omega
theorem sizeN_pos {n : Nat} (h : 0 < n) : sizeN n = n % 2 + sizeN (n / 2) := by
  obtain ⟨m, rfl⟩ : ∃ m, n = m + 1 := ⟨n - 1, by omega⟩
  rw [sizeN]
theorem sizeN_le (n : Nat) : sizeN n ≤ n := by
  induction n using Nat.strongRecOn with
  | _ n ih =>
    rcases Nat.eq_zero_or_pos n with rfl | h
    · simp [sizeN]
    · rw [sizeN_pos h]
      have := ih (n / 2) (by omega)
      omega

def c36 : Ct := plainCt fun
  | [.si .i64 x] => some ⟨some (x < 4611686018427387904), none, .si .i64 (sizeN x.toNat), []⟩
  | _ => none
theorem k36 {l : List (Nat × Ct)} (g : Good P T l) : COk P 36 c36 := cok (C := tabC l) g.ok Try.func36 (c := code Try.f36) rfl fun fr args H out h hp => by
  simp only [c36, plainCt] at h
  split at h
  · rename_i x
    cases h
    have hp : x < 4611686018427387904 := hp
    refine walk_plain rfl (Nat.le_of_ble_eq_true rfl) fun G hG => ?_
    refine loop_ok (g.ok _ _ _) (fun y : {y : Int × Int // y.1 ≤ x ∧ 0 ≤ y.2 ∧ y.2 + sizeN y.1.toNat = sizeN x.toNat} => ⟨[(0, ⟨[], .si .i64 y.1.1⟩), (3, ⟨[], .si .i64 y.1.2⟩)], [], [], 0, []⟩) (fun y => y.1.1.toNat) (fun _ => hG)
      ⟨(x, 0), by refine ⟨by omega, by omega, ?_⟩; simp⟩ ?_ ?_
    · refine ⟨?_, ?_, rfl, rfl, rfl⟩ <;> repeat' (first | exact trivial | exact rfl | refine And.intro ?_ ?_)
    · rintro ⟨⟨y, n⟩, h1, h2, h3⟩
      simp only at h1 h2 h3
      have hle := sizeN_le x.toNat
      refine Br.mk (fun h => ?_) (fun h => ?_)
      · have h : (0 : Int) < y := of_decide_eq_true h
        have e1 : y.tmod 2 = y % 2 := Int.tmod_eq_emod_of_nonneg (by omega)
        have e2 : y.tdiv 2 = y / 2 := Int.tdiv_eq_ediv_of_nonneg (by omega)
        have hs := sizeN_pos (n := y.toNat) (by omega)
        refine Chk.mk (show (2 : Int) ≠ 0 by decide) (Chk.mk (show _ ∧ _ from ?_) (Chk.mk (show _ ∧ _ from ⟨by decide, ?_⟩) ⟨⟨(y / 2, n + y % 2), ?_⟩, ?_, ?_⟩))
        · show _ ≤ n + y.tmod 2 ∧ n + y.tmod 2 ≤ _
          omega
        · show _ ≤ y.tdiv 2 ∧ y.tdiv 2 ≤ _
          omega
        · have e3 : (y / 2).toNat = y.toNat / 2 := by omega
          simp only [e3]
          omega
        · refine ⟨?_, ?_, rfl, rfl, rfl⟩ <;> repeat' (first | exact trivial | exact rfl | refine And.intro ?_ ?_)
          · exact e2
          · show n + y.tmod 2 = n + y % 2
            rw [e1]
        · show (y / 2).toNat < y.toNat
          omega
      · have h : ¬ (0 : Int) < y := of_decide_eq_false h
        refine ⟨.inl rfl, end_plain ⟨rfl, ?_⟩ rfl rfl⟩
        show n = sizeN x.toNat
        rw [show y.toNat = 0 by omega] at h3
        simp [sizeN] at h3
        omega
  · cases h

end Go.X.S
end

section
set_option linter.unusedVariables false
set_option linter.unusedSimpArgs false
set_option linter.unusedSectionVars false
/- Stack: more small functions. -/
set_option linter.unusedVariables false
set_option linter.unusedSimpArgs false
set_option maxRecDepth 10000
set_option maxHeartbeats 1000000
namespace Go.X.S
open Go Go.Proofs Go.X

theorem g61 {l : List (Nat × Ct)} (g : Good P T l) : Good P T ((61, c61) :: l) := g.add (k61 g) (plainCt_mono _) (body_of Try.func61 (c := code Try.f61) rfl (by decide))
theorem g64 {l : List (Nat × Ct)} (g : Good P T l) : Good P T ((64, c61) :: l) := g.add (k64 g) (plainCt_mono _) (body_of Try.func64 (c := code Try.f64) rfl (by decide))
theorem g54 {l : List (Nat × Ct)} (g : Good P T l) : Good P T ((54, c54) :: l) := g.add (k54 g) (plainCt_mono _) (body_of Try.func54 (c := code Try.f54) rfl (by decide))
theorem g36 {l : List (Nat × Ct)} (g : Good P T l) : Good P T ((36, c36) :: l) := g.add (k36 g) (plainCt_mono _) (body_of Try.func36 (c := code Try.f36) rfl (by decide))

/-! ### Length, isLength -/
def c58 : Ct := plainCt fun
  | [.si .i64 n] => some ⟨none, none, .sb (decide (0 ≤ n) && decide (n ≤ 5000)), []⟩
  | _ => none
theorem k58 {l : List (Nat × Ct)} (g0 : Good P T l) : COk P 58 c58 := by
  have g := g64 g0
  refine cok (C := tabC _) g.ok Try.func58 (c := code Try.f58) rfl fun fr args H out h hp => ?_
  simp only [c58, plainCt] at h
  split at h
  · cases h
    refine walk_plain rfl (Nat.le_of_ble_eq_true rfl) fun G hG => ?_
    exact ⟨.inl rfl, end_plain rfl rfl rfl⟩
  · cases h
theorem g58 {l : List (Nat × Ct)} (g : Good P T l) : Good P T ((58, c58) :: l) := g.add (k58 g) (plainCt_mono _) (body_of Try.func58 (c := code Try.f58) rfl (by decide))
theorem k55 {l : List (Nat × Ct)} (g0 : Good P T l) : COk P 55 c58 := by
  have g := g61 g0
  refine cok (C := tabC _) g.ok Try.func55 (c := code Try.f55) rfl fun fr args H out h hp => ?_
  simp only [c58, plainCt] at h
  split at h
  · cases h
    refine walk_plain rfl (Nat.le_of_ble_eq_true rfl) fun G hG => ?_
    exact ⟨.inl rfl, end_plain rfl rfl rfl⟩
  · cases h
theorem g55 {l : List (Nat × Ct)} (g : Good P T l) : Good P T ((55, c58) :: l) := g.add (k55 g) (plainCt_mono _) (body_of Try.func55 (c := code Try.f55) rfl (by decide))

/-! ### Want, isWant, span -/
def c47 : Ct := plainCt fun
  | [.agg [.si .i64 a, .si .i64 b]] => some ⟨none, none, .sb (decide (0 ≤ a) && decide (a ≤ b) && decide (b ≤ 5000)), []⟩
  | _ => none
theorem k47 {l : List (Nat × Ct)} (g : Good P T l) : COk P 47 c47 := by
  refine cok (C := tabC _) g.ok Try.func47 (c := code Try.f47) rfl fun fr args H out h hp => ?_
  simp only [c47, plainCt] at h
  split at h
  · cases h
    refine walk_plain rfl (Nat.le_of_ble_eq_true rfl) fun G hG => ?_
    exact ⟨.inl rfl, end_plain rfl rfl rfl⟩
  · cases h
theorem g47 {l : List (Nat × Ct)} (g : Good P T l) : Good P T ((47, c47) :: l) := g.add (k47 g) (plainCt_mono _) (body_of Try.func47 (c := code Try.f47) rfl (by decide))
theorem k48 {l : List (Nat × Ct)} (g : Good P T l) : COk P 48 c47 := by
  refine cok (C := tabC _) g.ok Try.func48 (c := code Try.f48) rfl fun fr args H out h hp => ?_
  simp only [c47, plainCt] at h
  split at h
  · cases h
    refine walk_plain rfl (Nat.le_of_ble_eq_true rfl) fun G hG => ?_
    exact ⟨.inl rfl, end_plain rfl rfl rfl⟩
  · cases h
theorem g48 {l : List (Nat × Ct)} (g : Good P T l) : Good P T ((48, c47) :: l) := g.add (k48 g) (plainCt_mono _) (body_of Try.func48 (c := code Try.f48) rfl (by decide))
def c35 : Ct := plainCt fun
  | [.si .i64 a, .si .i64 b] => some ⟨none, none, .agg [.si .i64 a, .si .i64 b], []⟩
  | _ => none
theorem k35 {l : List (Nat × Ct)} (g : Good P T l) : COk P 35 c35 := by
  refine cok (C := tabC _) g.ok Try.func35 (c := code Try.f35) rfl fun fr args H out h hp => ?_
  simp only [c35, plainCt] at h
  split at h
  · cases h
    refine walk_plain rfl (Nat.le_of_ble_eq_true rfl) fun G hG => ?_
    exact ⟨.inl rfl, end_plain ⟨⟨rfl, rfl⟩, ⟨rfl, rfl⟩, trivial⟩ rfl rfl⟩
  · cases h
theorem g35 {l : List (Nat × Ct)} (g : Good P T l) : Good P T ((35, c35) :: l) := g.add (k35 g) (plainCt_mono _) (body_of Try.func35 (c := code Try.f35) rfl (by decide))

/-! ### (long).with -/
/-- A span of lengths of stacks of so many blocks, with a block more. -/
def addS (a b n c d e f : Int) : SV := .agg [.si .i64 ((if 0 < n then a + e else a) + c), .si .i64 ((if 0 < n then b + f else b) + d), .si .i64 (n + 1)]
def okB (n : Int) : Prop := -1000000 ≤ n ∧ n ≤ 1000000
def c63 : Ct := plainCt fun
  | [.agg [.si .i64 a, .si .i64 b, .si .i64 n], .agg [.si .i64 c, .si .i64 d], .agg [.si .i64 e, .si .i64 f]] =>
    some ⟨some (okB a ∧ okB b ∧ okB n ∧ okB c ∧ okB d ∧ okB e ∧ okB f), none, addS a b n c d e f, []⟩
  | _ => none
theorem k63 {l : List (Nat × Ct)} (g : Good P T l) : COk P 63 c63 := by
  refine cok (C := tabC _) g.ok Try.func63 (c := code Try.f63) rfl fun fr args H out h hp => ?_
  simp only [c63, plainCt] at h
  split at h
  · rename_i a b n c d e f
    cases h
    obtain ⟨ha, hb, hn, hc, hd, he, hf⟩ : okB a ∧ okB b ∧ okB n ∧ okB c ∧ okB d ∧ okB e ∧ okB f := hp
    unfold okB at ha hb hn hc hd he hf
    refine walk_plain rfl (Nat.le_of_ble_eq_true rfl) fun G hG => ?_
    refine Br.mk (fun h => ?_) (fun h => ?_)
    · have h : 0 < n := of_decide_eq_true h
      refine drawn_ok (g.ok _ _ _) fol [0,1,3,0,8,31,0,64,192,0,512,1984,511,4607,12799,32767,65535,131071] [(14,0),(17,0)] 18 (by kernel_rfl) ?_
      refine Chk.mk (show _ ∧ _ by omega) (Chk.mk (show _ ∧ _ by omega) (Chk.mk (show _ ∧ _ by omega) (Chk.mk (show _ ∧ _ by omega) (Chk.mk (show _ ∧ _ by omega) ?_))))
      refine ⟨.inl rfl, end_plain ?_ rfl rfl⟩
      simp only [addS, if_pos h]
      exact ⟨⟨rfl, rfl⟩, ⟨rfl, rfl⟩, ⟨rfl, rfl⟩, trivial⟩
    · have h : ¬ 0 < n := of_decide_eq_false h
      refine Chk.mk (show _ ∧ _ by omega) (Chk.mk (show _ ∧ _ by omega) (Chk.mk (show _ ∧ _ by omega) ?_))
      refine ⟨.inl rfl, end_plain ?_ rfl rfl⟩
      simp only [addS, if_neg h]
      exact ⟨⟨rfl, rfl⟩, ⟨rfl, rfl⟩, ⟨rfl, rfl⟩, trivial⟩
  · cases h
theorem g63 {l : List (Nat × Ct)} (g : Good P T l) : Good P T ((63, c63) :: l) := g.add (k63 g) (plainCt_mono _) (body_of Try.func63 (c := code Try.f63) rfl (by decide))

/-! ### (stack).with -/
def c72 : Ct := plainCt fun
  | [.si .u64 x, .si .i64 n] => some ⟨some (0 ≤ x ∧ x ≤ 1000000 ∧ 0 ≤ n ∧ n ≤ 40), none, .si .u64 ((x.toNat ||| 2 ^ n.toNat : Nat) : Int), []⟩
  | _ => none
theorem k72 {l : List (Nat × Ct)} (g : Good P T l) : COk P 72 c72 := by
  refine cok (C := tabC _) g.ok Try.func72 (c := code Try.f72) rfl fun fr args H out h hp => ?_
  simp only [c72, plainCt] at h
  split at h
  · rename_i x n
    cases h
    obtain ⟨h1, h2, h3, h4⟩ : 0 ≤ x ∧ x ≤ 1000000 ∧ 0 ≤ n ∧ n ≤ 40 := hp
    have hpw := pow_le (n := n.toNat) (by omega)
    have e : ((1 : Int) * 2 ^ n.toNat).toNat = 2 ^ n.toNat := by
      rw [Int.one_mul]
      exact Int.toNat_natCast (2 ^ n.toNat)
    refine walk_plain rfl (Nat.le_of_ble_eq_true rfl) fun G hG => ?_
    refine Chk.mk (show _ ∧ _ ∧ _ ∧ _ from ⟨h3, ?_, ?_⟩) (Chk.mk (show _ ∧ _ ∧ (_ ∧ _) ∧ _ ∧ _ from ?_) ⟨.inl rfl, end_plain ⟨rfl, ?_⟩ rfl rfl⟩)
    · show n.toNat ≤ 64
      omega
    · show _ ≤ (1 : Int) * 2 ^ n.toNat ∧ (1 : Int) * 2 ^ n.toNat ≤ _
      omega
    · show _ ∧ 0 ≤ (1 : Int) * 2 ^ n.toNat ∧ (_ ∧ _) ∧ _ ≤ (1 : Int) * 2 ^ n.toNat ∧ (1 : Int) * 2 ^ n.toNat ≤ _
      omega
    · show ((x.toNat ||| ((1 : Int) * 2 ^ n.toNat).toNat : Nat) : Int) = _
      rw [e]
  · cases h
theorem g72 {l : List (Nat × Ct)} (g : Good P T l) : Good P T ((72, c72) :: l) := g.add (k72 g) (plainCt_mono _) (body_of Try.func72 (c := code Try.f72) rfl (by decide))

end Go.X.S
end

section
set_option linter.unusedVariables false
set_option linter.unusedSimpArgs false
set_option linter.unusedSectionVars false
/- Stack: how many blocks; which stack comes first; refusals. -/
set_option linter.unusedVariables false
set_option linter.unusedSimpArgs false
set_option maxRecDepth 10000
set_option maxHeartbeats 1000000
namespace Go.X.S
open Go Go.Proofs Go.X

instance instInK (k : IntKind) (n : Int) : Decidable (InK k n) := by cases k <;> (unfold InK; infer_instance)

def c78 : Ct := plainCt fun
  | [.si .u64 x] => some ⟨some (0 ≤ x ∧ x < 256), none, .si .i64 (sizeN x.toNat), []⟩
  | _ => none
theorem k78 {l : List (Nat × Ct)} (g : Good P T l) : COk P 78 c78 := by
  refine cok (C := tabC _) g.ok Try.func78 (c := code Try.f78) rfl fun fr args H out h hp => ?_
  simp only [c78, plainCt] at h
  split at h
  · rename_i x
    cases h
    obtain ⟨h0, h1⟩ : 0 ≤ x ∧ x < 256 := hp
    obtain ⟨n, rfl⟩ : ∃ n : Nat, x = n := ⟨x.toNat, by omega⟩
    have hn : n < 256 := by omega
    refine walk_plain rfl (Nat.le_of_ble_eq_true rfl) fun G hG => ?_
    clear hG h0 h1
    refine Chk.mk ?_ (Chk.mk ?_ (Chk.mk ?_ (Chk.mk ?_ (Chk.mk ?_ (Chk.mk ?_ (Chk.mk ?_ (Chk.mk ?_ (Chk.mk ?_ (Chk.mk ?_ (Chk.mk ?_ (Chk.mk ?_ (Chk.mk ?_ (Chk.mk ?_ (Chk.mk ?_ (Chk.mk ?_ (Chk.mk ?_ (Chk.mk ?_ (Chk.mk ?_ ⟨.inl rfl, end_plain ⟨rfl, ?_⟩ rfl rfl⟩))))))))))))))))))
    all_goals (revert n; decide +kernel)
  · cases h
theorem g78 {l : List (Nat × Ct)} (g : Good P T l) : Good P T ((78, c78) :: l) := g.add (k78 g) (plainCt_mono _) (body_of Try.func78 (c := code Try.f78) rfl (by decide))

theorem k76 {l : List (Nat × Ct)} (g0 : Good P T l) : COk P 76 c78 := by
  have g := g78 g0
  refine cok (C := tabC _) g.ok Try.func76 (c := code Try.f76) rfl fun fr args H out h hp => ?_
  simp only [c78, plainCt] at h
  split at h
  · rename_i x
    cases h
    refine walk_plain rfl (Nat.le_of_ble_eq_true rfl) fun G hG => ?_
    refine Br.mk (fun h => by cases h) (fun _ => Chk.mk hp ⟨.inl rfl, end_plain ⟨rfl, rfl⟩ rfl rfl⟩)
  · cases h
theorem g76 {l : List (Nat × Ct)} (g : Good P T l) : Good P T ((76, c78) :: l) := g.add (k76 g) (plainCt_mono _) (body_of Try.func76 (c := code Try.f76) rfl (by decide))
theorem k75 {l : List (Nat × Ct)} (g0 : Good P T l) : COk P 75 c78 := by
  have g := g76 g0
  refine cok (C := tabC _) g.ok Try.func75 (c := code Try.f75) rfl fun fr args H out h hp => ?_
  simp only [c78, plainCt] at h
  split at h
  · rename_i x
    cases h
    refine walk_plain rfl (Nat.le_of_ble_eq_true rfl) fun G hG => ?_
    exact Chk.mk hp ⟨.inl rfl, end_plain ⟨rfl, rfl⟩ rfl rfl⟩
  · cases h
theorem g75 {l : List (Nat × Ct)} (g : Good P T l) : Good P T ((75, c78) :: l) := g.add (k75 g) (plainCt_mono _) (body_of Try.func75 (c := code Try.f75) rfl (by decide))

/-- Does a stack come before another one? -/
def lessB (x y : Int) : Bool := decide ((sizeN x.toNat : Int) < sizeN y.toNat) || (decide ((sizeN x.toNat : Int) = sizeN y.toNat) && decide (x < y))
def c74 : Ct := plainCt fun
  | [.si .u64 x, .si .u64 y] => some ⟨some (0 ≤ x ∧ x < 256 ∧ 0 ≤ y ∧ y < 256), none, .sb (lessB x y), []⟩
  | _ => none
theorem k74 {l : List (Nat × Ct)} (g0 : Good P T l) : COk P 74 c74 := by
  have g := g75 g0
  refine cok (C := tabC _) g.ok Try.func74 (c := code Try.f74) rfl fun fr args H out h hp => ?_
  simp only [c74, plainCt] at h
  split at h
  · rename_i x y
    cases h
    obtain ⟨h0, h1, h2, h3⟩ : 0 ≤ x ∧ x < 256 ∧ 0 ≤ y ∧ y < 256 := hp
    refine walk_plain rfl (Nat.le_of_ble_eq_true rfl) fun G hG => ?_
    exact Chk.mk ⟨h0, h1⟩ (Chk.mk ⟨h2, h3⟩ (Chk.mk (fun _ => ⟨h0, h1⟩) (Chk.mk (fun _ => ⟨h2, h3⟩) ⟨.inl rfl, end_plain rfl rfl rfl⟩)))
  · cases h
theorem g74 {l : List (Nat × Ct)} (g : Good P T l) : Good P T ((74, c74) :: l) := g.add (k74 g) (plainCt_mono _) (body_of Try.func74 (c := code Try.f74) rfl (by decide))

end Go.X.S
end

section
set_option linter.unusedVariables false
set_option linter.unusedSimpArgs false
set_option linter.unusedSectionVars false
/- Stack: ask, answer. -/
set_option linter.unusedVariables false
set_option linter.unusedSimpArgs false
set_option maxRecDepth 10000
set_option maxHeartbeats 1000000
namespace Go.X.S
open Go Go.Proofs Go.X

def refP (e : Int) : List PanicEntry := [{ v := .iface 94 (.int .i64 e), recovered := false }]
def c53 : Ct := plainCt fun
  | [.sb b, .si .i64 e] => some ⟨none, some (!b, refP e), .tup [], []⟩
  | _ => none
theorem k53 {l : List (Nat × Ct)} (g : Good P T l) : COk P 53 c53 := by
  refine cok (C := tabC _) g.ok Try.func53 (c := code Try.f53) rfl fun fr args H out h hp => ?_
  simp only [c53, plainCt] at h
  split at h
  · rename_i b e
    cases h
    refine walk_plain rfl (Nat.le_of_ble_eq_true rfl) fun G hG => ?_
    refine Br.mk (fun h => ?_) (fun h => ?_)
    · refine fb_panic cont_std rfl rfl rfl ?_
      exact ⟨by rw [h]; rfl, trivial⟩
    · exact ⟨.inr ⟨_, by rw [h]⟩, end_plain trivial rfl rfl⟩
  · cases h
theorem g53 {l : List (Nat × Ct)} (g : Good P T l) : Good P T ((53, c53) :: l) := g.add (k53 g) (plainCt_mono _) (body_of Try.func53 (c := code Try.f53) rfl (by decide))

theorem answer_ok : AnswerOk P 40 94 29 := by
  refine answer_of (T := T) (tabP_ok pl_ok) Try.func40 rfl (by decide) rfl rfl rfl rfl rfl rfl rfl rfl (by decide) (by decide) (by decide) (by decide) (by decide) ?_ ?_
  · intro x G hG
    refine Br.mk (fun h => by cases h) (fun _ => rfl)
  · intro x k m G hG
    refine Br.mk (fun _ => ?_) (fun h => by cases h)
    refine Br.mk (fun h => by cases h) (fun _ => rfl)

end Go.X.S
end

section
set_option linter.unusedVariables false
set_option linter.unusedSimpArgs false
set_option linter.unusedSectionVars false
/- Stack: functions of a set of blocks. -/
set_option linter.unusedVariables false
set_option linter.unusedSimpArgs false
set_option maxRecDepth 10000
set_option maxHeartbeats 1000000
namespace Go.X.S
open Go Go.Proofs Go.X

/-- A contract of a function of a set of blocks, and of more that holds no ids. -/
def stCt (k : List Span → Int → Int → List SV → Option (Option Prop × SV)) : Ct := fun _ args H =>
  match args with
  | .agg [.sl id, .si .i64 lo, .si .i64 hi] :: r => (match sliceOf 2 H id with
    | some (n, get) => (match k (spanL n get) lo hi r with
      | some (p, v) => some ⟨some (Spans n get ∧ knL 0 [] r = true ∧ PreH p), none, v, []⟩
      | none => none)
    | none => none)
  | _ => none
theorem stCt_mono (k : List Span → Int → Int → List SV → Option (Option Prop × SV)) : CtMono (stCt k) := by
  intro fr args H H' out hH h
  unfold stCt at h ⊢
  split at h
  · rename_i id lo hi r
    split at h
    · rename_i n get e
      simp only [sliceOf_mono hH e]
      exact h
    · cases h
  · cases h

/-- Its walk. -/
theorem stWalk {C : Nat → Option Ct} {fn : Func} {c : Code} {k : List Span → Int → Int → List SV → Option (Option Prop × SV)} {fr : Nat} {args : List SV} {H : LH} {out : COut} (ho : stCt k fr args H = some out) (hp : PreH out.pre)
    (h : ∀ (n : Nat) (sp : Nat → Span) (lo hi : Int) (r : List SV) (p : Option Prop) (v : SV) (Rv : SV → St → Prop) (Rp : List PanicEntry → St → Prop), k ((List.range n).map sp) lo hi r = some (p, v) → PreH p →
      (∀ v' st, SVeq v' v → knSV 0 [] v' = true → Rv v' st) → r.length + 1 ≤ fn.ntmps ∧
      ∀ G : Base, (∀ j, 1 ≤ j → G.ρ j = none) → exec ⟨P, T, C, G, none, fn.ntmps⟩ c (start (.agg [.sl 0, .si .i64 lo, .si .i64 hi] :: r) [(0, .ro 2 n fun i => spanC (sp i))] 1) (Fin ⟨P, T, C, G, none, fn.ntmps⟩ fn.results.toList Rv Rp)) :
    Walk P T C fn c H args fr out := by
  unfold stCt at ho
  split at ho
  · rename_i id lo hi r
    split at ho
    · rename_i n get e
      split at ho
      · rename_i p v hk
        cases ho
        obtain ⟨hs, hr, hp⟩ : Spans n get ∧ knL 0 [] r = true ∧ PreH p := hp
        have hh : Hand H [(id, .ro 2 n fun i => spanC (spanAt get i))] := hand_one e (fun i => rfl) (fun i hi => (hs i hi).symm)
        have h0 := h n (spanAt get) lo hi r p v (fun v' st => ((none : Option (Bool × List PanicEntry)) = none ∨ ∃ ch, (none : Option (Bool × List PanicEntry)) = some (false, ch)) ∧ EndOk [(id, .ro 2 n fun i => spanC (spanAt get i))] [] fr ⟨some (Spans n get ∧ knL 0 [] r = true ∧ PreH p), none, v, []⟩ v' st)
          (fun ch st => (none : Option (Bool × List PanicEntry)) = some (true, ch) ∧ keepP st.H [(0, .ro 2 n fun i => spanC (spanAt get i))]) hk hp
          (fun v' st h1 h2 => ⟨.inl rfl, end_noid h1 h2 rfl ⟨trivial, trivial⟩⟩)
        refine ⟨[(id, .ro 2 n fun i => spanC (spanAt get i))], .agg [.sl 0, .si .i64 lo, .si .i64 hi] :: r, [(0, .ro 2 n fun i => spanC (spanAt get i))], 1, [], ?_, ?_, h0.1, hh, rfl, rfl, h0.2⟩
        · show _ = renSV _ _ :: renL _ r
          rw [renL_none r hr]
          rfl
        · show (match knSV 1 [] (.agg [.sl 0, .si .i64 lo, .si .i64 hi]) with
            | true => knL 1 [] r
            | false => false) = true
          exact knL_up r hr
      · cases ho
    · cases ho
  · cases ho

/-! ### far, isSet, Set -/
def c13 : Ct := stCt fun L _ _ r => match r with
  | [] => some (none, .sb (decide ((40 : Int) < L.length)))
  | _ => none
theorem k13 {l : List (Nat × Ct)} (g : Good P T l) : COk P 13 c13 := by
  refine cok (C := tabC _) g.ok Try.func13 (c := code Try.f13) rfl fun fr args H out h hp => stWalk h hp fun n sp lo hi r p v Rv Rp hk hp hR => ?_
  split at hk
  · cases hk
    refine ⟨Nat.le_of_ble_eq_true rfl, fun G hG => ?_⟩
    exact hR _ _ (by show (decide ((40 : Int) < (n : Int)) : Bool) = decide ((40 : Int) < _); simp) rfl
  · cases hk

def c42 : Ct := stCt fun L _ _ r => match r with
  | [.si .i64 n] => some (some (L.length ≤ 40), .sb (decide (1 ≤ n) && decide (n ≤ 2 ^ L.length - 1)))
  | _ => none
theorem k42 {l : List (Nat × Ct)} (g0 : Good P T l) : COk P 42 c42 := by
  have g := g61 g0
  refine cok (C := tabC _) g.ok Try.func42 (c := code Try.f42) rfl fun fr args H out h hp => stWalk h hp fun n sp lo hi r p v Rv Rp hk hp hR => ?_
  split at hk
  · rename_i m
    cases hk
    have hp : ((List.range n).map sp).length ≤ 40 := hp
    have hp : n ≤ 40 := by simpa using hp
    have hpw := pow_le (n := n) (by omega)
    have e : (1 : Int) * 2 ^ n = 2 ^ n := Int.one_mul _
    refine ⟨Nat.le_of_ble_eq_true rfl, fun G hG => ?_⟩
    refine Chk.mk (show _ ∧ _ ∧ _ ∧ _ from ⟨?_, ?_, ?_⟩) (Chk.mk (show _ ∧ _ from ?_) (hR _ _ ?_ rfl))
    · show (0 : Int) ≤ (n : Int)
      omega
    · show n ≤ 64
      omega
    · show _ ≤ (1 : Int) * 2 ^ n ∧ (1 : Int) * 2 ^ n ≤ _
      omega
    · show _ ≤ (1 : Int) * 2 ^ n - 1 ∧ (1 : Int) * 2 ^ n - 1 ≤ _
      omega
    · show (decide (1 ≤ m) && decide (m ≤ (1 : Int) * 2 ^ n - 1)) = _
      rw [e]; simp
  · cases hk

theorem g13 {l : List (Nat × Ct)} (g : Good P T l) : Good P T ((13, c13) :: l) := g.add (k13 g) (stCt_mono _) (body_of Try.func13 (c := code Try.f13) rfl (by decide))
theorem g42 {l : List (Nat × Ct)} (g : Good P T l) : Good P T ((42, c42) :: l) := g.add (k42 g) (stCt_mono _) (body_of Try.func42 (c := code Try.f42) rfl (by decide))

/-! ### Of -/
def sumB (f : Nat → Int) (set : Nat) : Nat → Int
  | 0 => 0
  | n + 1 => sumB f set n + if set.testBit n then f n else 0
theorem sumB_le {f : Nat → Int} (set : Nat) {B : Int} (hB : 0 ≤ B) : ∀ n, (∀ i, i < n → -B ≤ f i ∧ f i ≤ B) → -(n * B) ≤ sumB f set n ∧ sumB f set n ≤ n * B
  | 0, _ => by simp [sumB]
  | n + 1, h => by
    have h1 := sumB_le set hB n (fun i hi => h i (by omega))
    have h2 := h n (by omega)
    have e : ((n + 1 : Nat) : Int) * B = n * B + B := by rw [Int.natCast_add, Int.add_mul]; simp
    simp only [sumB, e]
    split <;> omega
theorem has_bit {x n : Nat} : decide (((x : Int).tdiv (2 ^ n)).tmod 2 = 1) = x.testBit n := by
  have h1 : ((x : Int).tdiv (2 ^ n)) = ((x / 2 ^ n : Nat) : Int) := by
    rw [Int.tdiv_eq_ediv_of_nonneg (by omega)]
    push_cast
    rfl
  rw [h1, Int.tmod_eq_emod_of_nonneg (Int.natCast_nonneg _), Nat.testBit_eq_decide_div_mod_eq]
  simp only [decide_eq_decide]
  omega

/-- How long a stack is: the blocks, and a film between each two. -/
def ofS (n : Nat) (sp : Nat → Span) (lo hi : Int) (set : Nat) : Span :=
  (((sizeN set : Int) - 1) * lo + sumB (fun i => (sp i).1) set n, ((sizeN set : Int) - 1) * hi + sumB (fun i => (sp i).2) set n)
def ofL (L : List Span) (lo hi : Int) (set : Nat) : Span := ofS L.length (fun i => L.getD i (0, 0)) lo hi set
theorem ofL_map {n : Nat} {sp : Nat → Span} {lo hi : Int} {set : Nat} : ofL ((List.range n).map sp) lo hi set = ofS n sp lo hi set := by
  have key : ∀ (f : Span → Int) (m : Nat), m ≤ n → sumB (fun i => f (((List.range n).map sp).getD i (0, 0))) set m = sumB (fun i => f (sp i)) set m := by
    intro f m
    induction m with
    | zero => intro _; rfl
    | succ m ih =>
      intro hm
      simp only [sumB, ih (by omega)]
      congr 2
      simp [List.getD_eq_getElem?_getD, List.getElem?_map, List.getElem?_range (show m < n by omega)]
  simp only [ofL, ofS, List.length_map, List.length_range]
  rw [key (·.1) n (Nat.le_refl _), key (·.2) n (Nat.le_refl _)]

theorem mul_le {x y : Int} (h1 : -1 ≤ x) (h2 : x ≤ 1099511627776) (h3 : -1000 ≤ y) (h4 : y ≤ 1000) : -1099511627780000 ≤ x * y ∧ x * y ≤ 1099511627780000 := by
  have a1 : (x + 1) * (y + 1000) ≥ 0 := Int.mul_nonneg (by omega) (by omega)
  have a2 : (x + 1) * (1000 - y) ≥ 0 := Int.mul_nonneg (by omega) (by omega)
  rw [Int.add_mul, Int.mul_add] at a1
  rw [Int.add_mul, Int.mul_sub] at a2
  omega

def okN (x : Int) : Prop := -1000 ≤ x ∧ x ≤ 1000
def c46 : Ct := stCt fun L lo hi r => match r with
  | [.si .i64 set] => some (some (L.length ≤ 40 ∧ 0 ≤ set ∧ set < 1099511627776 ∧ okN lo ∧ okN hi ∧ ∀ x ∈ L, okN x.1 ∧ okN x.2), .agg [.si .i64 (ofL L lo hi set.toNat).1, .si .i64 (ofL L lo hi set.toNat).2])
  | _ => none
theorem k46 {l : List (Nat × Ct)} (g0 : Good P T l) : COk P 46 c46 := by
  have g := g36 (g54 g0)
  refine cok (C := tabC _) g.ok Try.func46 (c := code Try.f46) rfl fun fr args H out h hp => stWalk h hp fun n sp lo hi r p v Rv Rp hk hp hR => ?_
  split at hk
  · rename_i set
    simp only [ofL_map] at hk
    cases hk
    obtain ⟨hn, h0, h1, h2, h3, h4⟩ : _ ∧ _ ∧ _ ∧ okN lo ∧ okN hi ∧ _ := hp
    have hn : n ≤ 40 := by simpa using hn
    unfold okN at h2 h3
    obtain ⟨set, rfl⟩ : ∃ m : Nat, set = m := ⟨set.toNat, by omega⟩
    have hsz := sizeN_le set
    have hb : ∀ i, i < n → okN (sp i).1 ∧ okN (sp i).2 := fun i hi => h4 _ (List.mem_map.2 ⟨i, List.mem_range.2 hi, rfl⟩)
    refine ⟨Nat.le_of_ble_eq_true rfl, fun G hG => ?_⟩
    refine Chk.mk (show (set : Int) < _ by omega) (Chk.mk (show _ ∧ _ from ?_) (Chk.mk (show _ ∧ _ from ?_) (Chk.mk (show _ ∧ _ from ?_) ?_)))
    · show _ ≤ (sizeN set : Int) - 1 ∧ (sizeN set : Int) - 1 ≤ _
      omega
    · show _ ≤ ((sizeN set : Int) - 1) * lo ∧ ((sizeN set : Int) - 1) * lo ≤ _
      have := mul_le (x := (sizeN set : Int) - 1) (y := lo) (by omega) (by omega) h2.1 h2.2
      omega
    · show _ ≤ ((sizeN set : Int) - 1) * hi ∧ ((sizeN set : Int) - 1) * hi ≤ _
      have := mul_le (x := (sizeN set : Int) - 1) (y := hi) (by omega) (by omega) h3.1 h3.2
      omega
    have hm1 := mul_le (x := (sizeN set : Int) - 1) (y := lo) (by omega) (by omega) h2.1 h2.2
    have hm2 := mul_le (x := (sizeN set : Int) - 1) (y := hi) (by omega) (by omega) h3.1 h3.2
    generalize hA : ((sizeN set : Int) - 1) * lo = A at hm1
    generalize hB : ((sizeN set : Int) - 1) * hi = B at hm2
    refine loop_ok (g.ok _ _ _) (fun x : {i : Nat // i ≤ n} => ⟨[(1, ⟨[], .si .i64 set⟩), (2, ⟨[], .sp 1 0⟩), (4, ⟨[], .sp 2 0⟩), (6, ⟨[], .sp 3 0⟩), (7, ⟨[], .si .i64 x.1⟩)], [],
      [(0, .ro 2 n fun i => spanC (sp i)), (1, .cells 26 [.sl 0, .si .i64 lo, .si .i64 hi]), (2, .cells 24 [.si .i64 0, .si .i64 0]),
        (3, .cells 24 [.si .i64 (A + sumB (fun i => (sp i).1) set x.1), .si .i64 (B + sumB (fun i => (sp i).2) set x.1)])], 4, []⟩) (fun x => n - x.1) (fun _ j hj => hG j (by have : 4 ≤ j := hj; omega)) ⟨0, Nat.zero_le _⟩ ?_ ?_
    · refine ⟨?_, ?_, rfl, rfl, rfl⟩
      · repeat' (first | exact trivial | exact rfl | refine And.intro ?_ ?_)
      · refine ⟨⟨rfl, fun i hi => rfl, rfl⟩, ⟨⟨rfl, rfl, ⟨rfl, rfl⟩, ⟨rfl, rfl⟩, trivial⟩, rfl, rfl⟩, ⟨⟨rfl, ⟨rfl, rfl⟩, ⟨rfl, rfl⟩, trivial⟩, rfl, rfl⟩, ⟨⟨rfl, ⟨rfl, ?_⟩, ⟨rfl, ?_⟩, trivial⟩, rfl, rfl⟩, trivial⟩
        · show ((sizeN set : Int) - 1) * lo = A + 0
          omega
        · show ((sizeN set : Int) - 1) * hi = B + 0
          omega
    · rintro ⟨i, hin⟩
      refine Br.mk (fun h => ?_) (fun h => ?_)
      · have h : (i : Int) < (n : Int) := of_decide_eq_true h
        have s1 := sumB_le (f := fun i => (sp i).1) set (B := 1000) (by omega) i (fun j hj => (hb j (by omega)).1)
        have s2 := sumB_le (f := fun i => (sp i).2) set (B := 1000) (by omega) i (fun j hj => (hb j (by omega)).2)
        have b1 := (hb i (by omega)).1
        have b2 := (hb i (by omega)).2
        unfold okN at b1 b2
        refine Chk.mk (show (i : Int) ≤ 62 ∧ (0 : Int) ≤ (set : Int) ∧ (set : Int) < 4611686018427387904 from ⟨by omega, by omega, by omega⟩) ?_
        refine Br.mk (fun hh => ?_) (fun hh => ?_)
        · refine drawn_ok (g.ok _ _ _) fol [0,1,0,4,0,28,60,124,255,0,512,0,2048,0,14336,30720,63488,130560,262143,524287] [(19,3)] 20 (by kernel_rfl) ?_
          have hh : set.testBit i = true := by rw [← has_bit]; exact hh
          have e1 : sumB (fun i => (sp i).1) set (i + 1) = sumB (fun i => (sp i).1) set i + (sp i).1 := by simp only [sumB, hh, if_true]
          have e2 : sumB (fun i => (sp i).2) set (i + 1) = sumB (fun i => (sp i).2) set i + (sp i).2 := by simp only [sumB, hh, if_true]
          refine Chk.mk (show (0 : Int) ≤ (i : Int) ∧ (i : Int) < (n : Int) from ⟨by omega, h⟩) (Chk.mk (show _ ∧ _ from ?_) (Chk.mk (show (0 : Int) ≤ (i : Int) ∧ (i : Int) < (n : Int) from ⟨by omega, h⟩) (Chk.mk (show _ ∧ _ from ?_) (Chk.mk (show _ ∧ _ from ?_) ⟨⟨i + 1, (by omega : i + 1 ≤ n)⟩, ?_, ?_⟩))))
          · show _ ≤ A + sumB (fun i => (sp i).1) set i + (sp i).1 ∧ A + sumB (fun i => (sp i).1) set i + (sp i).1 ≤ _
            omega
          · show _ ≤ B + sumB (fun i => (sp i).2) set i + (sp i).2 ∧ B + sumB (fun i => (sp i).2) set i + (sp i).2 ≤ _
            omega
          · show _ ≤ (i : Int) + 1 ∧ (i : Int) + 1 ≤ _
            omega
          · refine ⟨?_, ?_, rfl, rfl, rfl⟩
            · repeat' (first | exact trivial | exact rfl | refine And.intro ?_ ?_)
            · refine ⟨⟨rfl, fun i hi => rfl, rfl⟩, ⟨⟨rfl, rfl, ⟨rfl, rfl⟩, ⟨rfl, rfl⟩, trivial⟩, rfl, rfl⟩, ⟨⟨rfl, ⟨rfl, rfl⟩, ⟨rfl, rfl⟩, trivial⟩, rfl, rfl⟩, ⟨⟨rfl, ⟨rfl, ?_⟩, ⟨rfl, ?_⟩, trivial⟩, rfl, rfl⟩, trivial⟩
              · show A + sumB (fun i => (sp i).1) set i + (sp i).1 = A + sumB (fun i => (sp i).1) set (i + 1)
                rw [e1]; omega
              · show B + sumB (fun i => (sp i).2) set i + (sp i).2 = B + sumB (fun i => (sp i).2) set (i + 1)
                rw [e2]; omega
          · show n - (i + 1) < n - i
            omega
        · have hh : set.testBit i = false := by rw [← has_bit]; exact hh
          have e1 : sumB (fun i => (sp i).1) set (i + 1) = sumB (fun i => (sp i).1) set i := by simp only [sumB, hh]; simp
          have e2 : sumB (fun i => (sp i).2) set (i + 1) = sumB (fun i => (sp i).2) set i := by simp only [sumB, hh]; simp
          refine Chk.mk (show _ ∧ _ from ?_) ⟨⟨i + 1, (by omega : i + 1 ≤ n)⟩, ?_, ?_⟩
          · show _ ≤ (i : Int) + 1 ∧ (i : Int) + 1 ≤ _
            omega
          · refine ⟨?_, ?_, rfl, rfl, rfl⟩
            · repeat' (first | exact trivial | exact rfl | refine And.intro ?_ ?_)
            · refine ⟨⟨rfl, fun i hi => rfl, rfl⟩, ⟨⟨rfl, rfl, ⟨rfl, rfl⟩, ⟨rfl, rfl⟩, trivial⟩, rfl, rfl⟩, ⟨⟨rfl, ⟨rfl, rfl⟩, ⟨rfl, rfl⟩, trivial⟩, rfl, rfl⟩, ⟨⟨rfl, ⟨rfl, ?_⟩, ⟨rfl, ?_⟩, trivial⟩, rfl, rfl⟩, trivial⟩
              · show A + sumB (fun i => (sp i).1) set i = A + sumB (fun i => (sp i).1) set (i + 1)
                rw [e1]
              · show B + sumB (fun i => (sp i).2) set i = B + sumB (fun i => (sp i).2) set (i + 1)
                rw [e2]
          · show n - (i + 1) < n - i
            omega
      · have h : ¬ (i : Int) < (n : Int) := of_decide_eq_false h
        have hin : i = n := by omega
        subst hin
        refine hR _ _ ⟨⟨rfl, ?_⟩, ⟨rfl, ?_⟩, trivial⟩ rfl
        · show A + sumB (fun i => (sp i).1) set i = ((sizeN set : Int) - 1) * lo + sumB (fun i => (sp i).1) set i
          omega
        · show B + sumB (fun i => (sp i).2) set i = ((sizeN set : Int) - 1) * _ + sumB (fun i => (sp i).2) set i
          omega
  · cases hk

end Go.X.S
end

section
set_option linter.unusedVariables false
set_option linter.unusedSimpArgs false
set_option linter.unusedSectionVars false
/- Stack: is a set of blocks valid; and what follows from it. -/
set_option linter.unusedVariables false
set_option linter.unusedSimpArgs false
set_option maxRecDepth 10000
set_option maxHeartbeats 1000000
namespace Go.X.S
open Go Go.Proofs Go.X

theorem g46 {l : List (Nat × Ct)} (g : Good P T l) : Good P T ((46, c46) :: l) := g.add (k46 g) (stCt_mono _) (body_of Try.func46 (c := code Try.f46) rfl (by decide))

def blockNo (x : Span) : Bool := decide (x.1 < 1) || decide (x.2 < x.1) || decide (500 < x.2) || decide (6 < x.2 - x.1)
def headNo (n lo hi : Int) : Bool := decide (8 < n) || decide (lo < 0) || decide (hi < lo) || decide (5 < hi)
/-- Is a set of blocks valid? -/
def setOk (L : List Span) (lo hi : Int) : Bool := !headNo L.length lo hi && L.all fun x => !blockNo x

def c34 : Ct := stCt fun L lo hi r => match r with
  | [] => some (none, .sb (setOk L lo hi))
  | _ => none
theorem k34 {l : List (Nat × Ct)} (g : Good P T l) : COk P 34 c34 := by
  refine cok (C := tabC _) g.ok Try.func34 (c := code Try.f34) rfl fun fr args H out h hp => stWalk h hp fun n sp lo hi r p v Rv Rp hk hp hR => ?_
  split at hk
  · cases hk
    refine ⟨Nat.le_of_ble_eq_true rfl, fun G hG => ?_⟩
    refine Br.mk (fun h => ?_) (fun h => ?_)
    · have h : headNo n lo hi = true := h
      refine hR _ _ ?_ rfl
      show (false : Bool) = setOk _ lo hi
      simp [setOk, h]
    · have h : headNo n lo hi = false := h
      refine loop_ok (g.ok _ _ _) (fun x : {i : Nat // i ≤ n ∧ ∀ j, j < i → blockNo (sp j) = false} => ⟨[(1, ⟨[], .sp 1 0⟩), (3, ⟨[], .si .i64 x.1⟩)], [],
        [(0, .ro 2 n fun i => spanC (sp i)), (1, .cells 26 [.sl 0, .si .i64 lo, .si .i64 hi])], 2, []⟩) (fun x => n - x.1) (fun _ j hj => hG j (by have : 2 ≤ j := hj; omega)) ⟨0, Nat.zero_le _, fun j hj => by omega⟩ ?_ ?_
      · refine ⟨?_, ?_, rfl, rfl, rfl⟩
        · repeat' (first | exact trivial | exact rfl | refine And.intro ?_ ?_)
        · exact ⟨⟨rfl, fun i hi => rfl, rfl⟩, ⟨⟨rfl, rfl, ⟨rfl, rfl⟩, ⟨rfl, rfl⟩, trivial⟩, rfl, rfl⟩, trivial⟩
      · rintro ⟨i, hin, hall⟩
        refine Br.mk (fun h1 => ?_) (fun h1 => ?_)
        · have h1 : (i : Int) < (n : Int) := of_decide_eq_true h1
          refine Chk.mk (show (0 : Int) ≤ (i : Int) ∧ (i : Int) < (n : Int) from ⟨by omega, h1⟩) ?_
          refine Chk.mk ?_ ?_
          · show (decide ((sp i).1 < 1) || decide ((sp i).2 < (sp i).1) || decide (500 < (sp i).2)) = false → InK .i64 ((sp i).2 - (sp i).1)
            intro hb
            simp only [Bool.or_eq_false_iff, decide_eq_false_iff_not] at hb
            show _ ≤ (sp i).2 - (sp i).1 ∧ (sp i).2 - (sp i).1 ≤ _
            omega
          refine Br.mk (fun h2 => ?_) (fun h2 => ?_)
          · have h2 : blockNo (sp i) = true := h2
            refine hR _ _ ?_ rfl
            show (false : Bool) = setOk _ lo hi
            have : (List.map sp (List.range n)).all (fun x => !blockNo x) = false := by
              rw [List.all_eq_false]
              exact ⟨sp i, List.mem_map.2 ⟨i, List.mem_range.2 (by omega), rfl⟩, by simp [h2]⟩
            simp [setOk, this]
          · have h2 : blockNo (sp i) = false := h2
            refine Chk.mk (show _ ∧ _ from ?_) ⟨⟨i + 1, (by omega : i + 1 ≤ n), ?_⟩, ?_, ?_⟩
            · show _ ≤ (i : Int) + 1 ∧ (i : Int) + 1 ≤ _
              have h8 := h
              simp only [headNo, Bool.or_eq_false_iff, decide_eq_false_iff_not] at h8
              omega
            · intro j hj
              rcases Nat.lt_or_ge j i with h3 | h3
              · exact hall j h3
              · rw [show j = i by omega]; exact h2
            · refine ⟨?_, ?_, rfl, rfl, rfl⟩
              · repeat' (first | exact trivial | exact rfl | refine And.intro ?_ ?_)
              · exact ⟨⟨rfl, fun i hi => rfl, rfl⟩, ⟨⟨rfl, rfl, ⟨rfl, rfl⟩, ⟨rfl, rfl⟩, trivial⟩, rfl, rfl⟩, trivial⟩
            · show n - (i + 1) < n - i
              omega
        · have h1 : ¬ (i : Int) < (n : Int) := of_decide_eq_false h1
          have hin' : i = n := by omega
          refine hR _ _ ?_ rfl
          show (true : Bool) = setOk _ lo hi
          have : (List.map sp (List.range n)).all (fun x => !blockNo x) = true := by
            rw [List.all_eq_true]
            intro x hx
            obtain ⟨j, hj, rfl⟩ := List.mem_map.1 hx
            rw [hall j (by rw [hin']; exact List.mem_range.1 hj)]
            rfl
          simp [setOk, this, h]
  · cases hk

theorem g34 {l : List (Nat × Ct)} (g : Good P T l) : Good P T ((34, c34) :: l) := g.add (k34 g) (stCt_mono _) (body_of Try.func34 (c := code Try.f34) rfl (by decide))

/-! ### Set, check, right, Off -/
def isSetB (n : Nat) (m : Int) : Bool := decide (1 ≤ m) && decide (m ≤ 2 ^ n - 1)
theorem k45 {l : List (Nat × Ct)} (g0 : Good P T l) : COk P 45 c42 := by
  have g := g51 (g64 g0)
  refine cok (C := tabC _) g.ok Try.func45 (c := code Try.f45) rfl fun fr args H out h hp => stWalk h hp fun n sp lo hi r p v Rv Rp hk hp hR => ?_
  split at hk
  · rename_i m
    cases hk
    have hp : ((List.range n).map sp).length ≤ 40 := hp
    have hp : n ≤ 40 := by simpa using hp
    have hpw := pow_le (n := n) (by omega)
    refine ⟨Nat.le_of_ble_eq_true rfl, fun G hG => ?_⟩
    refine Chk.mk (show (n : Int) ≤ 62 by omega) (Chk.mk (show _ ∧ _ from ?_) (hR _ _ ?_ rfl))
    · show _ ≤ (2 : Int) ^ n - 1 ∧ (2 : Int) ^ n - 1 ≤ _
      omega
    · show (decide (1 ≤ m) && decide (m ≤ (2 : Int) ^ n - 1)) = _
      simp
  · cases hk
theorem g45 {l : List (Nat × Ct)} (g : Good P T l) : Good P T ((45, c42) :: l) := g.add (k45 g) (stCt_mono _) (body_of Try.func45 (c := code Try.f45) rfl (by decide))

def c44 : Ct := stCt fun L lo hi r => match r with
  | [.sb b] => some (none, .si .i64 (if setOk L lo hi then (if b then 0 else 2) else 1))
  | _ => none
theorem k44 {l : List (Nat × Ct)} (g0 : Good P T l) : COk P 44 c44 := by
  have g := g34 g0
  refine cok (C := tabC _) g.ok Try.func44 (c := code Try.f44) rfl fun fr args H out h hp => stWalk h hp fun n sp lo hi r p v Rv Rp hk hp hR => ?_
  split at hk
  · rename_i b
    cases hk
    refine ⟨Nat.le_of_ble_eq_true rfl, fun G hG => ?_⟩
    refine Chk.mk ⟨fun i hi => rfl, rfl, trivial⟩ ?_
    refine Br.mk (fun h => ?_) (fun h => ?_)
    · have h : (!setOk ((List.range n).map sp) lo hi) = true := h
      refine hR _ _ ⟨rfl, ?_⟩ rfl
      have h : setOk ((List.range n).map sp) lo hi = false := by simpa using h
      rw [h]; rfl
    · have h : (!setOk ((List.range n).map sp) lo hi) = false := h
      have h : setOk ((List.range n).map sp) lo hi = true := by simpa using h
      refine Br.mk (fun h2 => ?_) (fun h2 => ?_)
      · have h2 : (!b) = true := h2
        have h2 : b = false := by simpa using h2
        refine hR _ _ ⟨rfl, ?_⟩ rfl
        rw [h, h2]; rfl
      · have h2 : (!b) = false := h2
        have h2 : b = true := by simpa using h2
        refine hR _ _ ⟨rfl, ?_⟩ rfl
        rw [h, h2]; rfl
  · cases hk
theorem g44 {l : List (Nat × Ct)} (g : Good P T l) : Good P T ((44, c44) :: l) := g.add (k44 g) (stCt_mono _) (body_of Try.func44 (c := code Try.f44) rfl (by decide))

/-- Always 2, perhaps 1, never 0. -/
def rightV (x w : Span) : Int := if w.1 ≤ x.1 ∧ x.2 ≤ w.2 then 2 else if x.2 < w.1 ∨ w.2 < x.1 then 0 else 1
def preOf (L : List Span) (lo hi set : Int) : Prop := L.length ≤ 40 ∧ 0 ≤ set ∧ set < 1099511627776 ∧ okN lo ∧ okN hi ∧ ∀ x ∈ L, okN x.1 ∧ okN x.2
def c49 : Ct := stCt fun L lo hi r => match r with
  | [.si .i64 set, .agg [.si .i64 a, .si .i64 b]] => some (some (preOf L lo hi set), .si .i64 (rightV (ofL L lo hi set.toNat) (a, b)))
  | _ => none
theorem k49 {l : List (Nat × Ct)} (g0 : Good P T l) : COk P 49 c49 := by
  have g := g46 g0
  refine cok (C := tabC _) g.ok Try.func49 (c := code Try.f49) rfl fun fr args H out h hp => stWalk h hp fun n sp lo hi r p v Rv Rp hk hp hR => ?_
  split at hk
  · rename_i set a b
    cases hk
    refine ⟨Nat.le_of_ble_eq_true rfl, fun G hG => ?_⟩
    refine Chk.mk ⟨fun i hi => rfl, rfl, hp⟩ ?_
    generalize hx : ofL ((List.range n).map sp) lo hi set.toNat = x at hR
    have hx' : ofL (spanL n fun i => spanC (sp i)) lo hi set.toNat = x := hx
    refine Br.mk (fun h => ?_) (fun h => ?_)
    · have h : (decide (a ≤ (ofL (spanL n fun i => spanC (sp i)) lo hi set.toNat).1) && decide ((ofL (spanL n fun i => spanC (sp i)) lo hi set.toNat).2 ≤ b)) = true := h
      rw [hx'] at h
      simp only [Bool.and_eq_true, decide_eq_true_eq] at h
      refine hR _ _ ⟨rfl, ?_⟩ rfl
      show (2 : Int) = rightV x (a, b)
      rw [rightV, if_pos h]
    · have h : (decide (a ≤ (ofL (spanL n fun i => spanC (sp i)) lo hi set.toNat).1) && decide ((ofL (spanL n fun i => spanC (sp i)) lo hi set.toNat).2 ≤ b)) = false := h
      rw [hx'] at h
      have h : ¬ (a ≤ x.1 ∧ x.2 ≤ b) := by
        simp only [Bool.and_eq_false_iff, decide_eq_false_iff_not] at h
        omega
      refine Br.mk (fun h2 => ?_) (fun h2 => ?_)
      · have h2 : (decide ((ofL (spanL n fun i => spanC (sp i)) lo hi set.toNat).2 < a) || decide (b < (ofL (spanL n fun i => spanC (sp i)) lo hi set.toNat).1)) = true := h2
        rw [hx'] at h2
        simp only [Bool.or_eq_true, decide_eq_true_eq] at h2
        refine hR _ _ ⟨rfl, ?_⟩ rfl
        show (0 : Int) = rightV x (a, b)
        rw [rightV, if_neg h, if_pos h2]
      · have h2 : (decide ((ofL (spanL n fun i => spanC (sp i)) lo hi set.toNat).2 < a) || decide (b < (ofL (spanL n fun i => spanC (sp i)) lo hi set.toNat).1)) = false := h2
        rw [hx'] at h2
        simp only [Bool.or_eq_false_iff, decide_eq_false_iff_not] at h2
        refine hR _ _ ⟨rfl, ?_⟩ rfl
        show (1 : Int) = rightV x (a, b)
        rw [rightV, if_neg h, if_neg (by show ¬ (x.2 < a ∨ b < x.1); omega)]
  · cases hk
theorem g49 {l : List (Nat × Ct)} (g : Good P T l) : Good P T ((49, c49) :: l) := g.add (k49 g) (stCt_mono _) (body_of Try.func49 (c := code Try.f49) rfl (by decide))

/-! ### Off -/
def offV (x : Span) (m : Int) : Int := max (m - x.1) (x.2 - m)
def c60 : Ct := stCt fun L lo hi r => match r with
  | [.si .i64 set, .si .i64 m] => some (some (preOf L lo hi set ∧ -1000000 ≤ m ∧ m ≤ 1000000), .si .i64 (offV (ofL L lo hi set.toNat) m))
  | _ => none
theorem ofS_le {n : Nat} {sp : Nat → Span} {lo hi : Int} {set : Nat} (hn : n ≤ 40) (hs : set < 1099511627776) (h2 : okN lo) (h3 : okN hi) (hb : ∀ i, i < n → okN (sp i).1 ∧ okN (sp i).2) :
    (-1099511628780000 ≤ (ofS n sp lo hi set).1 ∧ (ofS n sp lo hi set).1 ≤ 1099511628780000) ∧ -1099511628780000 ≤ (ofS n sp lo hi set).2 ∧ (ofS n sp lo hi set).2 ≤ 1099511628780000 := by
  have hsz := sizeN_le set
  unfold okN at h2 h3
  have hm1 := mul_le (x := (sizeN set : Int) - 1) (y := lo) (by omega) (by omega) h2.1 h2.2
  have hm2 := mul_le (x := (sizeN set : Int) - 1) (y := hi) (by omega) (by omega) h3.1 h3.2
  have s1 := sumB_le (f := fun i => (sp i).1) set (B := 1000) (by omega) n (fun j hj => (hb j hj).1)
  have s2 := sumB_le (f := fun i => (sp i).2) set (B := 1000) (by omega) n (fun j hj => (hb j hj).2)
  simp only [ofS]
  omega
theorem k60 {l : List (Nat × Ct)} (g0 : Good P T l) : COk P 60 c60 := by
  have g := g46 g0
  refine cok (C := tabC _) g.ok Try.func60 (c := code Try.f60) rfl fun fr args H out h hp => stWalk h hp fun n sp lo hi r p v Rv Rp hk hp hR => ?_
  split at hk
  · rename_i set m
    cases hk
    obtain ⟨hp, hm⟩ : _ ∧ -1000000 ≤ m ∧ m ≤ 1000000 := hp
    obtain ⟨hn, h0, h1, h2, h3, h4⟩ := hp
    refine ⟨Nat.le_of_ble_eq_true rfl, fun G hG => ?_⟩
    have hn' : n ≤ 40 := by simpa using hn
    have hx := ofS_le (sp := sp) (lo := lo) (hi := hi) (set := set.toNat) hn' (by omega) h2 h3 (fun i hi => h4 _ (List.mem_map.2 ⟨i, List.mem_range.2 hi, rfl⟩))
    rw [← ofL_map] at hx
    generalize hxe : ofL ((List.range n).map sp) lo hi set.toNat = x at hR hx
    have hx' : ofL (spanL n fun i => spanC (sp i)) lo hi set.toNat = x := hxe
    refine Chk.mk ⟨fun i hi => rfl, rfl, hn, h0, h1, h2, h3, h4⟩ (Chk.mk (show _ ∧ _ from ?_) (Chk.mk (show _ ∧ _ from ?_) (hR _ _ ⟨rfl, ?_⟩ rfl)))
    · show _ ≤ m - (ofL (spanL n fun i => spanC (sp i)) lo hi set.toNat).1 ∧ m - (ofL (spanL n fun i => spanC (sp i)) lo hi set.toNat).1 ≤ _
      rw [hx']; omega
    · show _ ≤ (ofL (spanL n fun i => spanC (sp i)) lo hi set.toNat).2 - m ∧ (ofL (spanL n fun i => spanC (sp i)) lo hi set.toNat).2 - m ≤ _
      rw [hx']; omega
    · show max (m - (ofL (spanL n fun i => spanC (sp i)) lo hi set.toNat).1) ((ofL (spanL n fun i => spanC (sp i)) lo hi set.toNat).2 - m) = offV x m
      rw [hx']; rfl
  · cases hk
theorem g60 {l : List (Nat × Ct)} (g : Good P T l) : Good P T ((60, c60) :: l) := g.add (k60 g) (stCt_mono _) (body_of Try.func60 (c := code Try.f60) rfl (by decide))

end Go.X.S
end

section
set_option linter.unusedVariables false
set_option linter.unusedSimpArgs false
set_option linter.unusedSectionVars false
/- Stack: the document's exported functions: Long, Right. -/
set_option linter.unusedVariables false
set_option linter.unusedSimpArgs false
set_option maxRecDepth 10000
set_option maxHeartbeats 1000000
namespace Go.X.S
open Go Go.Proofs Go.X

def errV (L : List Span) (lo hi : Int) (b : Bool) : Int := if setOk L lo hi then (if b then 0 else 2) else 1
theorem errV_zero {L : List Span} {lo hi : Int} {b : Bool} (h : errV L lo hi b = 0) : setOk L lo hi = true ∧ b = true := by
  unfold errV at h
  cases hs : setOk L lo hi <;> cases b <;> simp [hs] at h ⊢
theorem setOk_len {L : List Span} {lo hi : Int} (h : setOk L lo hi = true) : L.length ≤ 8 ∧ 0 ≤ lo ∧ lo ≤ hi ∧ hi ≤ 5 ∧ ∀ x ∈ L, 1 ≤ x.1 ∧ x.1 ≤ x.2 ∧ x.2 ≤ 500 ∧ x.2 - x.1 ≤ 6 := by
  simp only [setOk, headNo, Bool.and_eq_true, Bool.not_eq_true', Bool.or_eq_false_iff, decide_eq_false_iff_not, List.all_eq_true] at h
  obtain ⟨⟨⟨⟨h1, h2⟩, h3⟩, h4⟩, h5⟩ := h
  refine ⟨by omega, by omega, by omega, by omega, fun x hx => ?_⟩
  have := h5 x hx
  simp only [blockNo, Bool.or_eq_false_iff, decide_eq_false_iff_not] at this
  omega
theorem isSetB_ok {n : Nat} {m : Int} (h : isSetB n m = true) (hn : n ≤ 8) : 1 ≤ m ∧ m < 256 ∧ m < 2 ^ n := by
  simp only [isSetB, Bool.and_eq_true, decide_eq_true_eq] at h
  have : (2 : Nat) ^ n ≤ 2 ^ 8 := Nat.pow_le_pow_right (by decide) hn
  have h2 : ((2 ^ n : Nat) : Int) ≤ ((2 ^ 8 : Nat) : Int) := by exact_mod_cast this
  rw [Int.natCast_pow] at h2
  have h3 : ((2 : Nat) : Int) ^ n = (2 : Int) ^ n := rfl
  rw [h3] at h2
  have h4 : ((2 ^ 8 : Nat) : Int) = 256 := by decide
  omega
theorem preOf_ok {L : List Span} {lo hi m : Int} (h : errV L lo hi (isSetB L.length m) = 0) : preOf L lo hi m := by
  obtain ⟨h1, h2⟩ := errV_zero h
  obtain ⟨a1, a2, a3, a4, a5⟩ := setOk_len h1
  obtain ⟨b1, b2, _⟩ := isSetB_ok h2 a1
  refine ⟨by omega, by omega, by omega, ⟨by omega, by omega⟩, ⟨by omega, by omega⟩, fun x hx => ?_⟩
  have := a5 x hx
  exact ⟨⟨by omega, by omega⟩, by omega, by omega⟩

def longV (L : List Span) (lo hi m : Int) : Span := if errV L lo hi (isSetB L.length m) = 0 then ofL L lo hi m.toNat else (0, 0)
def c15 : Ct := stCt fun L lo hi r => match r with
  | [.si .i64 m] => some (some (L.length ≤ 40), .tup [.agg [.si .i64 (longV L lo hi m).1, .si .i64 (longV L lo hi m).2], .si .i64 (errV L lo hi (isSetB L.length m))])
  | _ => none
theorem k16 {l : List (Nat × Ct)} (g0 : Good P T l) : COk P 16 c15 := by
  have g := g46 (g45 (g44 g0))
  refine cok (C := tabC _) g.ok Try.func16 (c := code Try.f16) rfl fun fr args H out h hp => stWalk h hp fun n sp lo hi r p v Rv Rp hk hp hR => ?_
  split at hk
  · rename_i m
    cases hk
    have hp : ((List.range n).map sp).length ≤ 40 := hp
    have hp' : n ≤ 40 := by simpa using hp
    refine ⟨Nat.le_of_ble_eq_true rfl, fun G hG => ?_⟩
    generalize hE : errV ((List.range n).map sp) lo hi (isSetB ((List.range n).map sp).length m) = E at hR
    have hpre := preOf_ok (L := (List.range n).map sp) (lo := lo) (hi := hi) (m := m)
    rw [hE] at hpre
    have hlong : longV ((List.range n).map sp) lo hi m = if E = 0 then ofL ((List.range n).map sp) lo hi m.toNat else (0, 0) := by rw [longV, hE]
    refine drawn_ok (g.ok _ _ _) fol [0,0,0,6,15,31] [] 6 (by kernel_rfl) ?_
    refine Chk.mk ⟨fun i hi => rfl, rfl, hp⟩ (Chk.mk ⟨fun i hi => rfl, rfl, trivial⟩ ?_)
    refine Br.mk (fun h => ?_) (fun h => ?_)
    · have h : (!decide (errV ((List.range n).map sp) lo hi (isSetB ((List.range n).map sp).length m) = 0)) = true := h
      rw [hE] at h
      have h : ¬ E = 0 := by simpa using h
      rw [if_neg h] at hlong
      refine hR _ _ ⟨⟨⟨rfl, ?_⟩, ⟨rfl, ?_⟩, trivial⟩, ⟨rfl, ?_⟩, trivial⟩ rfl
      · rw [hlong]
      · rw [hlong]
      · exact hE
    · have h : (!decide (errV ((List.range n).map sp) lo hi (isSetB ((List.range n).map sp).length m) = 0)) = false := h
      rw [hE] at h
      have h : E = 0 := by simpa using h
      rw [if_pos h] at hlong
      refine Chk.mk ⟨fun i hi => rfl, rfl, hpre h⟩ (hR _ _ ⟨⟨⟨rfl, ?_⟩, ⟨rfl, ?_⟩, trivial⟩, ⟨rfl, h.symm⟩, trivial⟩ rfl)
      · rw [hlong]; rfl
      · rw [hlong]; rfl
  · cases hk
theorem g16 {l : List (Nat × Ct)} (g : Good P T l) : Good P T ((16, c15) :: l) := g.add (k16 g) (stCt_mono _) (body_of Try.func16 (c := code Try.f16) rfl (by decide))

def isWantB (a b : Int) : Bool := decide (0 ≤ a) && decide (a ≤ b) && decide (b ≤ 5000)
theorem preOf_ok2 {L : List Span} {lo hi m : Int} {q : Bool} (h : errV L lo hi (isSetB L.length m && q) = 0) : preOf L lo hi m := by
  refine preOf_ok ?_
  obtain ⟨h1, h2⟩ := errV_zero h
  simp only [Bool.and_eq_true] at h2
  simp [errV, h1, h2.1]
def rightW (L : List Span) (lo hi m a b : Int) : Int := if errV L lo hi (isSetB L.length m && isWantB a b) = 0 then rightV (ofL L lo hi m.toNat) (a, b) else 0
def c17 : Ct := stCt fun L lo hi r => match r with
  | [.si .i64 m, .agg [.si .i64 a, .si .i64 b]] => some (some (L.length ≤ 40), .tup [.si .i64 (rightW L lo hi m a b), .si .i64 (errV L lo hi (isSetB L.length m && isWantB a b))])
  | _ => none
theorem k18 {l : List (Nat × Ct)} (g0 : Good P T l) : COk P 18 c17 := by
  have g := g49 (g48 (g45 (g44 g0)))
  refine cok (C := tabC _) g.ok Try.func18 (c := code Try.f18) rfl fun fr args H out h hp => stWalk h hp fun n sp lo hi r p v Rv Rp hk hp hR => ?_
  split at hk
  · rename_i m a b
    cases hk
    have hp : ((List.range n).map sp).length ≤ 40 := hp
    refine ⟨Nat.le_of_ble_eq_true rfl, fun G hG => ?_⟩
    generalize hE : errV ((List.range n).map sp) lo hi (isSetB ((List.range n).map sp).length m && isWantB a b) = E at hR
    have hpre := preOf_ok2 (L := (List.range n).map sp) (lo := lo) (hi := hi) (m := m) (q := isWantB a b)
    rw [hE] at hpre
    have hlong : rightW ((List.range n).map sp) lo hi m a b = if E = 0 then rightV (ofL ((List.range n).map sp) lo hi m.toNat) (a, b) else 0 := by rw [rightW, hE]
    refine drawn_ok (g.ok _ _ _) fol [0,0,0,6,14,30,62,126,255,511] [] 10 (by kernel_rfl) ?_
    refine Chk.mk ⟨fun i hi => rfl, rfl, hp⟩ (Chk.mk ⟨fun i hi => rfl, rfl, trivial⟩ ?_)
    refine Br.mk (fun h => ?_) (fun h => ?_)
    · have h : (!decide (errV ((List.range n).map sp) lo hi (isSetB ((List.range n).map sp).length m && isWantB a b) = 0)) = true := h
      rw [hE] at h
      have h : ¬ E = 0 := by simpa using h
      rw [if_neg h] at hlong
      refine hR _ _ ⟨⟨rfl, hlong.symm⟩, ⟨rfl, hE⟩, trivial⟩ rfl
    · have h : (!decide (errV ((List.range n).map sp) lo hi (isSetB ((List.range n).map sp).length m && isWantB a b) = 0)) = false := h
      rw [hE] at h
      have h : E = 0 := by simpa using h
      rw [if_pos h] at hlong
      refine Chk.mk ⟨fun i hi => rfl, rfl, hpre h⟩ (hR _ _ ⟨⟨rfl, hlong.symm⟩, ⟨rfl, h.symm⟩, trivial⟩ rfl)
  · cases hk
theorem g18 {l : List (Nat × Ct)} (g : Good P T l) : Good P T ((18, c17) :: l) := g.add (k18 g) (stCt_mono _) (body_of Try.func18 (c := code Try.f18) rfl (by decide))

end Go.X.S
end

section
set_option linter.unusedVariables false
set_option linter.unusedSimpArgs false
set_option linter.unusedSectionVars false
/- Stack: open. -/
set_option linter.unusedVariables false
set_option linter.unusedSimpArgs false
set_option maxRecDepth 10000
set_option maxHeartbeats 1000000
namespace Go.X.S
open Go Go.Proofs Go.X

def c41 : Ct := fun fr args H =>
  match args with
  | [.agg [.sl id, .si .i64 lo, .si .i64 hi], .sb is] => (match sliceOf 2 H id with
    | some (n, get) => some ⟨some (Spans n get), some (!decide (errV (spanL n get) lo hi is = 0), refP (errV (spanL n get) lo hi is)), .sp fr 0,
        [(fr, .cells 97 [.sl (fr + 1), .si .i64 lo, .si .i64 hi]), (fr + 1, .ro 2 n fun i => spanC (spanAt get i))]⟩
    | none => none)
  | _ => none
theorem c41_mono : CtMono c41 := by
  intro fr args H H' out hH h
  unfold c41 at h ⊢
  split at h
  · split at h
    · rename_i e
      simp only [sliceOf_mono hH e]
      exact h
    · cases h
  · cases h

def blockYes (x : Span) : Bool := decide (1 ≤ x.1) && decide (x.1 ≤ x.2) && decide (x.2 ≤ 500) && decide (x.2 - x.1 ≤ 6)
theorem blockYes_eq (x : Span) : blockYes x = !blockNo x := by
  simp only [blockYes, blockNo, Bool.not_or, ← Bool.decide_and]
  rw [Bool.eq_iff_iff]
  simp
def headYes (n lo hi : Int) : Bool := decide (n ≤ 8) && decide (0 ≤ lo) && decide (lo ≤ hi) && decide (hi ≤ 5)
theorem headYes_eq (n lo hi : Int) : headYes n lo hi = !headNo n lo hi := by
  simp only [headYes, headNo]
  rw [Bool.eq_iff_iff]
  simp

theorem k41 {l : List (Nat × Ct)} (g0 : Good P T l) : COk P 41 c41 := by
  have g := g53 g0
  refine cok (C := tabC _) g.ok Try.func41 (c := code Try.f41) rfl fun fr args H out h hp => ?_
  unfold c41 at h
  split at h
  · rename_i id lo hi is
    split at h
    · rename_i n get e
      cases h
      have hs : Spans n get := hp
      have hh : Hand H [(id, .ro 2 n fun i => spanC (spanAt get i))] := hand_one e (fun i => rfl) (fun i hi => (hs i hi).symm)
      refine ⟨[(id, .ro 2 n fun i => spanC (spanAt get i))], [.agg [.sl 0, .si .i64 lo, .si .i64 hi], .sb is], [(0, .ro 2 n fun i => spanC (spanAt get i))], 1, [3, 2], rfl, rfl, Nat.le_of_ble_eq_true rfl, hh, rfl, rfl, fun G hG => ?_⟩
      generalize hsp : spanAt get = sp
      have hE : errV (spanL n get) lo hi is = if headYes n lo hi = true then (if (List.range n).all (fun i => blockYes (sp i)) = true then (if is then 0 else 2) else 1) else 1 := by
        have h1 : (spanL n get).all (fun x => !blockNo x) = (List.range n).all (fun i => blockYes (sp i)) := by
          subst hsp
          simp only [spanL, List.all_map]
          congr 1
          funext i
          exact (blockYes_eq _).symm
        have h2 : (spanL n get).length = n := by simp [spanL]
        simp only [errV, setOk, h1, h2, headYes_eq]
        cases headNo (n : Int) lo hi <;> simp
      generalize errV (spanL n get) lo hi is = E at hE
      refine Br.mk (fun h => ?_) (fun h => ?_)
      · have h : (!headYes n lo hi) = true := h
        have h : headYes n lo hi = false := by simpa only [Bool.not_eq_true'] using h
        rw [h] at hE
        simp at hE
        subst hE
        exact ⟨rfl, trivial, trivial⟩
      · have h : (!headYes n lo hi) = false := h
        have h : headYes n lo hi = true := by simpa only [Bool.not_eq_false'] using h
        rw [h] at hE
        simp only [if_true] at hE
        have h8 : n ≤ 8 := by
          simp only [headYes, Bool.and_eq_true, decide_eq_true_eq] at h
          omega
        refine loop_ok (g.ok _ _ _) (fun x : {i : Nat // i ≤ n ∧ ∀ j, j < i → blockYes (sp j) = true} => ⟨[(1, ⟨[], .sb is⟩), (2, ⟨[], .sp 1 0⟩), (35, ⟨[], .sl 0⟩), (36, ⟨[], .si .i64 n⟩), (37, ⟨[], .si .i64 x.1⟩)], [],
          [(0, .ro 2 n fun i => spanC (sp i)), (1, .cells 26 [.sl 0, .si .i64 lo, .si .i64 hi])], 2, []⟩) (fun x => n - x.1) (fun _ j hj => hG j (by have : 2 ≤ j := hj; omega)) ⟨0, Nat.zero_le _, fun j hj => by omega⟩ ?_ ?_
        · refine ⟨?_, ?_, rfl, rfl, rfl⟩
          · repeat' (first | exact trivial | exact rfl | refine And.intro ?_ ?_)
          · exact ⟨⟨rfl, fun i hi => rfl, rfl⟩, ⟨⟨rfl, rfl, ⟨rfl, rfl⟩, ⟨rfl, rfl⟩, trivial⟩, rfl, rfl⟩, trivial⟩
        · rintro ⟨i, hin, hall⟩
          refine Br.mk (fun h1 => ?_) (fun h1 => ?_)
          · have h1 : (i : Int) < (n : Int) := of_decide_eq_true h1
            refine Chk.mk (show (0 : Int) ≤ (i : Int) ∧ (i : Int) < (n : Int) from ⟨by omega, h1⟩) ?_
            refine Chk.mk ?_ ?_
            · show (decide (1 ≤ (sp i).1) && decide ((sp i).1 ≤ (sp i).2) && decide ((sp i).2 ≤ 500)) = true → InK .i64 ((sp i).2 - (sp i).1)
              intro hb
              simp only [Bool.and_eq_true, decide_eq_true_eq] at hb
              show _ ≤ (sp i).2 - (sp i).1 ∧ (sp i).2 - (sp i).1 ≤ _
              omega
            refine Br.mk (fun h2 => ?_) (fun h2 => ?_)
            · have h2 : (!blockYes (sp i)) = true := h2
              have h2 : blockYes (sp i) = false := by simpa only [Bool.not_eq_true'] using h2
              have h3 : (List.range n).all (fun i => blockYes (sp i)) = false := by
                rw [List.all_eq_false]
                exact ⟨i, List.mem_range.2 (by omega), by simp [h2]⟩
              rw [h3] at hE
              simp at hE
              subst hE
              exact ⟨rfl, trivial, trivial⟩
            · have h2 : (!blockYes (sp i)) = false := h2
              have h2 : blockYes (sp i) = true := by simpa only [Bool.not_eq_false'] using h2
              refine Chk.mk (show _ ∧ _ from ?_) ⟨⟨i + 1, (by omega : i + 1 ≤ n), ?_⟩, ?_, ?_⟩
              · show _ ≤ (i : Int) + 1 ∧ (i : Int) + 1 ≤ _
                omega
              · intro j hj
                rcases Nat.lt_or_ge j i with h3 | h3
                · exact hall j h3
                · rw [show j = i by omega]; exact h2
              · refine ⟨?_, ?_, rfl, rfl, rfl⟩
                · repeat' (first | exact trivial | exact rfl | refine And.intro ?_ ?_)
                · exact ⟨⟨rfl, fun i hi => rfl, rfl⟩, ⟨⟨rfl, rfl, ⟨rfl, rfl⟩, ⟨rfl, rfl⟩, trivial⟩, rfl, rfl⟩, trivial⟩
              · show n - (i + 1) < n - i
                omega
          · have h1 : ¬ (i : Int) < (n : Int) := of_decide_eq_false h1
            have hin' : i = n := by omega
            have h3 : (List.range n).all (fun i => blockYes (sp i)) = true := by
              rw [List.all_eq_true]
              intro j hj
              exact hall j (by rw [hin']; exact List.mem_range.1 hj)
            rw [h3] at hE
            simp only [if_true] at hE
            refine Br.mk (fun h2 => ?_) (fun h2 => ?_)
            · have h2 : (!is) = true := h2
              have h2 : is = false := by simpa only [Bool.not_eq_true'] using h2
              subst h2
              simp at hE
              subst hE
              exact ⟨rfl, trivial, trivial⟩
            · have h2 : (!is) = false := h2
              have h2 : is = true := by simpa only [Bool.not_eq_false'] using h2
              subst h2
              simp at hE
              subst hE
              refine fb_makeVec n (g.ok _ _ _) cont_std rfl rfl rfl rfl rfl rfl rfl rfl rfl rfl (by decide) (by omega) rfl rfl ?_
              refine fb_copy 2 0 n n _ (fun i => spanC (sp i)) (fun i => spanC (sp i)) (g.ok _ _ _) cont_std rfl rfl rfl rfl rfl rfl rfl rfl rfl rfl rfl rfl rfl rfl rfl (by decide) (fun i hi => by rw [if_pos hi]) ?_
              exact ⟨.inr ⟨_, rfl⟩, ⟨⟨rfl, rfl⟩, rfl, ⟨rfl, ⟨⟨rfl, rfl, ⟨rfl, rfl⟩, ⟨rfl, rfl⟩, trivial⟩, rfl⟩, rfl, ⟨rfl, rfl, fun i hi => ⟨rfl, rfl⟩⟩, trivial⟩, ⟨trivial, trivial⟩, rfl, rfl⟩⟩
    · cases h
  · cases h
theorem g41 {l : List (Nat × Ct)} (g : Good P T l) : Good P T ((41, c41) :: l) := g.add (k41 g) c41_mono (body_of Try.func41 (c := code Try.f41) rfl (by decide))

end Go.X.S
end

section
set_option linter.unusedVariables false
set_option linter.unusedSimpArgs false
set_option linter.unusedSectionVars false
/- Stack: functions of a set that is looked at; of. -/
set_option linter.unusedVariables false
set_option linter.unusedSimpArgs false
set_option maxRecDepth 10000
set_option maxHeartbeats 1000000
namespace Go.X.S
open Go Go.Proofs Go.X

/-- A contract of a function of a set that is looked at, and of more that holds no ids. -/
def setCt (k : List Span → Int → Int → List SV → Option (Option Prop × SV)) : Ct := fun _ args H =>
  match args with
  | .sp sid 0 :: r => (match H sid with
    | some (.cells 97 [.sl id, .si .i64 lo, .si .i64 hi]) => (match sliceOf 2 H id with
      | some (n, get) => (match k (spanL n get) lo hi r with
        | some (p, v) => some ⟨some (Spans n get ∧ knL 0 [] r = true ∧ PreH p), none, v, []⟩
        | none => none)
      | none => none)
    | _ => none)
  | _ => none
theorem setCt_mono (k : List Span → Int → Int → List SV → Option (Option Prop × SV)) : CtMono (setCt k) := by
  intro fr args H H' out hH h
  unfold setCt at h ⊢
  split at h
  · split at h
    · rename_i e1
      rw [hH _ _ e1]
      split at h
      · rename_i e
        simp only [sliceOf_mono hH e]
        exact h
      · cases h
    · cases h
  · cases h

def setP (sid id n : Nat) (lo hi : Int) (sp : Nat → Span) : List (Nat × HB) := [(sid, .cells 97 [.sl 1, .si .i64 lo, .si .i64 hi]), (id, .ro 2 n fun i => spanC (sp i))]
theorem setHand {H : LH} {sid id n : Nat} {lo hi : Int} {get : Nat → List SV} (h1 : H sid = some (.cells 97 [.sl id, .si .i64 lo, .si .i64 hi])) (h2 : sliceOf 2 H id = some (n, get)) (hs : Spans n get) :
    Hand H (setP sid id n lo hi (spanAt get)) where
  ok j c hb h := by
    match j, h with
    | 0, h => simp [setP] at h; obtain ⟨rfl, rfl⟩ := h; exact h1
    | 1, h =>
      simp [setP] at h; obtain ⟨rfl, rfl⟩ := h
      exact sliceOf_piece h2 fun i hi => by rw [hs i hi]; rfl
    | j + 2, h => simp [setP] at h
  ids j c hb h := by
    match j, h with
    | 0, h => simp [setP] at h; obtain ⟨rfl, rfl⟩ := h; exact ⟨by show 1 < 2; decide, trivial, trivial, trivial⟩
    | 1, h => simp [setP] at h; obtain ⟨rfl, rfl⟩ := h; exact fun i hi => ⟨trivial, trivial, trivial⟩
    | j + 2, h => simp [setP] at h
  inj i j c hb hb' h1 h2 o1 o2 := by
    match i, j, h1, h2 with
    | 0, 0, _, _ => rfl
    | 1, 1, _, _ => rfl
    | 0, 1, h1, h2 => simp [setP] at h2; obtain ⟨_, rfl⟩ := h2; cases o2
    | 1, 0, h1, h2 => simp [setP] at h1; obtain ⟨_, rfl⟩ := h1; cases o1
    | i + 2, _, h, _ => simp [setP] at h
    | _, j + 2, _, h => simp [setP] at h

def setH (n : Nat) (lo hi : Int) (sp : Nat → Span) : List (Nat × HB) := [(0, .cells 97 [.sl 1, .si .i64 lo, .si .i64 hi]), (1, .ro 2 n fun i => spanC (sp i))]
/-- Its walk. -/
theorem setWalk {C : Nat → Option Ct} {fn : Func} {c : Code} {k : List Span → Int → Int → List SV → Option (Option Prop × SV)} {fr : Nat} {args : List SV} {H : LH} {out : COut} (ho : setCt k fr args H = some out) (hp : PreH out.pre)
    (h : ∀ (n : Nat) (sp : Nat → Span) (lo hi : Int) (r : List SV) (p : Option Prop) (v : SV) (Rv : SV → St → Prop) (Rp : List PanicEntry → St → Prop), k ((List.range n).map sp) lo hi r = some (p, v) → PreH p →
      (∀ v' st, SVeq v' v → knSV 0 [] v' = true → keepP st.H (setH n lo hi sp) → Rv v' st) → r.length + 1 ≤ fn.ntmps ∧
      ∀ G : Base, (∀ j, 2 ≤ j → G.ρ j = none) → exec ⟨P, T, C, G, none, fn.ntmps⟩ c (start (.sp 0 0 :: r) (setH n lo hi sp) 2) (Fin ⟨P, T, C, G, none, fn.ntmps⟩ fn.results.toList Rv Rp)) :
    Walk P T C fn c H args fr out := by
  unfold setCt at ho
  split at ho
  · rename_i sid r
    split at ho
    · rename_i id lo hi e1
      split at ho
      · rename_i n get e
        split at ho
        · rename_i p v hk
          cases ho
          obtain ⟨hs, hr, hp⟩ : Spans n get ∧ knL 0 [] r = true ∧ PreH p := hp
          have hh := setHand e1 e hs
          have h0 := h n (spanAt get) lo hi r p v (fun v' st => ((none : Option (Bool × List PanicEntry)) = none ∨ ∃ ch, (none : Option (Bool × List PanicEntry)) = some (false, ch)) ∧ EndOk (setP sid id n lo hi (spanAt get)) [] fr ⟨some (Spans n get ∧ knL 0 [] r = true ∧ PreH p), none, v, []⟩ v' st)
            (fun ch st => (none : Option (Bool × List PanicEntry)) = some (true, ch) ∧ keepP st.H (setH n lo hi (spanAt get))) hk hp
            (fun v' st h1 h2 h3 => ⟨.inl rfl, end_noid h1 h2 rfl h3⟩)
          refine ⟨setP sid id n lo hi (spanAt get), .sp 0 0 :: r, setH n lo hi (spanAt get), 2, [], ?_, ?_, h0.1, hh, rfl, rfl, h0.2⟩
          · show _ = renSV _ _ :: renL _ r
            rw [renL_none r hr]
            rfl
          · show (match knSV 2 [] (.sp 0 0) with
              | true => knL 2 [] r
              | false => false) = true
            exact knL_up r hr
        · cases ho
      · cases ho
    · cases ho
  · cases ho

/-! ### of -/
def cntB (set : Nat) : Nat → Nat
  | 0 => 0
  | n + 1 => cntB set n + if set.testBit n then 1 else 0
def wS (f : Nat → Int) (film : Int) (set : Nat) : Nat → Int
  | 0 => 0
  | n + 1 => if set.testBit n then (if 0 < cntB set n then wS f film set n + film else wS f film set n) + f n else wS f film set n
theorem cntB_le (set : Nat) : ∀ n, cntB set n ≤ n
  | 0 => Nat.le_refl _
  | n + 1 => by have := cntB_le set n; simp only [cntB]; split <;> omega
theorem cntB_zero {set : Nat} : ∀ {n}, cntB set n = 0 → ∀ (f : Nat → Int) film, wS f film set n = 0
  | 0, _, _, _ => rfl
  | n + 1, h, f, film => by
    simp only [cntB] at h
    have h1 : cntB set n = 0 := by omega
    have h2 : set.testBit n = false := by
      cases hb : set.testBit n with
      | false => rfl
      | true => rw [hb] at h; simp at h
    simp only [wS, h2]
    exact cntB_zero h1 f film
theorem wS_eq (f : Nat → Int) (film : Int) (set : Nat) : ∀ n, 0 < cntB set n → wS f film set n = ((cntB set n : Int) - 1) * film + sumB f set n
  | 0, h => by simp [cntB] at h
  | n + 1, h => by
    cases hb : set.testBit n with
    | false =>
      have e : cntB set (n + 1) = cntB set n := by simp [cntB, hb]
      simp only [wS, sumB, hb, e]
      rw [e] at h
      have := wS_eq f film set n h
      simp
      exact this
    | true =>
      have e : cntB set (n + 1) = cntB set n + 1 := by simp [cntB, hb]
      simp only [wS, sumB, hb, if_true, e]
      rcases Nat.eq_zero_or_pos (cntB set n) with h0 | h0
      · have s0 : ∀ m, cntB set m = 0 → sumB f set m = 0 := by
          intro m
          induction m with
          | zero => intro _; rfl
          | succ m ih =>
            intro hm
            simp only [cntB] at hm
            have h2 : set.testBit m = false := by
              cases hb : set.testBit m with
              | false => rfl
              | true => rw [hb] at hm; simp at hm
            simp [sumB, h2, ih (by omega)]
        rw [h0, cntB_zero h0, s0 n h0]
        simp
      · rw [if_pos h0, wS_eq f film set n h0]
        have : ((cntB set n + 1 : Nat) : Int) - 1 = ((cntB set n : Int) - 1) + 1 := by omega
        rw [this, Int.add_mul ((cntB set n : Int) - 1) 1 film]
        omega
theorem wS_le {f : Nat → Int} {film : Int} (set : Nat) (hf : 0 ≤ film ∧ film ≤ 1000) : ∀ n, (∀ i, i < n → 0 ≤ f i ∧ f i ≤ 1000) → 0 ≤ wS f film set n ∧ wS f film set n ≤ n * 2000
  | 0, _ => by simp [wS]
  | n + 1, h => by
    have h1 := wS_le set hf n (fun i hi => h i (by omega))
    have h2 := h n (by omega)
    simp only [wS]
    split
    · split <;> omega
    · omega

theorem shr_bit {x n : Nat} : decide ((((((x : Int).fdiv (2 ^ n)).toNat &&& (1 : Int).toNat : Nat)) : Int) = 1) = x.testBit n := by
  have h1 : ((x : Int).fdiv (2 ^ n)) = ((x / 2 ^ n : Nat) : Int) := by
    rw [Int.fdiv_eq_ediv_of_nonneg _ (Int.pow_nonneg (by omega))]
    push_cast
    rfl
  rw [h1, Nat.testBit_eq_decide_div_mod_eq]
  have : ((1 : Int).toNat) = 1 := rfl
  rw [this, Int.toNat_natCast, Nat.and_one_is_mod]
  simp only [decide_eq_decide]
  omega

/-- How long a stack of a set is, and of how many blocks. -/
def ofW (L : List Span) (lo hi : Int) (set : Nat) : Int × Int × Int :=
  (wS (fun i => (L.getD i (0, 0)).1) lo set L.length, wS (fun i => (L.getD i (0, 0)).2) hi set L.length, cntB set L.length)
theorem wS_congr {f g : Nat → Int} {film : Int} {set : Nat} : ∀ n, (∀ i, i < n → f i = g i) → wS f film set n = wS g film set n
  | 0, _ => rfl
  | n + 1, h => by
    have := wS_congr (f := f) (g := g) (film := film) (set := set) n (fun i hi => h i (by omega))
    simp only [wS, this, h n (by omega)]
theorem getD_map {n i : Nat} {sp : Nat → Span} (h : i < n) : ((List.range n).map sp).getD i (0, 0) = sp i := by
  simp [List.getD_eq_getElem?_getD, List.getElem?_map, List.getElem?_range h]
theorem ofW_map {n : Nat} {sp : Nat → Span} {lo hi : Int} {set : Nat} : ofW ((List.range n).map sp) lo hi set = (wS (fun i => (sp i).1) lo set n, wS (fun i => (sp i).2) hi set n, (cntB set n : Int)) := by
  simp only [ofW, List.length_map, List.length_range]
  rw [wS_congr (f := fun i => (((List.range n).map sp).getD i (0, 0)).1) (g := fun i => (sp i).1) n (fun i hi => by rw [getD_map hi]), wS_congr (f := fun i => (((List.range n).map sp).getD i (0, 0)).2) (g := fun i => (sp i).2) n (fun i hi => by rw [getD_map hi])]

def okP (x : Int) : Prop := 0 ≤ x ∧ x ≤ 1000
/-- What is asked of a set of blocks that is looked at. -/
def okSet (L : List Span) (lo hi : Int) : Prop := L.length ≤ 8 ∧ okP lo ∧ okP hi ∧ ∀ x ∈ L, okP x.1 ∧ okP x.2
def long3 (x : Int × Int × Int) : SV := .agg [.si .i64 x.1, .si .i64 x.2.1, .si .i64 x.2.2]
def c43 : Ct := setCt fun L lo hi r => match r with
  | [.si .u64 set] => some (some (okSet L lo hi ∧ 0 ≤ set ∧ set ≤ 1000000), long3 (ofW L lo hi set.toNat))
  | _ => none
theorem k43 {l : List (Nat × Ct)} (g0 : Good P T l) : COk P 43 c43 := by
  have g := g63 g0
  refine cok (C := tabC _) g.ok Try.func43 (c := code Try.f43) rfl fun fr args H out h hp => setWalk h hp fun n sp lo hi r p v Rv Rp hk hp hR => ?_
  split at hk
  · rename_i set
    simp only [ofW_map] at hk
    cases hk
    obtain ⟨⟨hn, hlo, hhi, hb⟩, h0, h1⟩ : okSet _ lo hi ∧ 0 ≤ set ∧ set ≤ 1000000 := hp
    have hn : n ≤ 8 := by simpa using hn
    obtain ⟨set, rfl⟩ : ∃ m : Nat, set = m := ⟨set.toNat, by omega⟩
    have hb : ∀ i, i < n → okP (sp i).1 ∧ okP (sp i).2 := fun i hi => hb _ (List.mem_map.2 ⟨i, List.mem_range.2 hi, rfl⟩)
    unfold okP at hlo hhi hb
    refine ⟨Nat.le_of_ble_eq_true rfl, fun G hG => ?_⟩
    refine loop_ok (g.ok _ _ _) (fun x : {i : Nat // i ≤ n} => ⟨[(0, ⟨[], .sp 0 0⟩), (1, ⟨[], .si .u64 set⟩), (4, ⟨[], .sp 2 0⟩), (10, ⟨[], .sl 1⟩), (11, ⟨[], .si .i64 n⟩), (12, ⟨[], .si .i64 x.1⟩)], [],
      (2, .cells 62 [.si .i64 (wS (fun i => (sp i).1) lo set x.1), .si .i64 (wS (fun i => (sp i).2) hi set x.1), .si .i64 (cntB set x.1)]) :: setH n lo hi sp, 3, []⟩) (fun x => n - x.1) (fun _ j hj => hG j (by have : 3 ≤ j := hj; omega)) ⟨0, Nat.zero_le _⟩ ?_ ?_
    · refine ⟨?_, ?_, rfl, rfl, rfl⟩
      · repeat' (first | exact trivial | exact rfl | refine And.intro ?_ ?_)
      · exact ⟨⟨⟨rfl, ⟨rfl, rfl⟩, ⟨rfl, rfl⟩, ⟨rfl, rfl⟩, trivial⟩, rfl, rfl⟩, ⟨⟨rfl, rfl, ⟨rfl, rfl⟩, ⟨rfl, rfl⟩, trivial⟩, rfl, rfl⟩, ⟨rfl, fun i hi => rfl, rfl⟩, trivial⟩
    · rintro ⟨i, hin⟩
      refine Br.mk (fun h => ?_) (fun h => ?_)
      · have h : (i : Int) < (n : Int) := of_decide_eq_true h
        have s1 := wS_le (f := fun i => (sp i).1) set hlo i (fun j hj => (hb j (by omega)).1)
        have s2 := wS_le (f := fun i => (sp i).2) set hhi i (fun j hj => (hb j (by omega)).2)
        have b1 := (hb i (by omega)).1
        have b2 := (hb i (by omega)).2
        have cl := cntB_le set i
        have hk0 : 0 ≤ (set : Int).fdiv (2 ^ i) ∧ (set : Int).fdiv (2 ^ i) ≤ 1000000 := by
          rw [Int.fdiv_eq_ediv_of_nonneg _ (Int.pow_nonneg (by omega))]
          have := Int.ediv_le_self (a := (set : Int)) (2 ^ i) (by omega)
          exact ⟨Int.ediv_nonneg (by omega) (Int.pow_nonneg (by omega)), by omega⟩
        refine Chk.mk (show (0 : Int) ≤ (i : Int) ∧ (i : Int) < (n : Int) from ⟨by omega, h⟩) (Chk.mk (show (0 : Int) ≤ (i : Int) ∧ _ from ⟨by omega, ?_⟩) (Chk.mk (show 0 ≤ (set : Int).fdiv (2 ^ i) ∧ (0 : Int) ≤ 1 ∧ (0 ≤ (set : Int).fdiv (2 ^ i) ∧ (set : Int).fdiv (2 ^ i) ≤ _) ∧ ((0 : Int) ≤ 1 ∧ (1 : Int) ≤ _) from ?_) ?_))
        · show i ≤ 64
          omega
        · omega
        refine Br.mk (fun hh => ?_) (fun hh => ?_)
        · have hh : set.testBit i = true := by rw [← shr_bit]; exact hh
          have e1 : wS (fun i => (sp i).1) lo set (i + 1) = (if 0 < cntB set i then wS (fun i => (sp i).1) lo set i + lo else wS (fun i => (sp i).1) lo set i) + (sp i).1 := by simp only [wS, hh, if_true]
          have e2 : wS (fun i => (sp i).2) hi set (i + 1) = (if 0 < cntB set i then wS (fun i => (sp i).2) hi set i + hi else wS (fun i => (sp i).2) hi set i) + (sp i).2 := by simp only [wS, hh, if_true]
          refine drawn_ok (g.ok _ _ _) fol [0,0,0,4,12,28,63,127] [(7,2)] 8 (by kernel_rfl) ?_
          refine Chk.mk (show okB _ ∧ okB _ ∧ okB _ ∧ okB _ ∧ okB _ ∧ okB _ ∧ okB _ from ?_) (Chk.mk (show _ ∧ _ from ?_) ⟨⟨i + 1, (by omega : i + 1 ≤ n)⟩, ?_, ?_⟩)
          · unfold okB
            show (_ ≤ wS (fun i => (sp i).1) lo set i ∧ wS (fun i => (sp i).1) lo set i ≤ _) ∧ (_ ≤ wS (fun i => (sp i).2) hi set i ∧ wS (fun i => (sp i).2) hi set i ≤ _) ∧ (_ ≤ (cntB set i : Int) ∧ (cntB set i : Int) ≤ _) ∧ (_ ≤ (sp i).1 ∧ (sp i).1 ≤ _) ∧ (_ ≤ (sp i).2 ∧ (sp i).2 ≤ _) ∧ (_ ≤ lo ∧ lo ≤ _) ∧ (_ ≤ hi ∧ hi ≤ _)
            omega
          · show _ ≤ (i : Int) + 1 ∧ (i : Int) + 1 ≤ _
            omega
          · refine ⟨?_, ?_, rfl, rfl, rfl⟩
            · repeat' (first | exact trivial | exact rfl | refine And.intro ?_ ?_)
            · refine ⟨⟨⟨rfl, ⟨rfl, ?_⟩, ⟨rfl, ?_⟩, ⟨rfl, ?_⟩, trivial⟩, rfl, rfl⟩, ⟨⟨rfl, rfl, ⟨rfl, rfl⟩, ⟨rfl, rfl⟩, trivial⟩, rfl, rfl⟩, ⟨rfl, fun i hi => rfl, rfl⟩, trivial⟩
              · show (if (0 : Int) < (cntB set i : Int) then wS (fun i => (sp i).1) lo set i + lo else wS (fun i => (sp i).1) lo set i) + (sp i).1 = wS (fun i => (sp i).1) lo set (i + 1)
                rw [e1]
                congr 1
                split <;> split <;> omega
              · show (if (0 : Int) < (cntB set i : Int) then wS (fun i => (sp i).2) hi set i + hi else wS (fun i => (sp i).2) hi set i) + (sp i).2 = wS (fun i => (sp i).2) hi set (i + 1)
                rw [e2]
                congr 1
                split <;> split <;> omega
              · show (cntB set i : Int) + 1 = (cntB set (i + 1) : Int)
                simp [cntB, hh]
          · show n - (i + 1) < n - i
            omega
        · have hh : set.testBit i = false := by rw [← shr_bit]; exact hh
          refine Chk.mk (show _ ∧ _ from ?_) ⟨⟨i + 1, (by omega : i + 1 ≤ n)⟩, ?_, ?_⟩
          · show _ ≤ (i : Int) + 1 ∧ (i : Int) + 1 ≤ _
            omega
          · refine ⟨?_, ?_, rfl, rfl, rfl⟩
            · repeat' (first | exact trivial | exact rfl | refine And.intro ?_ ?_)
            · refine ⟨⟨⟨rfl, ⟨rfl, ?_⟩, ⟨rfl, ?_⟩, ⟨rfl, ?_⟩, trivial⟩, rfl, rfl⟩, ⟨⟨rfl, rfl, ⟨rfl, rfl⟩, ⟨rfl, rfl⟩, trivial⟩, rfl, rfl⟩, ⟨rfl, fun i hi => rfl, rfl⟩, trivial⟩
              · show wS (fun i => (sp i).1) lo set i = wS (fun i => (sp i).1) lo set (i + 1)
                simp [wS, hh]
              · show wS (fun i => (sp i).2) hi set i = wS (fun i => (sp i).2) hi set (i + 1)
                simp [wS, hh]
              · show (cntB set i : Int) = (cntB set (i + 1) : Int)
                simp [cntB, hh]
          · show n - (i + 1) < n - i
            omega
      · have h : ¬ (i : Int) < (n : Int) := of_decide_eq_false h
        have hin : i = n := by omega
        subst hin
        exact hR _ _ ⟨⟨rfl, rfl⟩, ⟨rfl, rfl⟩, ⟨rfl, rfl⟩, trivial⟩ rfl ⟨⟨rfl, rfl, ⟨rfl, rfl⟩, ⟨rfl, rfl⟩, trivial⟩, trivial, trivial⟩
  · cases hk
theorem g43 {l : List (Nat × Ct)} (g : Good P T l) : Good P T ((43, c43) :: l) := g.add (k43 g) (setCt_mono _) (body_of Try.func43 (c := code Try.f43) rfl (by decide))

end Go.X.S
end

section
set_option linter.unusedVariables false
set_option linter.unusedSimpArgs false
set_option linter.unusedSectionVars false
/- Stack: Long, Right. -/
set_option linter.unusedVariables false
set_option linter.unusedSimpArgs false
set_option maxRecDepth 10000
set_option maxHeartbeats 1000000
namespace Go.X.S
open Go Go.Proofs Go.X

/-- The walk of a function of a set of blocks with a deferred answer. -/
theorem stWalkD {C : Nat → Option Ct} {fn : Func} {c : Code} {k : List Span → Int → Int → List SV → Option (Option Prop × SV)} {fr : Nat} {args : List SV} {H : LH} {out : COut} (ho : stCt k fr args H = some out) (hp : PreH out.pre)
    (h : ∀ (n : Nat) (sp : Nat → Span) (lo hi : Int) (r : List SV) (p : Option Prop) (v : SV) (Rv : SV → St → Prop), k ((List.range n).map sp) lo hi r = some (p, v) → PreH p →
      (∀ v' st, SVeq v' v → knSV 0 [] v' = true → Rv v' st) → r.length + 1 ≤ fn.ntmps ∧
      ∀ G : Base, (∀ j, 1 ≤ j → G.ρ j = none) → exec ⟨P, T, C, G, none, fn.ntmps⟩ c (start (.agg [.sl 0, .si .i64 lo, .si .i64 hi] :: r) [(0, .ro 2 n fun i => spanC (sp i))] 1) (FinD ⟨P, T, C, G, none, fn.ntmps⟩ 40 94 29 fn.results.toList Rv)) :
    WalkD P T C 40 94 29 fn c H args fr out := by
  unfold stCt at ho
  split at ho
  · rename_i id lo hi r
    split at ho
    · rename_i n get e
      split at ho
      · rename_i p v hk
        cases ho
        obtain ⟨hs, hr, hp⟩ : Spans n get ∧ knL 0 [] r = true ∧ PreH p := hp
        have hh : Hand H [(id, .ro 2 n fun i => spanC (spanAt get i))] := hand_one e (fun i => rfl) (fun i hi => (hs i hi).symm)
        have h0 := h n (spanAt get) lo hi r p v (fun v' st => ((none : Option (Bool × List PanicEntry)) = none ∨ ∃ ch, (none : Option (Bool × List PanicEntry)) = some (false, ch)) ∧ EndOk [(id, .ro 2 n fun i => spanC (spanAt get i))] [] fr ⟨some (Spans n get ∧ knL 0 [] r = true ∧ PreH p), none, v, []⟩ v' st)
          hk hp
          (fun v' st h1 h2 => ⟨.inl rfl, end_noid h1 h2 rfl ⟨trivial, trivial⟩⟩)
        refine ⟨[(id, .ro 2 n fun i => spanC (spanAt get i))], .agg [.sl 0, .si .i64 lo, .si .i64 hi] :: r, [(0, .ro 2 n fun i => spanC (spanAt get i))], 1, [], ?_, ?_, h0.1, hh, rfl, rfl, h0.2⟩
        · show _ = renSV _ _ :: renL _ r
          rw [renL_none r hr]
          rfl
        · show (match knSV 1 [] (.agg [.sl 0, .si .i64 lo, .si .i64 hi]) with
            | true => knL 1 [] r
            | false => false) = true
          exact knL_up r hr
      · cases ho
    · cases ho
  · cases ho

theorem spans_sp (n : Nat) (sp : Nat → Span) : Spans n (fun i => spanC (sp i)) := fun i hi => rfl
theorem spanL_sp (n : Nat) (sp : Nat → Span) : spanL n (fun i => spanC (sp i)) = (List.range n).map sp := rfl

theorem cntB_half (set : Nat) : ∀ n, cntB set (n + 1) = set % 2 + cntB (set / 2) n
  | 0 => by
    simp only [cntB, Nat.testBit_zero]
    have : set % 2 = 0 ∨ set % 2 = 1 := by omega
    rcases this with h | h <;> simp [h]
  | n + 1 => by
    have ih := cntB_half set n
    rw [cntB, ih]
    simp only [cntB, Nat.testBit_succ]
    omega
theorem cntB_size : ∀ (n set : Nat), set < 2 ^ n → cntB set n = sizeN set
  | 0, set, h => by
    have : set = 0 := by simpa using h
    subst this; simp [cntB, sizeN]
  | n + 1, set, h => by
    rw [cntB_half]
    rcases Nat.eq_zero_or_pos set with rfl | hp
    · have : cntB 0 n = sizeN 0 := cntB_size n 0 (Nat.pow_pos (by decide))
      simp [this, sizeN]
    · rw [sizeN_pos hp, cntB_size n (set / 2) (by rw [Nat.pow_succ] at h; omega)]
theorem sizeN_ge {set : Nat} (h : 0 < set) : 0 < sizeN set := by
  induction set using Nat.strongRecOn with
  | _ set ih =>
    rw [sizeN_pos h]
    rcases Nat.eq_zero_or_pos (set / 2) with h2 | h2
    · have : set % 2 = 1 := by omega
      omega
    · have := ih (set / 2) (by omega) h2
      omega
/-- A stack's length as the program finds it is the document's. -/
theorem ofW_ofL {L : List Span} {lo hi : Int} {set : Nat} (h : 0 < set) (h2 : set < 2 ^ L.length) : ofW L lo hi set = ((ofL L lo hi set).1, (ofL L lo hi set).2, (sizeN set : Int)) := by
  have hc := cntB_size L.length set h2
  have hp := sizeN_ge h
  simp only [ofW, ofL, ofS]
  rw [wS_eq _ lo set _ (by omega), wS_eq _ hi set _ (by omega), hc]
theorem isSetB_nat {n : Nat} {m : Int} (h : isSetB n m = true) : 0 < m.toNat ∧ m.toNat < 2 ^ n := by
  simp only [isSetB, Bool.and_eq_true, decide_eq_true_eq] at h
  have h3 : ((2 ^ n : Nat) : Int) = (2 : Int) ^ n := by push_cast; rfl
  rw [← h3] at h
  omega
theorem okSet_of {L : List Span} {lo hi : Int} (h : setOk L lo hi = true) : okSet L lo hi := by
  obtain ⟨a1, a2, a3, a4, a5⟩ := setOk_len h
  refine ⟨a1, ⟨by omega, by omega⟩, ⟨by omega, by omega⟩, fun x hx => ?_⟩
  have := a5 x hx
  exact ⟨⟨by omega, by omega⟩, by omega, by omega⟩

theorem k15 {l : List (Nat × Ct)} (g0 : Good P T l) : COk P 15 c15 := by
  have g := g43 (g41 (g42 g0))
  refine cokD (C := tabC _) g.ok answer_ok Try.func15 (c := code Try.f15) rfl fun fr args H out h hp => stWalkD h hp fun n sp lo hi r p v Rv hk hp hR => ?_
  split at hk
  · rename_i m
    cases hk
    have hp : ((List.range n).map sp).length ≤ 40 := hp
    have hp' : n ≤ 40 := by simpa using hp
    refine ⟨Nat.le_of_ble_eq_true rfl, fun G hG => ?_⟩
    refine fb_defer (g.ok _ _ _) rfl cont_std rfl rfl rfl rfl ?_
    refine drawn_ok (g.ok _ _ _) fol [0,0,0,6,15,0,32,127,255,511,1023] [] 7 (by kernel_rfl) ?_
    refine Chk.mk ⟨spans_sp _ _, rfl, hp⟩ ?_
    refine Chk.mk (spans_sp _ _) ?_
    generalize hE : errV ((List.range n).map sp) lo hi (isSetB ((List.range n).map sp).length m) = E at hR
    have hpre := preOf_ok (L := (List.range n).map sp) (lo := lo) (hi := hi) (m := m)
    rw [hE] at hpre
    have hlong : longV ((List.range n).map sp) lo hi m = if E = 0 then ofL ((List.range n).map sp) lo hi m.toNat else (0, 0) := by rw [longV, hE]
    refine Br.mk (fun h => ?_) (fun h => ?_)
    · have h : (!decide (errV ((List.range n).map sp) lo hi (isSetB ((List.range n).map sp).length m) = 0)) = true := h
      rw [hE] at h
      have h : ¬ E = 0 := by simpa using h
      rw [if_neg h] at hlong
      refine hR _ _ ⟨⟨⟨rfl, ?_⟩, ⟨rfl, ?_⟩, trivial⟩, ⟨rfl, ?_⟩, trivial⟩ rfl
      · rw [hlong]
      · rw [hlong]
      · exact hE
    · have h : (!decide (errV ((List.range n).map sp) lo hi (isSetB ((List.range n).map sp).length m) = 0)) = false := h
      rw [hE] at h
      have h : E = 0 := by simpa using h
      rw [if_pos h] at hlong
      obtain ⟨q1, q2⟩ := errV_zero (hE.trans h)
      have hm : 0 ≤ m ∧ m ≤ 1000000 := by
        have := isSetB_ok q2 (setOk_len q1).1
        omega
      have hmw : wrapK .u64 m = m := wrap_in (show InK .u64 m from ⟨by omega, by omega⟩)
      have hof := ofW_ofL (L := (List.range n).map sp) (lo := lo) (hi := hi) (isSetB_nat q2).1 (isSetB_nat q2).2
      refine Chk.mk ⟨spans_sp _ _, rfl, okSet_of q1, ?_, ?_⟩ (hR _ _ ⟨⟨⟨rfl, ?_⟩, ⟨rfl, ?_⟩, trivial⟩, ⟨rfl, h.symm⟩, trivial⟩ rfl)
      · show 0 ≤ wrapK .u64 m
        omega
      · show wrapK .u64 m ≤ _
        omega
      · show (ofW ((List.range n).map sp) lo hi (wrapK .u64 m).toNat).1 = (longV _ _ _ _).1
        rw [hlong, hmw, hof]
      · show (ofW ((List.range n).map sp) lo hi (wrapK .u64 m).toNat).2.1 = (longV _ _ _ _).2
        rw [hlong, hmw, hof]
  · cases hk
theorem g15 {l : List (Nat × Ct)} (g : Good P T l) : Good P T ((15, c15) :: l) := g.add (k15 g) (stCt_mono _) (body_of Try.func15 (c := code Try.f15) rfl (by decide))

end Go.X.S
end

section
set_option linter.unusedVariables false
set_option linter.unusedSimpArgs false
set_option linter.unusedSectionVars false
/- Stack: Right. -/
set_option linter.unusedVariables false
set_option linter.unusedSimpArgs false
set_option maxRecDepth 10000
set_option maxHeartbeats 1000000
namespace Go.X.S
open Go Go.Proofs Go.X

def meetsB (w : Span) (x : Int × Int × Int) : Bool := decide (w.1 ≤ x.2.1) && decide (x.1 ≤ w.2)
def insideB (w : Span) (x : Int × Int × Int) : Bool := decide (w.1 ≤ x.1) && decide (x.2.1 ≤ w.2)
def c94 : Ct := plainCt fun
  | [.agg [.si .i64 c, .si .i64 d], .agg [.si .i64 a, .si .i64 b, .si .i64 n]] => some ⟨none, none, .sb (meetsB (c, d) (a, b, n)), []⟩
  | _ => none
theorem k94 {l : List (Nat × Ct)} (g : Good P T l) : COk P 94 c94 := by
  refine cok (C := tabC _) g.ok Try.func94 (c := code Try.f94) rfl fun fr args H out h hp => ?_
  simp only [c94, plainCt] at h
  split at h
  · cases h
    refine walk_plain rfl (Nat.le_of_ble_eq_true rfl) fun G hG => ?_
    exact ⟨.inl rfl, end_plain rfl rfl rfl⟩
  · cases h
theorem g94 {l : List (Nat × Ct)} (g : Good P T l) : Good P T ((94, c94) :: l) := g.add (k94 g) (plainCt_mono _) (body_of Try.func94 (c := code Try.f94) rfl (by decide))
def c95 : Ct := plainCt fun
  | [.agg [.si .i64 c, .si .i64 d], .agg [.si .i64 a, .si .i64 b, .si .i64 n]] => some ⟨none, none, .sb (insideB (c, d) (a, b, n)), []⟩
  | _ => none
theorem k95 {l : List (Nat × Ct)} (g : Good P T l) : COk P 95 c95 := by
  refine cok (C := tabC _) g.ok Try.func95 (c := code Try.f95) rfl fun fr args H out h hp => ?_
  simp only [c95, plainCt] at h
  split at h
  · cases h
    refine walk_plain rfl (Nat.le_of_ble_eq_true rfl) fun G hG => ?_
    exact ⟨.inl rfl, end_plain rfl rfl rfl⟩
  · cases h
theorem g95 {l : List (Nat × Ct)} (g : Good P T l) : Good P T ((95, c95) :: l) := g.add (k95 g) (plainCt_mono _) (body_of Try.func95 (c := code Try.f95) rfl (by decide))
theorem m73 : MethOk P 73 "blockworks/stack.is" 94 := meth_of' (by kernel_rfl)
theorem m74 : MethOk P 74 "blockworks/stack.is" 95 := meth_of' (by kernel_rfl)
theorem b94 : Body P 94 := body_of Try.func94 (c := code Try.f94) rfl (by decide)
theorem b95 : Body P 95 := body_of Try.func95 (c := code Try.f95) rfl (by decide)

theorem wS_mono {f g : Nat → Int} {lo hi : Int} (set : Nat) (h : lo ≤ hi) : ∀ n, (∀ i, i < n → f i ≤ g i) → wS f lo set n ≤ wS g hi set n
  | 0, _ => Int.le_refl _
  | n + 1, hf => by
    have h1 := wS_mono set h n (fun i hi => hf i (by omega))
    have h2 := hf n (by omega)
    simp only [wS]
    split
    · split <;> omega
    · exact h1
theorem ofW_le {L : List Span} {lo hi : Int} (h : setOk L lo hi = true) (set : Nat) : (ofW L lo hi set).1 ≤ (ofW L lo hi set).2.1 := by
  obtain ⟨a1, a2, a3, a4, a5⟩ := setOk_len h
  refine wS_mono set a3 _ fun i hi => ?_
  rw [List.getD_eq_getElem?_getD, List.getElem?_eq_getElem hi]
  exact (a5 _ (List.getElem_mem hi)).2.1
theorem right_eq {X : Int × Int × Int} {w : Span} (h : X.1 ≤ X.2.1) : ((if meetsB w X = true then 1 else 0) + (if insideB w X = true then 1 else 0) : Int) = rightV (X.1, X.2.1) w := by
  simp only [meetsB, insideB, rightV, Bool.and_eq_true, decide_eq_true_eq]
  repeat' split
  all_goals omega

theorem k17 {l : List (Nat × Ct)} (g0 : Good P T l) : COk P 17 c17 := by
  have g := g95 (g94 (g43 (g41 (g42 (g47 g0)))))
  refine cokD (C := tabC _) g.ok answer_ok Try.func17 (c := code Try.f17) rfl fun fr args H out h hp => stWalkD h hp fun n sp lo hi r p v Rv hk hp hR => ?_
  split at hk
  · rename_i m a b
    cases hk
    have hp : ((List.range n).map sp).length ≤ 40 := hp
    have hp' : n ≤ 40 := by simpa using hp
    refine ⟨Nat.le_of_ble_eq_true rfl, fun G hG => ?_⟩
    refine fb_defer (g.ok _ _ _) rfl cont_std rfl rfl rfl rfl ?_
    refine drawn_ok (g.ok _ _ _) fol [0,0,0,6,14,30,62,126,255,0,512,2047,0,8191] [] 13 (by kernel_rfl) ?_
    refine Chk.mk ⟨spans_sp _ _, rfl, hp⟩ ?_
    refine Chk.mk (spans_sp _ _) ?_
    generalize hE : errV ((List.range n).map sp) lo hi (isSetB ((List.range n).map sp).length m && isWantB a b) = E at hR
    have hlong : rightW ((List.range n).map sp) lo hi m a b = if E = 0 then rightV (ofL ((List.range n).map sp) lo hi m.toNat) (a, b) else 0 := by rw [rightW, hE]
    refine Br.mk (fun h => ?_) (fun h => ?_)
    · have h : (!decide (errV ((List.range n).map sp) lo hi (isSetB ((List.range n).map sp).length m && isWantB a b) = 0)) = true := h
      rw [hE] at h
      have h : ¬ E = 0 := by simpa using h
      rw [if_neg h] at hlong
      exact hR _ _ ⟨⟨rfl, hlong.symm⟩, ⟨rfl, hE⟩, trivial⟩ rfl
    · have h : (!decide (errV ((List.range n).map sp) lo hi (isSetB ((List.range n).map sp).length m && isWantB a b) = 0)) = false := h
      rw [hE] at h
      have h : E = 0 := by simpa using h
      rw [if_pos h] at hlong
      obtain ⟨q1, q2⟩ := errV_zero (hE.trans h)
      simp only [Bool.and_eq_true] at q2
      have hm : 0 ≤ m ∧ m ≤ 1000000 := by
        have := isSetB_ok q2.1 (setOk_len q1).1
        omega
      have hmw : wrapK .u64 m = m := wrap_in (show InK .u64 m from ⟨by omega, by omega⟩)
      have hof := ofW_ofL (L := (List.range n).map sp) (lo := lo) (hi := hi) (isSetB_nat q2.1).1 (isSetB_nat q2.1).2
      refine Chk.mk ⟨spans_sp _ _, rfl, okSet_of q1, ?_, ?_⟩ ?_
      · show 0 ≤ wrapK .u64 m
        omega
      · show wrapK .u64 m ≤ _
        omega
      obtain ⟨X, hX⟩ : ∃ X, ofW ((List.range n).map sp) lo hi (wrapK .u64 m).toNat = X := ⟨_, rfl⟩
      refine loop_ok (g.ok _ _ _) (fun x : {i : Nat // i ≤ 2} => ⟨[(7, ⟨[], .sp 3 0⟩), (6, ⟨[], .si .i64 0⟩), (8, ⟨[], .sp 52 0⟩), (9, ⟨[], .si .i64 ((if 0 < x.1 ∧ meetsB (a, b) X = true then 1 else 0) + (if 1 < x.1 ∧ insideB (a, b) X = true then 1 else 0))⟩), (30, ⟨[], .sl 56⟩), (31, ⟨[], .si .i64 2⟩), (32, ⟨[], .si .i64 x.1⟩)], [],
        [(3, .cells 29 [.si .i64 0]), (52, .cells 62 [.si .i64 X.1, .si .i64 X.2.1, .si .i64 X.2.2]), (56, .row 77 1 2 [.ifc 73 (.agg [.si .i64 a, .si .i64 b]), .ifc 74 (.agg [.si .i64 a, .si .i64 b])])], 57, [(40, [.sp 3 0])]⟩) (fun x => 2 - x.1) (fun _ j hj => hG j (by have : 57 ≤ j := hj; omega)) ⟨0, Nat.zero_le _⟩ ?_ ?_
      · refine ⟨?_, ?_, rfl, rfl, rfl⟩
        · repeat' (first | exact trivial | exact rfl | refine And.intro ?_ ?_)
        · refine ⟨⟨⟨rfl, ⟨rfl, rfl⟩, trivial⟩, rfl, rfl⟩, ⟨⟨rfl, ⟨rfl, ?_⟩, ⟨rfl, ?_⟩, ⟨rfl, ?_⟩, trivial⟩, rfl, rfl⟩, ⟨⟨rfl, rfl, rfl, rfl⟩, rfl, rfl⟩, trivial⟩
          · show (ofW ((List.range n).map sp) lo hi (wrapK .u64 m).toNat).1 = X.1
            rw [hX]
          · show (ofW ((List.range n).map sp) lo hi (wrapK .u64 m).toNat).2.1 = X.2.1
            rw [hX]
          · show (ofW ((List.range n).map sp) lo hi (wrapK .u64 m).toNat).2.2 = X.2.2
            rw [hX]
      · rintro ⟨i, hi2⟩
        rcases (show i = 0 ∨ i = 1 ∨ i = 2 by omega) with rfl | rfl | rfl
        · refine Br.mk (fun h1 => ?_) (fun h1 => by cases h1)
          refine Chk.mk (show (0 : Int) ≤ 0 ∧ (0 : Int) < 2 from ⟨by decide, by decide⟩) ?_
          refine fb_invoke 94 (g.ok _ _ _) cont_std rfl rfl rfl rfl rfl rfl rfl m73 b94 ?_
          refine callS_ct (k94 g0) (out := ⟨none, none, .sb (meetsB (a, b) X), []⟩) rfl trivial (fun _ => ?_) (fun ch h => by cases h)
          refine Br.mk (fun h2 => ?_) (fun h2 => ?_)
          · have h2 : meetsB (a, b) X = true := h2
            refine Chk.mk (show _ ∧ _ from ?_) (Chk.mk (by show (-9223372036854775808 : Int) ≤ 0 + 1 ∧ (0 : Int) + 1 ≤ 9223372036854775807; decide) ⟨⟨1, by decide⟩, ?_, (by show 2 - 1 < 2 - 0; decide)⟩)
            · show (-9223372036854775808 : Int) ≤ (0 + 0) + 1 ∧ ((0 + 0) + 1 : Int) ≤ 9223372036854775807
              decide
            · refine ⟨?_, ?_, rfl, rfl, rfl⟩
              · repeat' (first | exact trivial | exact rfl | refine And.intro ?_ ?_)
                show _ + 1 = _
                simp [h2]
              · exact ⟨⟨⟨rfl, ⟨rfl, rfl⟩, trivial⟩, rfl, rfl⟩, ⟨⟨rfl, ⟨rfl, rfl⟩, ⟨rfl, rfl⟩, ⟨rfl, rfl⟩, trivial⟩, rfl, rfl⟩, ⟨⟨rfl, rfl, rfl, rfl⟩, rfl, rfl⟩, trivial⟩
          · have h2 : meetsB (a, b) X = false := h2
            refine Chk.mk (by show (-9223372036854775808 : Int) ≤ 0 + 1 ∧ (0 : Int) + 1 ≤ 9223372036854775807; decide) ⟨⟨1, by decide⟩, ?_, (by show 2 - 1 < 2 - 0; decide)⟩
            · refine ⟨?_, ?_, rfl, rfl, rfl⟩
              · repeat' (first | exact trivial | exact rfl | refine And.intro ?_ ?_)
                show _ = ((if 0 < 1 ∧ meetsB (a, b) X = true then 1 else 0) + (if 1 < 1 ∧ insideB (a, b) X = true then 1 else 0) : Int)
                simp [h2]
              · exact ⟨⟨⟨rfl, ⟨rfl, rfl⟩, trivial⟩, rfl, rfl⟩, ⟨⟨rfl, ⟨rfl, rfl⟩, ⟨rfl, rfl⟩, ⟨rfl, rfl⟩, trivial⟩, rfl, rfl⟩, ⟨⟨rfl, rfl, rfl, rfl⟩, rfl, rfl⟩, trivial⟩
        · refine Br.mk (fun h1 => ?_) (fun h1 => by cases h1)
          refine Chk.mk (show (0 : Int) ≤ 1 ∧ (1 : Int) < 2 from ⟨by decide, by decide⟩) ?_
          refine fb_invoke 95 (g.ok _ _ _) cont_std rfl rfl rfl rfl rfl rfl rfl m74 b95 ?_
          refine callS_ct (k95 g0) (out := ⟨none, none, .sb (insideB (a, b) X), []⟩) rfl trivial (fun _ => ?_) (fun ch h => by cases h)
          refine Br.mk (fun h2 => ?_) (fun h2 => ?_)
          · have h2 : insideB (a, b) X = true := h2
            refine Chk.mk (show _ ∧ _ from ?_) (Chk.mk (by show (-9223372036854775808 : Int) ≤ 1 + 1 ∧ (1 : Int) + 1 ≤ 9223372036854775807; decide) ⟨⟨2, by decide⟩, ?_, (by show 2 - 2 < 2 - 1; decide)⟩)
            · show _ ≤ ((if 0 < 1 ∧ meetsB (a, b) X = true then 1 else 0) + (if 1 < 1 ∧ insideB (a, b) X = true then 1 else 0) + 1 : Int) ∧ ((if 0 < 1 ∧ meetsB (a, b) X = true then 1 else 0) + (if 1 < 1 ∧ insideB (a, b) X = true then 1 else 0) + 1 : Int) ≤ _
              simp
              split <;> decide
            · refine ⟨?_, ?_, rfl, rfl, rfl⟩
              · repeat' (first | exact trivial | exact rfl | refine And.intro ?_ ?_)
                show _ + 1 = _
                simp [h2]
              · exact ⟨⟨⟨rfl, ⟨rfl, rfl⟩, trivial⟩, rfl, rfl⟩, ⟨⟨rfl, ⟨rfl, rfl⟩, ⟨rfl, rfl⟩, ⟨rfl, rfl⟩, trivial⟩, rfl, rfl⟩, ⟨⟨rfl, rfl, rfl, rfl⟩, rfl, rfl⟩, trivial⟩
          · have h2 : insideB (a, b) X = false := h2
            refine Chk.mk (by show (-9223372036854775808 : Int) ≤ 1 + 1 ∧ (1 : Int) + 1 ≤ 9223372036854775807; decide) ⟨⟨2, by decide⟩, ?_, (by show 2 - 2 < 2 - 1; decide)⟩
            · refine ⟨?_, ?_, rfl, rfl, rfl⟩
              · repeat' (first | exact trivial | exact rfl | refine And.intro ?_ ?_)
                show _ = ((if 0 < 2 ∧ meetsB (a, b) X = true then 1 else 0) + (if 1 < 2 ∧ insideB (a, b) X = true then 1 else 0) : Int)
                simp [h2]
              · exact ⟨⟨⟨rfl, ⟨rfl, rfl⟩, trivial⟩, rfl, rfl⟩, ⟨⟨rfl, ⟨rfl, rfl⟩, ⟨rfl, rfl⟩, ⟨rfl, rfl⟩, trivial⟩, rfl, rfl⟩, ⟨⟨rfl, rfl, rfl, rfl⟩, rfl, rfl⟩, trivial⟩
        · refine Br.mk (fun h1 => by cases h1) (fun h1 => ?_)
          have hle : X.1 ≤ X.2.1 := by rw [← hX, hmw]; exact ofW_le q1 _
          refine hR _ _ ⟨⟨rfl, ?_⟩, ⟨rfl, h.symm⟩, trivial⟩ rfl
          show ((if 0 < 2 ∧ meetsB (a, b) X = true then 1 else 0) + (if 1 < 2 ∧ insideB (a, b) X = true then 1 else 0) : Int) = rightW _ _ _ _ _ _
          rw [hlong]
          have e1 : (ofL ((List.range n).map sp) lo hi m.toNat).1 = X.1 := by rw [← hX, hmw, hof]
          have e2 : (ofL ((List.range n).map sp) lo hi m.toNat).2 = X.2.1 := by rw [← hX, hmw, hof]
          rw [show ofL ((List.range n).map sp) lo hi m.toNat = (X.1, X.2.1) from by rw [← e1, ← e2], ← right_eq hle]
          simp
  · cases hk
theorem g17 {l : List (Nat × Ct)} (g : Good P T l) : Good P T ((17, c17) :: l) := g.add (k17 g) (stCt_mono _) (body_of Try.func17 (c := code Try.f17) rfl (by decide))

end Go.X.S
end

section
set_option linter.unusedVariables false
set_option linter.unusedSimpArgs false
set_option linter.unusedSectionVars false
/- Stack: what is found of several, joined. -/
set_option linter.unusedVariables false
set_option linter.unusedSimpArgs false
set_option maxRecDepth 10000
set_option maxHeartbeats 1000000
namespace Go.X.S
open Go Go.Proofs Go.X

structure Fd where
  many : Nat
  least : Nat
  each : Nat
  some : Nat
deriving DecidableEq
def encF (x : Fd) : SV := .agg [.si .i64 x.many, .si .u64 x.least, .si .u64 x.each, .si .u64 x.some]
def encFL (x : Fd) : List SV := [.si .i64 x.many, .si .u64 x.least, .si .u64 x.each, .si .u64 x.some]
def foundAt (get : Nat → List SV) (i : Nat) : Fd := match get i with
  | [.si .i64 a, .si .u64 b, .si .u64 c, .si .u64 d] => ⟨a.toNat, b.toNat, c.toNat, d.toNat⟩
  | _ => ⟨0, 0, 0, 0⟩
def Founds (n : Nat) (get : Nat → List SV) : Prop := ∀ i, i < n → get i = encFL (foundAt get i)
theorem founds_enc (n : Nat) (f : Nat → Fd) : Founds n (fun i => encFL (f i)) := fun i hi => by simp [foundAt, encFL]
theorem foundAt_enc (f : Nat → Fd) (i : Nat) : foundAt (fun i => encFL (f i)) i = f i := by simp [foundAt, encFL]

def lessN (x y : Nat) : Bool := decide (sizeN x < sizeN y) || (decide (sizeN x = sizeN y) && decide (x < y))
theorem lessB_nat (x y : Nat) : lessB x y = lessN x y := by
  simp only [lessB, lessN, Int.toNat_natCast]
  rw [Bool.eq_iff_iff]
  simp only [Bool.or_eq_true, Bool.and_eq_true, decide_eq_true_eq]
  constructor <;> intro h <;> omega
def join (f x : Fd) : Fd := ⟨f.many + x.many, if lessN x.least f.least = true then x.least else f.least, f.each &&& x.each, f.some ||| x.some⟩
def jn (f : Nat → Fd) : Nat → Fd
  | 0 => ⟨0, 0, 0, 0⟩
  | n + 1 => if n = 0 then f 0 else join (jn f n) (f n)
def okF (x : Fd) : Prop := x.many ≤ 1000000 ∧ x.least < 256 ∧ x.each < 256 ∧ x.some < 256
theorem jn_ok {f : Nat → Fd} : ∀ n, (∀ i, i < n → okF (f i)) → (jn f n).many ≤ n * 1000000 ∧ (jn f n).least < 256 ∧ (jn f n).each < 256 ∧ (jn f n).some < 256
  | 0, _ => by simp [jn]
  | n + 1, h => by
    have ih := jn_ok n (fun i hi => h i (by omega))
    have h0 := h n (by omega)
    unfold okF at h0
    simp only [jn]
    split
    · rename_i e; subst e
      omega
    · simp only [join]
      refine ⟨by omega, by split <;> omega, ?_, ?_⟩
      · exact Nat.lt_of_le_of_lt Nat.and_le_left ih.2.2.1
      · exact Nat.or_lt_two_pow (n := 8) ih.2.2.2 h0.2.2.2
/-- What is found of all in a list. -/
def joinL (L : List Fd) : Fd := jn (fun i => L.getD i ⟨0, 0, 0, 0⟩) L.length
theorem jn_congr {f g : Nat → Fd} : ∀ n, (∀ i, i < n → f i = g i) → jn f n = jn g n
  | 0, _ => rfl
  | n + 1, h => by
    simp only [jn, jn_congr n (fun i hi => h i (by omega)), h n (by omega), h 0 (by omega)]
def foundL (n : Nat) (get : Nat → List SV) : List Fd := (List.range n).map (foundAt get)
theorem joinL_map (n : Nat) (f : Nat → Fd) : joinL ((List.range n).map f) = jn f n := by
  simp only [joinL, List.length_map, List.length_range]
  refine jn_congr n fun i hi => ?_
  simp [List.getD_eq_getElem?_getD, List.getElem?_map, List.getElem?_range hi]

def c66 : Ct := fun fr args H =>
  match args with
  | [.sl id] => (match sliceOf 4 H id with
    | some (n, get) => some ⟨some (Founds n get ∧ n ≤ 1000 ∧ ∀ i, i < n → okF (foundAt get i)), none, encF (jn (foundAt get) n), []⟩
    | none => none)
  | [.sv (.slice none 0 0)] => some ⟨none, none, encF ⟨0, 0, 0, 0⟩, []⟩
  | _ => none
theorem c66_mono : CtMono c66 := by
  intro fr args H H' out hH h
  unfold c66 at h ⊢
  split at h
  · split at h
    · rename_i e
      simp only [sliceOf_mono hH e]
      exact h
    · cases h
  · exact h
  · cases h

theorem k66 {l : List (Nat × Ct)} (g0 : Good P T l) : COk P 66 c66 := by
  have g := g74 g0
  refine cok (C := tabC _) g.ok Try.func66 (c := code Try.f66) rfl fun fr args H out h hp => ?_
  unfold c66 at h
  split at h
  · rename_i id
    split at h
    · rename_i n get e
      cases h
      obtain ⟨hs, hn, hb⟩ : Founds n get ∧ n ≤ 1000 ∧ ∀ i, i < n → okF (foundAt get i) := hp
      have hh : Hand H [(id, .ro 4 n fun i => encFL (foundAt get i))] := hand_one e (fun i => rfl) (fun i hi => (hs i hi).symm)
      refine ⟨[(id, .ro 4 n fun i => encFL (foundAt get i))], [.sl 0], [(0, .ro 4 n fun i => encFL (foundAt get i))], 1, [], rfl, rfl, Nat.le_of_ble_eq_true rfl, hh, rfl, rfl, fun G hG => ?_⟩
      generalize foundAt get = f at hb ⊢
      refine loop_ok (g.ok _ _ _) (fun x : {i : Nat // i ≤ n} => ⟨[(2, ⟨[], .sp 1 0⟩), (5, ⟨[], .sl 0⟩), (6, ⟨[], .si .i64 n⟩), (7, ⟨[], .si .i64 x.1⟩)], [],
        [(0, .ro 4 n fun i => encFL (f i)), (1, .cells 81 (encFL (jn f x.1)))], 2, []⟩) (fun x => n - x.1) (fun _ j hj => hG j (by have : 2 ≤ j := hj; omega)) ⟨0, Nat.zero_le _⟩ ?_ ?_
      · refine ⟨?_, ?_, rfl, rfl, rfl⟩
        · repeat' (first | exact trivial | exact rfl | refine And.intro ?_ ?_)
        · exact ⟨⟨rfl, fun i hi => rfl, rfl⟩, ⟨⟨rfl, ⟨rfl, rfl⟩, ⟨rfl, rfl⟩, ⟨rfl, rfl⟩, ⟨rfl, rfl⟩, trivial⟩, rfl, rfl⟩, trivial⟩
      · rintro ⟨i, hin⟩
        refine Br.mk (fun h => ?_) (fun h => ?_)
        · have h : (i : Int) < (n : Int) := of_decide_eq_true h
          refine Chk.mk (show (0 : Int) ≤ (i : Int) ∧ (i : Int) < (n : Int) from ⟨by omega, h⟩) ?_
          refine Br.mk (fun h1 => ?_) (fun h1 => ?_)
          · have h1 : (i : Int) = 0 := of_decide_eq_true h1
            have h1 : i = 0 := by omega
            subst h1
            refine Chk.mk (show (-9223372036854775808 : Int) ≤ 0 + 1 ∧ (0 : Int) + 1 ≤ 9223372036854775807 by decide) ⟨⟨1, (by omega : 1 ≤ n)⟩, ?_, ?_⟩
            · refine ⟨?_, ?_, rfl, rfl, rfl⟩
              · repeat' (first | exact trivial | exact rfl | refine And.intro ?_ ?_)
              · exact ⟨⟨rfl, fun i hi => rfl, rfl⟩, ⟨⟨rfl, ⟨rfl, rfl⟩, ⟨rfl, rfl⟩, ⟨rfl, rfl⟩, ⟨rfl, rfl⟩, trivial⟩, rfl, rfl⟩, trivial⟩
            · show n - 1 < n - 0
              omega
          · have h1 : ¬ (i : Int) = 0 := of_decide_eq_false h1
            have hj := jn_ok i (fun j hj => hb j (by omega))
            have hx := hb i (by omega)
            unfold okF at hx
            obtain ⟨J, hJ⟩ : ∃ J, jn f i = J := ⟨_, rfl⟩
            rw [hJ] at hj
            have hnext : jn f (i + 1) = join J (f i) := by
              simp only [jn]
              rw [if_neg (by omega), hJ]
            refine Chk.mk (show (-9223372036854775808 : Int) ≤ ((jn f i).many : Int) + ((f i).many : Int) ∧ ((jn f i).many : Int) + ((f i).many : Int) ≤ 9223372036854775807 by rw [hJ]; omega) ?_
            refine drawn_ok (g.ok _ _ _) fol [0,1,0,4,15,0,32,0,128,480,127,1151,4095,8191] [(11,1),(13,1)] 14 (by kernel_rfl) ?_
            refine Chk.mk (show 0 ≤ ((jn f i).each : Int) ∧ 0 ≤ ((f i).each : Int) ∧ (0 ≤ ((jn f i).each : Int) ∧ ((jn f i).each : Int) ≤ 18446744073709551615) ∧ (0 ≤ ((f i).each : Int) ∧ ((f i).each : Int) ≤ 18446744073709551615) by rw [hJ]; omega) ?_
            refine Chk.mk (show 0 ≤ ((jn f i).some : Int) ∧ 0 ≤ ((f i).some : Int) ∧ (0 ≤ ((jn f i).some : Int) ∧ ((jn f i).some : Int) ≤ 18446744073709551615) ∧ (0 ≤ ((f i).some : Int) ∧ ((f i).some : Int) ≤ 18446744073709551615) by rw [hJ]; omega) ?_
            refine Chk.mk (show 0 ≤ ((f i).least : Int) ∧ ((f i).least : Int) < 256 ∧ 0 ≤ ((jn f i).least : Int) ∧ ((jn f i).least : Int) < 256 by rw [hJ]; omega) ?_
            refine Br.mk (fun h2 => ?_) (fun h2 => ?_)
            · have h2 : lessB ((f i).least : Int) ((jn f i).least : Int) = true := h2
              rw [lessB_nat, hJ] at h2
              refine Chk.mk (show (-9223372036854775808 : Int) ≤ (i : Int) + 1 ∧ (i : Int) + 1 ≤ 9223372036854775807 by omega) ⟨⟨i + 1, (by omega : i + 1 ≤ n)⟩, ?_, ?_⟩
              · refine ⟨?_, ?_, rfl, rfl, rfl⟩
                · repeat' (first | exact trivial | exact rfl | refine And.intro ?_ ?_)
                · refine ⟨⟨rfl, fun i hi => rfl, rfl⟩, ⟨⟨rfl, ⟨rfl, ?_⟩, ⟨rfl, ?_⟩, ⟨rfl, ?_⟩, ⟨rfl, ?_⟩, trivial⟩, rfl, rfl⟩, trivial⟩
                  · show ((jn f i).many : Int) + ((f i).many : Int) = ((jn f (i + 1)).many : Int)
                    rw [hnext, hJ]; simp [join]
                  · show ((f i).least : Int) = ((jn f (i + 1)).least : Int)
                    rw [hnext]; simp [join, h2]
                  · show ((((jn f i).each : Int).toNat &&& ((f i).each : Int).toNat : Nat) : Int) = ((jn f (i + 1)).each : Int)
                    rw [hnext, hJ]; simp [join]
                  · show ((((jn f i).some : Int).toNat ||| ((f i).some : Int).toNat : Nat) : Int) = ((jn f (i + 1)).some : Int)
                    rw [hnext, hJ]; simp [join]
              · show n - (i + 1) < n - i
                omega
            · have h2 : lessB ((f i).least : Int) ((jn f i).least : Int) = false := h2
              rw [lessB_nat, hJ] at h2
              refine Chk.mk (show (-9223372036854775808 : Int) ≤ (i : Int) + 1 ∧ (i : Int) + 1 ≤ 9223372036854775807 by omega) ⟨⟨i + 1, (by omega : i + 1 ≤ n)⟩, ?_, ?_⟩
              · refine ⟨?_, ?_, rfl, rfl, rfl⟩
                · repeat' (first | exact trivial | exact rfl | refine And.intro ?_ ?_)
                · refine ⟨⟨rfl, fun i hi => rfl, rfl⟩, ⟨⟨rfl, ⟨rfl, ?_⟩, ⟨rfl, ?_⟩, ⟨rfl, ?_⟩, ⟨rfl, ?_⟩, trivial⟩, rfl, rfl⟩, trivial⟩
                  · show ((jn f i).many : Int) + ((f i).many : Int) = ((jn f (i + 1)).many : Int)
                    rw [hnext, hJ]; simp [join]
                  · show ((jn f i).least : Int) = ((jn f (i + 1)).least : Int)
                    rw [hnext, hJ]; simp [join, h2]
                  · show ((((jn f i).each : Int).toNat &&& ((f i).each : Int).toNat : Nat) : Int) = ((jn f (i + 1)).each : Int)
                    rw [hnext, hJ]; simp [join]
                  · show ((((jn f i).some : Int).toNat ||| ((f i).some : Int).toNat : Nat) : Int) = ((jn f (i + 1)).some : Int)
                    rw [hnext, hJ]; simp [join]
              · show n - (i + 1) < n - i
                omega
        · have h : ¬ (i : Int) < (n : Int) := of_decide_eq_false h
          have : i = n := by omega
          subst this
          exact ⟨.inl rfl, end_noid ⟨⟨rfl, rfl⟩, ⟨rfl, rfl⟩, ⟨rfl, rfl⟩, ⟨rfl, rfl⟩, trivial⟩ rfl rfl ⟨trivial, trivial⟩⟩
    · cases h
  · cases h
    refine walk_plain rfl (Nat.le_of_ble_eq_true rfl) fun G hG => ?_
    refine loop_ok (g.ok _ _ _) (fun x : Unit => ⟨[(2, ⟨[], .sp 0 0⟩), (5, ⟨[], .sv (.slice none 0 0)⟩), (6, ⟨[], .si .i64 0⟩), (7, ⟨[], .si .i64 0⟩)], [],
        [(0, .cells 81 (encFL ⟨0, 0, 0, 0⟩))], 1, []⟩) (fun x => 0) (fun _ j hj => hG j (Nat.zero_le _)) () ?_ ?_
    · refine ⟨?_, ?_, rfl, rfl, rfl⟩
      · repeat' (first | exact trivial | exact rfl | refine And.intro ?_ ?_)
      · exact ⟨⟨⟨rfl, ⟨rfl, rfl⟩, ⟨rfl, rfl⟩, ⟨rfl, rfl⟩, ⟨rfl, rfl⟩, trivial⟩, rfl, rfl⟩, trivial⟩
    · intro _
      refine Br.mk (fun h => by cases h) (fun h => ?_)
      exact ⟨.inl rfl, end_plain ⟨⟨rfl, rfl⟩, ⟨rfl, rfl⟩, ⟨rfl, rfl⟩, ⟨rfl, rfl⟩, trivial⟩ rfl rfl⟩
  · cases h
theorem g66 {l : List (Nat × Ct)} (g : Good P T l) : Good P T ((66, c66) :: l) := g.add (k66 g) c66_mono (body_of Try.func66 (c := code Try.f66) rfl (by decide))

end Go.X.S
end

section
set_option linter.unusedVariables false
set_option linter.unusedSimpArgs false
set_option linter.unusedSectionVars false
/- Stack: what is found of lengths; plain mathematics. -/
set_option linter.unusedVariables false
set_option linter.unusedSimpArgs false
set_option linter.unusedSectionVars false
set_option maxRecDepth 10000
set_option maxHeartbeats 1000000
namespace Go.X.S
open Go Go.Proofs Go.X

theorem lessN_iff {x y : Nat} : lessN x y = true ↔ sizeN x < sizeN y ∨ (sizeN x = sizeN y ∧ x < y) := by
  simp only [lessN, Bool.or_eq_true, Bool.and_eq_true, decide_eq_true_eq]
theorem lessN_no {x y : Nat} : ¬ lessN x y = true ↔ sizeN y < sizeN x ∨ (sizeN x = sizeN y ∧ y ≤ x) := by
  rw [lessN_iff]; omega
/-- The one that comes first. -/
def minN (x y : Nat) : Nat := if lessN y x = true then y else x
theorem minN_comm (x y : Nat) : minN x y = minN y x := by
  unfold minN
  by_cases h1 : lessN y x = true <;> by_cases h2 : lessN x y = true
  · rw [lessN_iff] at h1 h2; omega
  · rw [if_pos h1, if_neg h2]
  · rw [if_neg h1, if_pos h2]
  · rw [if_neg h1, if_neg h2]
    rw [lessN_no] at h1 h2; omega
theorem minN_assoc (x y z : Nat) : minN (minN x y) z = minN x (minN y z) := by
  unfold minN
  by_cases h1 : lessN y x = true <;> by_cases h2 : lessN z y = true <;> by_cases h3 : lessN z x = true <;>
    simp only [h1, h2, h3, if_true, if_false, Bool.false_eq_true] <;> simp only [lessN_no, lessN_iff] at h1 h2 h3 <;> omega
theorem join_eq (f x : Fd) : join f x = ⟨f.many + x.many, minN f.least x.least, f.each &&& x.each, f.some ||| x.some⟩ := rfl
theorem join_comm (f x : Fd) : join f x = join x f := by
  simp only [join_eq, minN_comm f.least, Nat.add_comm f.many, Nat.and_comm f.each, Nat.or_comm f.some]
theorem join_assoc (f x y : Fd) : join (join f x) y = join f (join x y) := by
  simp only [join_eq, minN_assoc, Nat.add_assoc, Nat.and_assoc, Nat.or_assoc]

/-- One more. -/
def jo (o : Option Fd) (x : Fd) : Option Fd := match o with
  | none => some x
  | some y => some (join y x)
def J (l : List Fd) : Option Fd := l.foldl jo none
theorem jo_comm (o : Option Fd) (x y : Fd) : jo (jo o x) y = jo (jo o y) x := by
  cases o with
  | none => simp only [jo, join_comm x y]
  | some f => simp only [jo, join_assoc, join_comm x y]
def jj (a b : Option Fd) : Option Fd := match b with
  | none => a
  | some y => jo a y
theorem jo_jj (a : Option Fd) (x : Fd) (b : Option Fd) : jj (jo a x) b = jo (jj a b) x := by
  cases b with
  | none => rfl
  | some y => exact jo_comm a x y
theorem foldl_jo (l : List Fd) (o : Option Fd) : l.foldl jo o = jj o (J l) := by
  have key : ∀ (l : List Fd) (o p : Option Fd), l.foldl jo (jj o p) = jj o (l.foldl jo p) := by
    intro l
    induction l with
    | nil => intro o p; rfl
    | cons x r ih =>
      intro o p
      simp only [List.foldl_cons]
      have : jo (jj o p) x = jj o (jo p x) := by
        cases p with
        | none => rfl
        | some y => cases o with
          | none => rfl
          | some z => simp only [jj, jo, join_assoc]
      rw [this, ih]
  exact key l o none
theorem J_append (a b : List Fd) : J (a ++ b) = jj (J a) (J b) := by
  simp only [J, List.foldl_append]
  exact foldl_jo b _
theorem J_cons (x : Fd) (l : List Fd) : J (x :: l) = jj (some x) (J l) := by
  have := J_append [x] l
  simpa [J, jo] using this
theorem jj_none (a : Option Fd) : jj none a = a := by cases a <;> rfl
theorem jj_comm (a b : Option Fd) : jj a b = jj b a := by
  cases a <;> cases b <;> simp only [jj, jo]
  rw [join_comm]
theorem jj_assoc (a b c : Option Fd) : jj (jj a b) c = jj a (jj b c) := by
  cases a <;> cases b <;> cases c <;> simp only [jj, jo]
  rw [join_assoc]
theorem J_perm {a b : List Fd} (h : a.Perm b) : J a = J b := by
  induction h with
  | nil => rfl
  | cons x _ ih => rw [J_cons, J_cons, ih]
  | swap x y l => rw [J_cons, J_cons, J_cons, J_cons, ← jj_assoc, ← jj_assoc, jj_comm (some y) (some x)]
  | trans _ _ h1 h2 => rw [h1, h2]
theorem J_none {l : List Fd} : J l = none ↔ l = [] := by
  constructor
  · intro h
    cases l with
    | nil => rfl
    | cons x r => rw [J_cons] at h; cases hj : J r <;> rw [hj] at h <;> simp [jj, jo] at h
  · rintro rfl; rfl
theorem jn_J (f : Nat → Fd) : ∀ n, jn f n = (J ((List.range n).map f)).getD ⟨0, 0, 0, 0⟩
  | 0 => rfl
  | n + 1 => by
    have ih := jn_J f n
    rw [List.range_succ, List.map_append, J_append]
    simp only [jn]
    split
    · rename_i e; subst e; rfl
    · rename_i e
      rw [ih]
      cases hj : J ((List.range n).map f) with
      | none => rw [J_none] at hj; simp at hj; exact absurd hj e
      | some y => rfl

section
variable {κ : Type} [DecidableEq κ]
/-- What is found of a key. -/
def Gk (S : List (κ × Fd)) (k : κ) : Option Fd := J ((S.filter (fun p => decide (p.1 = k))).map (·.2))
theorem Gk_append (a b : List (κ × Fd)) (k : κ) : Gk (a ++ b) k = jj (Gk a k) (Gk b k) := by
  simp only [Gk, List.filter_append, List.map_append, J_append]
theorem Gk_one (k' : κ) (f : Fd) (k : κ) : Gk [(k', f)] k = if k' = k then some f else none := by
  simp only [Gk, List.filter_cons, List.filter_nil]
  split <;> rename_i h
  · simp at h; subst h; simp [J, jo]
  · simp at h; simp [J, h]
theorem Gk_perm {a b : List (κ × Fd)} (h : a.Perm b) (k : κ) : Gk a k = Gk b k := J_perm ((h.filter _).map _)
def putA (m : List (κ × Fd)) (k : κ) (f : Fd) : List (κ × Fd) := updA m k (match lookA m k with
  | some old => join old f
  | none => f)
def group (S : List (κ × Fd)) : List (κ × Fd) := S.foldl (fun m p => putA m p.1 p.2) []
theorem lookA_updA (m : List (κ × Fd)) (k : κ) (v : Fd) (k' : κ) : lookA (updA m k v) k' = if k' = k then some v else lookA m k' := by
  induction m with
  | nil => simp only [updA, lookA]; split <;> split <;> simp_all
  | cons p r ih =>
    simp only [updA]
    split
    · rename_i e; simp only [lookA]
      by_cases h : k = k'
      · subst h; simp
      · rw [if_neg h, if_neg (fun e' => h e'.symm), if_neg (fun e' => h (e.symm.trans e'))]
    · rename_i e; simp only [lookA, ih]
      by_cases h : p.1 = k'
      · subst h; simp [e]
      · simp [h]
theorem lookA_putA (m : List (κ × Fd)) (k : κ) (f : Fd) (k' : κ) : lookA (putA m k f) k' = if k' = k then jo (lookA m k) f else lookA m k' := by
  rw [putA, lookA_updA]
  split
  · cases lookA m k <;> rfl
  · rfl
theorem group_look (S : List (κ × Fd)) (k : κ) : lookA (group S) k = Gk S k := by
  have key : ∀ (S : List (κ × Fd)) (m : List (κ × Fd)), lookA (S.foldl (fun m p => putA m p.1 p.2) m) k = jj (lookA m k) (Gk S k) := by
    intro S
    induction S with
    | nil => intro m; rfl
    | cons p r ih =>
      intro m
      simp only [List.foldl_cons]
      rw [ih, lookA_putA]
      have : Gk (p :: r) k = jj (Gk [p] k) (Gk r k) := Gk_append [p] r k
      rw [this, Gk_one, ← jj_assoc]
      by_cases h : k = p.1
      · subst h; simp [jj]
      · rw [if_neg h, if_neg (fun e => h e.symm)]
        simp [jj]
  have := key S []
  rw [group, this]
  exact jj_none _
theorem putA_keys (m : List (κ × Fd)) (k : κ) (f : Fd) (h : (m.map (·.1)).Nodup) : ((putA m k f).map (·.1)).Nodup := by
  have key : ∀ (m : List (κ × Fd)) v, (m.map (·.1)).Nodup → ((updA m k v).map (·.1)).Nodup ∧ ∀ x, x ∈ (updA m k v).map (·.1) → x ∈ m.map (·.1) ∨ x = k := by
    intro m v
    induction m with
    | nil => intro _; simp [updA]
    | cons p r ih =>
      intro h
      simp only [List.map_cons, List.nodup_cons] at h
      obtain ⟨ih1, ih2⟩ := ih h.2
      simp only [updA]
      split
      · rename_i e; subst e
        refine ⟨by simpa using h, fun x hx => ?_⟩
        simp only [List.map_cons, List.mem_cons] at hx ⊢
        rcases hx with hx | hx
        · exact .inr hx
        · exact .inl (.inr hx)
      · rename_i e
        simp only [List.map_cons, List.nodup_cons, List.mem_cons]
        refine ⟨⟨fun hm => ?_, ih1⟩, fun x hx => ?_⟩
        · rcases ih2 _ hm with hm | hm
          · exact h.1 hm
          · exact e hm
        · rcases hx with hx | hx
          · exact .inl (.inl hx)
          · rcases ih2 _ hx with hx | hx
            · exact .inl (.inr hx)
            · exact .inr hx
  exact (key m _ h).1
theorem group_snoc (S : List (κ × Fd)) (p : κ × Fd) : group (S ++ [p]) = putA (group S) p.1 p.2 := by
  simp only [group, List.foldl_append, List.foldl_cons, List.foldl_nil]
theorem group_keys (S : List (κ × Fd)) : ((group S).map (·.1)).Nodup := by
  have key : ∀ (S m : List (κ × Fd)), (m.map (·.1)).Nodup → ((S.foldl (fun m p => putA m p.1 p.2) m).map (·.1)).Nodup := by
    intro S
    induction S with
    | nil => intro m h; exact h
    | cons p r ih => intro m h; exact ih _ (putA_keys m _ _ h)
  exact key S [] (by simp)
/-- Two maps with the same entries. -/
theorem perm_of_look {a b : List (κ × Fd)} (ha : (a.map (·.1)).Nodup) (hb : (b.map (·.1)).Nodup) (h : ∀ k, lookA a k = lookA b k) : a.Perm b := by
  have mem : ∀ {a b : List (κ × Fd)}, (a.map (·.1)).Nodup → (∀ k, lookA a k = lookA b k) → ∀ p, p ∈ a → p ∈ b := by
    intro a b ha h p hp
    have h1 := lookA_of_mem (l := a) (k := p.1) (v := p.2) ha hp
    rw [h] at h1
    exact lookA_mem h1
  have nd : ∀ {a : List (κ × Fd)}, (a.map (·.1)).Nodup → a.Nodup := by
    intro a h
    unfold List.Nodup at h ⊢
    rw [List.pairwise_map] at h
    exact h.imp fun hne e => hne (by rw [e])
  rw [List.perm_ext_iff_of_nodup (nd ha) (nd hb)]
  exact fun p => ⟨mem ha h p, mem hb (fun k => (h k).symm) p⟩

/-- Sums of what is found do not depend on how it was grouped. -/
def sumM (S : List (κ × Fd)) : Nat := (S.map (·.2.many)).sum
theorem sumM_updA (m : List (κ × Fd)) (k : κ) (v : Fd) : sumM (updA m k v) + (match lookA m k with | some o => o.many | none => 0) = sumM m + v.many := by
  induction m with
  | nil => simp [updA, lookA, sumM]
  | cons p r ih =>
    simp only [updA, lookA]
    split
    · simp [sumM]; omega
    · simp only [sumM, List.map_cons, List.sum_cons] at ih ⊢
      omega
theorem sumM_putA (m : List (κ × Fd)) (k : κ) (f : Fd) : sumM (putA m k f) = sumM m + f.many := by
  have := sumM_updA m k (match lookA m k with | some old => join old f | none => f)
  unfold putA
  cases h : lookA m k with
  | none => rw [h] at this; simpa using this
  | some o => rw [h] at this; simp only [join] at this ⊢; omega
theorem sumM_group (S : List (κ × Fd)) : sumM (group S) = sumM S := by
  have key : ∀ (S m : List (κ × Fd)), sumM (S.foldl (fun m p => putA m p.1 p.2) m) = sumM m + sumM S := by
    intro S
    induction S with
    | nil => intro m; simp [sumM]
    | cons p r ih => intro m; rw [List.foldl_cons, ih, sumM_putA]; simp [sumM]; omega
  have := key S []
  simpa [group, sumM] using this
theorem sumM_perm {a b : List (κ × Fd)} (h : a.Perm b) : sumM a = sumM b := (h.map _).sum_nat
theorem sumM_mem {S : List (κ × Fd)} {p : κ × Fd} (h : p ∈ S) : p.2.many ≤ sumM S := by
  induction S with
  | nil => cases h
  | cons q r ih =>
    simp only [sumM, List.map_cons, List.sum_cons] at ih ⊢
    rcases List.mem_cons.1 h with rfl | h
    · omega
    · have := ih h; omega
/-- A bound that joining keeps. -/
theorem group_all (P : Fd → Prop) (hP : ∀ f x, P f → P x → P (join f x)) {S : List (κ × Fd)} (h : ∀ p ∈ S, P p.2) : ∀ p ∈ group S, P p.2 := by
  have upd : ∀ (m : List (κ × Fd)) k v, (∀ p ∈ m, P p.2) → P v → ∀ p ∈ updA m k v, P p.2 := by
    intro m k v
    induction m with
    | nil => intro _ hv p hp; simp [updA] at hp; subst hp; exact hv
    | cons q r ih =>
      intro hm hv p hp
      simp only [updA] at hp
      split at hp
      · rcases List.mem_cons.1 hp with rfl | hp
        · exact hv
        · exact hm p (List.mem_cons_of_mem _ hp)
      · rcases List.mem_cons.1 hp with rfl | hp
        · exact hm p List.mem_cons_self
        · exact ih (fun p hp => hm p (List.mem_cons_of_mem _ hp)) hv p hp
  have key : ∀ (S m : List (κ × Fd)), (∀ p ∈ S, P p.2) → (∀ p ∈ m, P p.2) → ∀ p ∈ S.foldl (fun m p => putA m p.1 p.2) m, P p.2 := by
    intro S
    induction S with
    | nil => intro m _ hm; exact hm
    | cons q r ih =>
      intro m hS hm
      refine ih _ (fun p hp => hS p (List.mem_cons_of_mem _ hp)) (upd m _ _ hm ?_)
      cases hl : lookA m q.1 with
      | none => exact hS q List.mem_cons_self
      | some o => exact hP _ _ (hm _ (lookA_mem hl)) (hS q List.mem_cons_self)
  exact key S [] h (fun p hp => by cases hp)
end
end Go.X.S
end

section
set_option linter.unusedVariables false
set_option linter.unusedSimpArgs false
set_option linter.unusedSectionVars false
/- Stack: all lengths; keys and entries of the map; the map block by block. -/
set_option linter.unusedVariables false
set_option linter.unusedSimpArgs false
set_option linter.unusedSectionVars false
set_option maxRecDepth 10000
set_option maxHeartbeats 1000000
namespace Go.X.S
open Go Go.Proofs Go.X

structure Lg where
  lo : Int
  hi : Int
  many : Int
deriving DecidableEq
def encL (x : Lg) : SV := .agg [.si .i64 x.lo, .si .i64 x.hi, .si .i64 x.many]
theorem encL_key : KeyT T 62 encL where
  ty := ⟨_, rfl⟩
  chk := fun a => by kernel_rfl
  eq := fun a b => by
    have h : eqC T 9 62 (encL a) (encL b) = some ((decide (a.lo = b.lo) && (decide (a.hi = b.hi) && true)) && (decide (a.many = b.many) && true)) := by kernel_rfl
    rw [h]
    congr 1
    rw [Bool.eq_iff_iff]
    obtain ⟨a1, a2, a3⟩ := a
    obtain ⟨b1, b2, b3⟩ := b
    simp [and_assoc]
  cl := fun a => ⟨.agg #[.int .i64 a.lo, .int .i64 a.hi, .int .i64 a.many], rfl⟩
  same := fun a => by
    have : cv (encL a) = .agg #[.int .i64 a.lo, .int .i64 a.hi, .int .i64 a.many] := rfl
    rw [this]
    simp [Instr.sameBits]
theorem encF_cl : Closed encF := fun a => ⟨.agg #[.int .i64 a.many, .int .u64 a.least, .int .u64 a.each, .int .u64 a.some], rfl⟩

def zeroL : Lg := ⟨0, 0, 0⟩
def withL (film b : Span) (k : Lg) : Lg := ⟨(if 0 < k.many then k.lo + film.1 else k.lo) + b.1, (if 0 < k.many then k.hi + film.2 else k.hi) + b.2, k.many + 1⟩
def withF (i : Nat) (f : Fd) : Fd := ⟨f.many, f.least ||| 2 ^ i, f.each ||| 2 ^ i, f.some ||| 2 ^ i⟩
def stepE (film b : Span) (i : Nat) (p : Lg × Fd) : List (Lg × Fd) := [p, (withL film b p.1, withF i p.2)]
def listS (film : Span) (sp : Nat → Span) : Nat → List (Lg × Fd)
  | 0 => [(zeroL, ⟨1, 0, 0, 0⟩)]
  | i + 1 => (listS film sp i).flatMap (stepE film (sp i) i)

theorem sizeN_or {x i : Nat} (h : x < 2 ^ i) : sizeN (x ||| 2 ^ i) = sizeN x + 1 := by
  have h2 : x ||| 2 ^ i < 2 ^ (i + 1) := Nat.or_lt_two_pow (by rw [Nat.pow_succ]; omega) (Nat.pow_lt_pow_right (by decide) (by omega))
  rw [← cntB_size (i + 1) _ h2, ← cntB_size i x h]
  have hc : ∀ j, j ≤ i → cntB (x ||| 2 ^ i) j = cntB x j := by
    intro j
    induction j with
    | zero => intro _; rfl
    | succ j ih =>
      intro hj
      simp only [cntB, ih (by omega), Nat.testBit_or]
      have : (2 ^ i).testBit j = false := by rw [Nat.testBit_two_pow]; simp; omega
      simp [this]
  simp only [cntB, hc i (Nat.le_refl _), Nat.testBit_or]
  simp [Nat.testBit_two_pow_self]
theorem or_add {x i : Nat} (h : x < 2 ^ i) : x ||| 2 ^ i = x + 2 ^ i := by
  rw [Nat.or_comm]
  have := Nat.two_pow_add_eq_or_of_lt h 1
  simp at this
  rw [← this]; omega
theorem lessN_or {x y i : Nat} (hx : x < 2 ^ i) (hy : y < 2 ^ i) : lessN (x ||| 2 ^ i) (y ||| 2 ^ i) = lessN x y := by
  rw [Bool.eq_iff_iff, lessN_iff, lessN_iff, sizeN_or hx, sizeN_or hy, or_add hx, or_add hy]
  omega
theorem minN_or {x y i : Nat} (hx : x < 2 ^ i) (hy : y < 2 ^ i) : minN (x ||| 2 ^ i) (y ||| 2 ^ i) = minN x y ||| 2 ^ i := by
  unfold minN
  rw [lessN_or hy hx]
  split <;> rfl
theorem withF_join {f x : Fd} {i : Nat} (hf : f.least < 2 ^ i) (hx : x.least < 2 ^ i) : withF i (join f x) = join (withF i f) (withF i x) := by
  simp only [withF, join_eq, minN_or hf hx, Fd.mk.injEq, true_and]
  constructor
  · apply Nat.eq_of_testBit_eq; intro j
    simp only [Nat.testBit_or, Nat.testBit_and]
    cases f.each.testBit j <;> cases x.each.testBit j <;> cases (2 ^ i).testBit j <;> rfl
  · apply Nat.eq_of_testBit_eq; intro j
    simp only [Nat.testBit_or]
    cases f.some.testBit j <;> cases x.some.testBit j <;> cases (2 ^ i).testBit j <;> rfl

/-- The step does not look at how it was grouped. -/
theorem step_group (film b : Span) (i : Nat) (S : List (Lg × Fd)) (h : ∀ p ∈ S, p.2.least < 2 ^ i) (k : Lg) : Gk ((group S).flatMap (stepE film b i)) k = Gk (S.flatMap (stepE film b i)) k := by
  have key : ∀ (r S : List (Lg × Fd)), (∀ p ∈ S, p.2.least < 2 ^ i) → (∀ p ∈ r, p.2.least < 2 ^ i) → Gk ((group S).flatMap (stepE film b i)) k = Gk (S.flatMap (stepE film b i)) k →
      Gk ((group (S ++ r)).flatMap (stepE film b i)) k = Gk ((S ++ r).flatMap (stepE film b i)) k := by
    intro r
    induction r with
    | nil => intro S _ _ h; simpa using h
    | cons p r ih =>
      intro S hS hr h
      have e : S ++ p :: r = (S ++ [p]) ++ r := by simp
      rw [e]
      refine ih (S ++ [p]) (fun q hq => ?_) (fun q hq => hr q (List.mem_cons_of_mem _ hq)) ?_
      · rcases List.mem_append.1 hq with hq | hq
        · exact hS q hq
        · simp at hq; subst hq; exact hr q List.mem_cons_self
      · rw [group_snoc, List.flatMap_append, Gk_append, ← h]
        have hp := hr p List.mem_cons_self
        cases hl : lookA (group S) p.1 with
        | none =>
          rw [putA, hl, updA_new (lookA_none.1 hl), List.flatMap_append, Gk_append]
        | some o =>
          have ho : o.least < 2 ^ i := by
            refine group_all (fun f => f.least < 2 ^ i) (fun f x h1 h2 => ?_) hS _ (lookA_mem hl)
            simp only [join_eq, minN]
            split <;> assumption
          obtain ⟨u, v, e1, e2⟩ := updA_old (v := join o p.2) (group_keys S) (lookA_mem hl)
          rw [putA, hl, e2, e1]
          simp only [List.flatMap_append, List.flatMap_cons, Gk_append, List.flatMap_nil, List.append_nil]
          have hone : ∀ (k' : Lg) (x y : Fd), Gk [(k', join x y)] k = jj (Gk [(k', x)] k) (Gk [(k', y)] k) := by
            intro k' x y
            simp only [Gk_one]
            by_cases h1 : k' = k
            · simp only [h1, if_true, jj, jo]
            · simp only [h1, if_false, jj]
          have jj4 : ∀ a b c d : Option Fd, jj (jj a b) (jj c d) = jj (jj a c) (jj b d) := by
            intro a b c d
            rw [jj_assoc, jj_assoc, ← jj_assoc b, ← jj_assoc c, jj_comm b c]
          have hs : Gk (stepE film b i (p.1, join o p.2)) k = jj (Gk (stepE film b i (p.1, o)) k) (Gk (stepE film b i p) k) := by
            have split2 : ∀ (q : Lg × Fd), Gk (stepE film b i q) k = jj (Gk [q] k) (Gk [(withL film b q.1, withF i q.2)] k) := fun q => Gk_append [q] [(withL film b q.1, withF i q.2)] k
            obtain ⟨pk, pf⟩ := p
            rw [split2, split2, split2, withF_join ho hp, hone, hone, jj4]
          rw [hs]
          rw [jj_assoc _ _ (Gk (stepE film b i p) k), jj_assoc _ _ (Gk (List.flatMap (stepE film b i) v) k), jj_assoc _ (Gk (List.flatMap (stepE film b i) v) k), jj_comm (Gk (stepE film b i p) k)]
  have := key S [] (fun p hp => by cases hp) h rfl
  simpa using this

theorem listS_ok (film : Span) (sp : Nat → Span) : ∀ i, (∀ p ∈ listS film sp i, p.2.least < 2 ^ i ∧ p.2.each < 2 ^ i ∧ p.2.some < 2 ^ i ∧ p.2.many = 1) ∧ sumM (listS film sp i) = 2 ^ i ∧ (listS film sp i).length = 2 ^ i
  | 0 => by
    refine ⟨fun p hp => ?_, rfl, rfl⟩
    simp [listS] at hp; subst hp; simp
  | i + 1 => by
    obtain ⟨h1, h2, h3⟩ := listS_ok film sp i
    have hp2 : 2 ^ i < 2 ^ (i + 1) := Nat.pow_lt_pow_right (by decide) (by omega)
    refine ⟨fun p hp => ?_, ?_, ?_⟩
    · simp only [listS, List.mem_flatMap] at hp
      obtain ⟨q, hq, hp⟩ := hp
      have hb := h1 q hq
      simp only [stepE, List.mem_cons, List.not_mem_nil, or_false] at hp
      rcases hp with rfl | rfl
      · omega
      · refine ⟨?_, ?_, ?_, hb.2.2.2⟩ <;> exact Nat.or_lt_two_pow (by omega) hp2
    · have : ∀ (S : List (Lg × Fd)), sumM (S.flatMap (stepE film (sp i) i)) = 2 * sumM S := by
        intro S
        induction S with
        | nil => rfl
        | cons p r ih =>
          simp only [List.flatMap_cons, sumM, List.map_append, List.sum_append, List.map_cons, List.sum_cons] at ih ⊢
          rw [ih]
          simp [stepE, withF]
          omega
      rw [listS, this, h2, Nat.pow_succ]; omega
    · have : ∀ (S : List (Lg × Fd)), (S.flatMap (stepE film (sp i) i)).length = 2 * S.length := by
        intro S
        induction S with
        | nil => rfl
        | cons p r ih => simp only [List.flatMap_cons, List.length_append, ih, List.length_cons]; simp [stepE]; omega
      rw [listS, this, h3, Nat.pow_succ]; omega
end Go.X.S
end

section
set_option linter.unusedVariables false
set_option linter.unusedSimpArgs false
set_option linter.unusedSectionVars false
/- Stack: all lengths, the walk. -/
set_option linter.unusedVariables false
set_option linter.unusedSimpArgs false
set_option linter.unusedSectionVars false
set_option maxRecDepth 10000
set_option maxHeartbeats 2000000
namespace Go.X.S
open Go Go.Proofs Go.X

def lenM (film : Span) (n : Nat) (sp : Nat → Span) : List (Lg × Fd) := group ((listS film sp n).filter fun p => decide (p.1 ≠ zeroL))
def c57 : Ct := fun fr args H =>
  match args with
  | [.sp sid 0] => (match H sid with
    | some (.cells 97 [.sl id, .si .i64 lo, .si .i64 hi]) => (match sliceOf 2 H id with
      | some (n, get) => some ⟨some (Spans n get ∧ okSet (spanL n get) lo hi), none, .sm fr, [(fr, .mp (encM encL encF (lenM (lo, hi) n (spanAt get))))]⟩
      | none => none)
    | _ => none)
  | _ => none
theorem c57_mono : CtMono c57 := by
  intro fr args H H' out hH h
  unfold c57 at h ⊢
  split at h
  · split at h
    · rename_i e1
      rw [hH _ _ e1]
      split at h
      · rename_i e
        simp only [sliceOf_mono hH e]
        exact h
      · cases h
    · cases h
  · cases h

/-- What the map holds after some blocks. -/
def MapOk (film : Span) (sp : Nat → Span) (i : Nat) (m : List (Lg × Fd)) : Prop := (m.map (·.1)).Nodup ∧ ∀ k, lookA m k = Gk (listS film sp i) k
theorem mapOk_perm {film : Span} {sp : Nat → Span} {i : Nat} {m : List (Lg × Fd)} (h : MapOk film sp i m) : m.Perm (group (listS film sp i)) :=
  perm_of_look h.1 (group_keys _) fun k => by rw [h.2, group_look]
theorem group_fst {S : List (Lg × Fd)} (P : Lg → Prop) (h : ∀ p ∈ S, P p.1) : ∀ p ∈ group S, P p.1 := by
  intro p hp
  have h1 := lookA_of_mem (k := p.1) (v := p.2) (group_keys S) hp
  rw [group_look] at h1
  by_cases hn : (S.filter (fun q => decide (q.1 = p.1))) = []
  · rw [Gk, hn] at h1; cases h1
  · obtain ⟨q, hq⟩ := List.exists_mem_of_ne_nil _ hn
    have := List.mem_filter.1 hq
    have e : q.1 = p.1 := by simpa using this.2
    rw [← e]; exact h q this.1
theorem listS_keys {film : Span} {sp : Nat → Span} {n : Nat} (hf : (0 ≤ film.1 ∧ film.1 ≤ 1000) ∧ (0 ≤ film.2 ∧ film.2 ≤ 1000)) (hb : ∀ i, i < n → (0 ≤ (sp i).1 ∧ (sp i).1 ≤ 1000) ∧ (0 ≤ (sp i).2 ∧ (sp i).2 ≤ 1000)) :
    ∀ i, i ≤ n → ∀ p ∈ listS film sp i, 0 ≤ p.1.lo ∧ p.1.lo ≤ i * 2000 ∧ 0 ≤ p.1.hi ∧ p.1.hi ≤ i * 2000 ∧ 0 ≤ p.1.many ∧ p.1.many ≤ i
  | 0, _, p, hp => by simp [listS] at hp; subst hp; simp [zeroL]
  | i + 1, hi, p, hp => by
    simp only [listS, List.mem_flatMap] at hp
    obtain ⟨q, hq, hp⟩ := hp
    have h1 := listS_keys hf hb i (by omega) q hq
    have h2 := hb i (by omega)
    simp only [stepE, List.mem_cons, List.not_mem_nil, or_false] at hp
    rcases hp with rfl | rfl
    · omega
    · simp only [withL]
      split <;> omega
theorem mapOk_mem {film : Span} {sp : Nat → Span} {n i : Nat} {m : List (Lg × Fd)} (h : MapOk film sp i m) (hi : i ≤ n) (hf : (0 ≤ film.1 ∧ film.1 ≤ 1000) ∧ (0 ≤ film.2 ∧ film.2 ≤ 1000)) (hb : ∀ i, i < n → (0 ≤ (sp i).1 ∧ (sp i).1 ≤ 1000) ∧ (0 ≤ (sp i).2 ∧ (sp i).2 ≤ 1000)) :
    sumM m = 2 ^ i ∧ ∀ p ∈ m, (p.2.least < 2 ^ i ∧ p.2.each < 2 ^ i ∧ p.2.some < 2 ^ i) ∧ 0 ≤ p.1.lo ∧ p.1.lo ≤ i * 2000 ∧ 0 ≤ p.1.hi ∧ p.1.hi ≤ i * 2000 ∧ 0 ≤ p.1.many ∧ p.1.many ≤ i := by
  have hp := mapOk_perm h
  obtain ⟨a1, a2, a3⟩ := listS_ok film sp i
  refine ⟨by rw [sumM_perm hp, sumM_group, a2], fun p hm => ?_⟩
  have hm' := hp.mem_iff.1 hm
  refine ⟨group_all (fun f => f.least < 2 ^ i ∧ f.each < 2 ^ i ∧ f.some < 2 ^ i) (fun f x h1 h2 => ?_) (fun q hq => ⟨(a1 q hq).1, (a1 q hq).2.1, (a1 q hq).2.2.1⟩) p hm', group_fst (fun k => 0 ≤ k.lo ∧ k.lo ≤ i * 2000 ∧ 0 ≤ k.hi ∧ k.hi ≤ i * 2000 ∧ 0 ≤ k.many ∧ k.many ≤ i) (listS_keys hf hb i hi) p hm'⟩
  simp only [join_eq]
  refine ⟨?_, Nat.lt_of_le_of_lt Nat.and_le_left h1.2.1, Nat.or_lt_two_pow h1.2.2 h2.2.2⟩
  unfold minN; split
  · exact h2.1
  · exact h1.1
theorem sumM_step (film b : Span) (i : Nat) (S : List (Lg × Fd)) : sumM (S.flatMap (stepE film b i)) = 2 * sumM S := by
  induction S with
  | nil => rfl
  | cons p r ih =>
    simp only [List.flatMap_cons, sumM, List.map_append, List.sum_append, List.map_cons, List.sum_cons] at ih ⊢
    rw [ih]
    simp [stepE, withF]
    omega
/-- What the next map holds, after some entries. -/
theorem next_ok {film b : Span} {i : Nat} {m vis rest : List (Lg × Fd)} {M : List (Lg × Fd)} {r : List (Lg × Fd)} (hi : i < 8) (hp : m.Perm (vis ++ rest)) (hs : sumM m = 2 ^ i) (hm : ∀ p ∈ m, p.2.least < 2 ^ i ∧ p.2.each < 2 ^ i ∧ p.2.some < 2 ^ i) (hr : ∀ p ∈ r, ∃ q ∈ rest, p = q)
    (hM : group (vis.flatMap (stepE film b i) ++ r) = M) : ∀ p ∈ M, p.2.many ≤ 2 * 2 ^ i + sumM r ∧ p.2.least < 256 ∧ p.2.each < 256 ∧ p.2.some < 256 := by
  subst hM
  have h256 : (2 : Nat) ^ (i + 1) ≤ 2 ^ 8 := Nat.pow_le_pow_right (by decide) (by omega)
  have hp2 : 2 ^ i < 2 ^ (i + 1) := Nat.pow_lt_pow_right (by decide) (by omega)
  have hsv : sumM vis ≤ 2 ^ i := by
    have := sumM_perm hp
    rw [hs] at this
    simp only [sumM, List.map_append, List.sum_append] at this ⊢
    omega
  have e8 : (2 : Nat) ^ 8 = 256 := rfl
  intro p hmem
  refine ⟨?_, ?_⟩
  · have h1 := sumM_mem hmem
    rw [sumM_group] at h1
    have h2 := sumM_step film b i vis
    simp only [sumM, List.map_append, List.sum_append] at h1 h2 ⊢
    simp only [sumM] at hsv
    omega
  · refine group_all (fun f => f.least < 256 ∧ f.each < 256 ∧ f.some < 256) (fun f x h1 h2 => ?_) (fun q hq => ?_) p hmem
    · simp only [join_eq]
      refine ⟨?_, Nat.lt_of_le_of_lt Nat.and_le_left h1.2.1, Nat.or_lt_two_pow (n := 8) h1.2.2 h2.2.2⟩
      unfold minN; split
      · exact h2.1
      · exact h1.1
    · rcases List.mem_append.1 hq with hq | hq
      · simp only [List.mem_flatMap] at hq
        obtain ⟨u, hu, hq⟩ := hq
        have hb := hm u (hp.mem_iff.2 (List.mem_append_left _ hu))
        simp only [stepE, List.mem_cons, List.not_mem_nil, or_false] at hq
        rcases hq with rfl | rfl
        · omega
        · have o1 : ∀ x, x < 2 ^ i → x ||| 2 ^ i < 256 := fun x hx => by
            have := Nat.or_lt_two_pow (n := i + 1) (x := x) (y := 2 ^ i) (by omega) hp2
            omega
          exact ⟨o1 _ hb.1, o1 _ hb.2.1, o1 _ hb.2.2⟩
      · obtain ⟨q', hq', rfl⟩ := hr q hq
        have hb := hm q (hp.mem_iff.2 (List.mem_append_right _ hq'))
        omega
theorem putA_some {m : List (Lg × Fd)} {k : Lg} {o f : Fd} (h : lookA m k = some o) : putA m k f = updA m k (join o f) := by simp only [putA, h]
theorem putA_none {m : List (Lg × Fd)} {k : Lg} {f : Fd} (h : lookA m k = none) : putA m k f = updA m k f := by simp only [putA, h]
theorem next_look {film : Span} {sp : Nat → Span} {i : Nat} {m V : List (Lg × Fd)} (hv : V.Perm m) (hm : MapOk film sp i m) (k : Lg) : lookA (group (V.flatMap (stepE film (sp i) i))) k = Gk (listS film sp (i + 1)) k := by
  rw [group_look, listS, ← step_group film (sp i) i (listS film sp i) (fun p hp => ((listS_ok film sp i).1 p hp).1)]
  exact Gk_perm ((hv.trans (mapOk_perm hm)).flatMap_right _) k
theorem lookA_delA {m : List (Lg × Fd)} (hn : (m.map (·.1)).Nodup) (k k' : Lg) : lookA (delA m k) k' = if k' = k then none else lookA m k' := by
  induction m with
  | nil => simp [delA, lookA]
  | cons p r ih =>
    simp only [List.map_cons, List.nodup_cons] at hn
    simp only [delA]
    split
    · rename_i e; subst e
      split
      · rename_i e2; subst e2; exact lookA_none.2 hn.1
      · rename_i e2; simp only [lookA]; rw [if_neg (fun e => e2 e.symm)]
    · rename_i e
      simp only [lookA, ih hn.2]
      by_cases h : p.1 = k'
      · subst h; simp [e]
      · simp [h]
theorem Gk_filter (S : List (Lg × Fd)) (z k : Lg) : Gk (S.filter fun p => decide (p.1 ≠ z)) k = if k = z then none else Gk S k := by
  simp only [Gk, List.filter_filter]
  split
  · rename_i e; subst e
    have : S.filter (fun a => decide (a.1 = k) && decide (a.1 ≠ k)) = [] := by
      rw [List.filter_eq_nil_iff]; intro a _; simp
    rw [this]; rfl
  · rename_i e
    congr 2
    apply List.filter_congr
    intro a _
    by_cases h : a.1 = k
    · simp [h, e]
    · simp [h]
theorem del_perm {film : Span} {sp : Nat → Span} {n : Nat} {m : List (Lg × Fd)} (hm : MapOk film sp n m) : (encM encL encF (delA m zeroL)).Perm (encM encL encF (lenM film n sp)) := by
  refine List.Perm.map _ (perm_of_look ?_ (group_keys _) fun k => ?_)
  · have : ∀ (m : List (Lg × Fd)), ((delA m zeroL).map (·.1)).Sublist (m.map (·.1)) := by
      intro m
      induction m with
      | nil => exact .slnil
      | cons p r ih =>
        simp only [delA]
        split
        · exact List.sublist_cons_self _ _
        · exact ih.cons_cons _
    exact (this m).nodup hm.1
  · rw [lookA_delA hm.1, hm.2, lenM, group_look, Gk_filter]
theorem hT0 : ∀ G r nt (l : List (Nat × Ct)), Good P T l → (⟨P, T, tabC l, G, r, nt⟩ : Cx).Ok := fun G r nt l g => g.ok G r nt

theorem b71 : Body P 71 := body_of Try.func71 (c := code Try.f71) rfl (by decide)
theorem k57 : COk P 57 c57 := by
  have g := g63 (g72 (g66 good0))
  refine cok (C := tabC _) g.ok Try.func57 (c := code Try.f57) rfl fun fr args H out h hp => ?_
  unfold c57 at h
  split at h
  · rename_i sid
    split at h
    · rename_i id lo hi e1
      split at h
      · rename_i n get e
        cases h
        obtain ⟨hs, hok⟩ : Spans n get ∧ okSet (spanL n get) lo hi := hp
        have hh := setHand e1 e hs
        refine ⟨setP sid id n lo hi (spanAt get), [.sp 0 0], setH n lo hi (spanAt get), 2, [2], rfl, rfl, Nat.le_of_ble_eq_true rfl, hh, rfl, rfl, fun G hG => ?_⟩
        have hb : ∀ i, i < n → okP (spanAt get i).1 ∧ okP (spanAt get i).2 := fun i hi => hok.2.2.2 _ (List.mem_map.2 ⟨i, List.mem_range.2 hi, rfl⟩)
        have hn : n ≤ 8 := by have := hok.1; simpa [spanL] using this
        have hlo := hok.2.1
        have hhi := hok.2.2.1
        clear hok hh hs e e1
        generalize spanAt get = sp at hb ⊢
        unfold okP at hb hlo hhi
        refine fb_makeMap (g.ok _ _ _) cont_std rfl rfl rfl rfl rfl ?_
        refine fb_update encL encF [] zeroL ⟨1, 0, 0, 0⟩ [(zeroL, ⟨1, 0, 0, 0⟩)] rfl 2 (g.ok _ _ _) cont_std rfl (.inr rfl) rfl rfl rfl rfl encL_key encF_cl rfl rfl rfl rfl ?_
        intro _
        refine loop_okR (g.ok _ _ _) 2 (fun x : {p : Nat × List (Lg × Fd) // p.1 ≤ n ∧ MapOk (lo, hi) sp p.1 p.2} => ⟨[(0, ⟨[], .sp 0 0⟩), (3, ⟨[], .sm 2⟩), (4, ⟨[], .fn (.func 71) [] []⟩), (17, ⟨[], .sl 1⟩), (18, ⟨[], .si .i64 n⟩), (19, ⟨[], .si .i64 x.1.1⟩)], [],
          (2, .mp (encM encL encF x.1.2)) :: setH n lo hi sp, 3, []⟩) (fun x => n - x.1.1) hG ⟨(0, [(zeroL, ⟨1, 0, 0, 0⟩)]), Nat.zero_le _, ⟨by simp, fun k => by rw [listS, Gk_one]; rfl⟩⟩ (fun j => j) ?_ ?_
        · refine ⟨?_, ?_, rfl, rfl, rfl, rfl, trivial⟩
          · repeat' (first | exact trivial | exact rfl | refine And.intro ?_ ?_)
          · exact ⟨⟨List.Perm.refl _, rfl⟩, ⟨⟨rfl, ⟨rfl, ⟨rfl, rfl⟩, ⟨rfl, rfl⟩, trivial⟩, rfl⟩, rfl⟩, ⟨⟨rfl, rfl, fun i hi => ⟨rfl, rfl⟩⟩, rfl⟩, trivial⟩
        · rintro ⟨⟨i, m⟩, hin, hm⟩
          refine Br.mk (fun h => ?_) (fun h => ?_)
          · have h : (i : Int) < (n : Int) := of_decide_eq_true h
            refine Chk.mk (show (0 : Int) ≤ (i : Int) ∧ (i : Int) < (n : Int) from ⟨by omega, h⟩) ?_
            refine fb_makeMap (g.ok _ _ _) cont_std rfl rfl rfl rfl rfl ?_
            refine fb_range encL encF m 2 (g.ok _ _ _) cont_std rfl rfl rfl rfl rfl rfl rfl encL_key encF_cl rfl rfl ?_
            intro hnd ts clock hts
            refine loop_ok (g.ok _ _ _) (fun x : {p : List ((Lg × Fd) × Nat) × List ((Lg × Fd) × Nat) // ts.Perm (p.1 ++ p.2)} => ⟨[(0, ⟨[], .sp 0 0⟩), (3, ⟨[], .sm 2⟩), (4, ⟨[], .fn (.func 71) [] []⟩), (5, ⟨[], .si .i64 i⟩), (6, ⟨[], .sp 3 0⟩), (7, ⟨[], .sm 4⟩), (17, ⟨[], .sl 1⟩), (18, ⟨[], .si .i64 n⟩), (19, ⟨[], .si .i64 i⟩), (26, ⟨[], .sp 5 0⟩)], [],
              (5, .it 2 clock (x.1.1.map (·.2)) clock) :: (2, .map (encS encL encF ts) clock) :: (4, .mp (encM encL encF (group ((x.1.1.map (·.1)).flatMap (stepE (lo, hi) (sp i) i))))) :: (3, .cells 24 (spanC (sp i))) :: setH n lo hi sp, 6, []⟩)
              (fun x => x.1.2.length) (fun _ j hj => hG j (by have : 6 ≤ j := hj; omega)) ⟨([], ts), by simp⟩ ?_ ?_
            · refine ⟨?_, ?_, rfl, rfl, rfl⟩
              · repeat' (first | exact trivial | exact rfl | refine And.intro ?_ ?_)
              · refine ⟨⟨rfl, ?_, rfl⟩, ⟨rfl, trivial, rfl⟩, ⟨rfl, trivial, rfl⟩, ⟨⟨rfl, ⟨rfl, rfl⟩, ⟨rfl, rfl⟩, trivial⟩, rfl, rfl⟩, ⟨⟨rfl, rfl, ⟨rfl, rfl⟩, ⟨rfl, rfl⟩, trivial⟩, rfl, rfl⟩, ⟨rfl, fun i hi => rfl, rfl⟩, trivial⟩
                show (2 : Nat) < 6
                decide
            · rintro ⟨⟨vis, rest⟩, hp⟩
              refine fb_next encL encF 2 5 clock ts vis rest (g.ok _ _ _) cont_std rfl rfl rfl rfl rfl encL_key encF_cl rfl rfl rfl hp ⟨fun hr => ?_, ?_⟩
              · subst hr
                have hmb := mapOk_mem hm hin ⟨hlo, hhi⟩ (fun i hi => ⟨(hb i hi).1, (hb i hi).2⟩)
                have hpm : (vis.map (·.1)).Perm m := by
                  have := hts.symm.trans (hp.map _)
                  simpa using this.symm
                refine Br.mk (fun h => by cases h) (fun _ => ?_)
                refine Chk.mk (show (-9223372036854775808 : Int) ≤ (i : Int) + 1 ∧ (i : Int) + 1 ≤ 9223372036854775807 by omega) ⟨⟨(i + 1, group ((vis.map (·.1)).flatMap (stepE (lo, hi) (sp i) i))), (by show i + 1 ≤ n; omega), group_keys _, fun k => next_look hpm hm k⟩, (fun j => match j with | 2 => 4 | k => k), ?_, ?_⟩
                · refine ⟨?_, ?_, rfl, rfl, rfl, rfl, trivial⟩
                  · repeat' (first | exact trivial | exact rfl | refine And.intro ?_ ?_)
                  · exact ⟨⟨List.Perm.refl _, rfl⟩, ⟨⟨rfl, ⟨rfl, ⟨rfl, rfl⟩, ⟨rfl, rfl⟩, trivial⟩, rfl⟩, rfl⟩, ⟨⟨rfl, rfl, fun i hi => ⟨rfl, rfl⟩⟩, rfl⟩, trivial⟩
                · show n - (i + 1) < n - i
                  omega
              · rintro ⟨⟨⟨ka, kb, kc⟩, ⟨fm, fl, fe, fs⟩⟩, b⟩ rest' hrest
                refine Br.mk (fun _ => ?_) (fun h => by cases h)
                refine fb_entry encL encF 2 5 clock ts vis ⟨⟨⟨ka, kb, kc⟩, ⟨fm, fl, fe, fs⟩⟩, b⟩ (g.ok _ _ _) cont_std rfl rfl rfl rfl rfl encL_key encF_cl rfl rfl rfl ?_ ?_
                · refine hp.mem_iff.2 (List.mem_append_right _ (hrest.mem_iff.2 List.mem_cons_self))
                · have hmb := mapOk_mem hm hin ⟨hlo, hhi⟩ (fun i hi => ⟨(hb i hi).1, (hb i hi).2⟩)
                  have hpm : m.Perm (vis.map (·.1) ++ rest.map (·.1)) := by rw [← List.map_append]; exact hts.symm.trans (hp.map _)
                  have hpr : (rest.map (·.1)).Perm ((⟨ka, kb, kc⟩, ⟨fm, fl, fe, fs⟩) :: rest'.map (·.1)) := hrest.map _
                  have hi8 : i < 8 := by omega
                  have hin1 : ((⟨ka, kb, kc⟩, ⟨fm, fl, fe, fs⟩) : Lg × Fd) ∈ rest.map (·.1) := hpr.mem_iff.2 List.mem_cons_self
                  have hin2 : ((⟨ka, kb, kc⟩, ⟨fm, fl, fe, fs⟩) : Lg × Fd) ∈ m := hpm.mem_iff.2 (List.mem_append_right _ hin1)
                  have hkf := hmb.2 _ hin2
                  have hfm := sumM_mem hin2
                  rw [hmb.1] at hfm
                  simp only at hkf hfm
                  have hpw : 2 ^ i ≤ 128 := (show 2 ^ i ≤ 2 ^ 7 from Nat.pow_le_pow_right (by decide) (by omega))
                  have hM1 := next_ok (film := (lo, hi)) (b := sp i) (r := []) hi8 hpm hmb.1 (fun p hp => (hmb.2 p hp).1) (fun p hp => by cases hp) rfl
                  have hM2 := next_ok (film := (lo, hi)) (b := sp i) (r := [(⟨ka, kb, kc⟩, ⟨fm, fl, fe, fs⟩)]) hi8 hpm hmb.1 (fun p hp => (hmb.2 p hp).1) (fun p hp => ⟨_, hin1, by simpa using hp⟩) rfl
                  rw [group_snoc] at hM2
                  rw [List.append_nil] at hM1
                  simp only [sumM, List.map_nil, List.sum_nil, List.map_cons, List.sum_cons] at hM1 hM2
                  generalize hM : group ((vis.map (·.1)).flatMap (stepE (lo, hi) (sp i) i)) = M at hM1 hM2 ⊢
                  refine fb_call (g.ok _ _ _) cont_std rfl rfl rfl rfl ?_
                  refine ⟨b71, callS_to g.ok Try.func71 (c := code Try.f71) rfl (Nat.le_of_ble_eq_true rfl) (.tup []) ((4, .mp (encM encL encF (putA M ⟨ka, kb, kc⟩ ⟨fm, fl, fe, fs⟩))) :: (7, .cells 81 (encFL ⟨fm, fl, fe, fs⟩)) :: (6, .cells 62 [.si .i64 ka, .si .i64 kb, .si .i64 kc]) :: (5, .it 2 clock (List.map (fun x : (Lg × Fd) × Nat => x.2) (vis ++ [((⟨ka, kb, kc⟩, ⟨fm, fl, fe, fs⟩), b)])) clock) :: (2, .map (encS encL encF ts) clock) :: (3, .cells 24 (spanC (sp i))) :: setH n lo hi sp) 8 (fun G1 hG1 => ?_) ?_⟩
                  · refine fb_lookup encL encF M ⟨ka, kb, kc⟩ 4 (g.ok _ _ _) cont_std rfl rfl rfl rfl rfl rfl rfl rfl rfl encL_key encF_cl rfl rfl rfl ?_
                    intro hMn
                    refine ⟨?_, fun ho => ?_⟩
                    · rintro ⟨om, ol, oe, os⟩ ho
                      have hbo := hM1 _ (lookA_mem ho)
                      refine Br.mk (fun _ => ?_) (fun h => by cases h)
                      refine Chk.mk ⟨?_, by decide, ?_⟩ ?_
                      · intro q hq
                        rcases (show q = 0 ∨ q = 1 by omega) with rfl | rfl <;> rfl
                      · intro q hq
                        rcases (show q = 0 ∨ q = 1 by omega) with rfl | rfl
                        · show om ≤ 1000000 ∧ ol < 256 ∧ oe < 256 ∧ os < 256
                          simp only at hbo; omega
                        · show fm ≤ 1000000 ∧ fl < 256 ∧ fe < 256 ∧ fs < 256
                          omega
                      refine fb_update encL encF M ⟨ka, kb, kc⟩ (join ⟨om, ol, oe, os⟩ ⟨fm, fl, fe, fs⟩) (putA M ⟨ka, kb, kc⟩ ⟨fm, fl, fe, fs⟩) (putA_some ho) 4 (g.ok _ _ _) cont_std rfl (.inl rfl) rfl rfl rfl rfl encL_key encF_cl rfl rfl rfl rfl ?_
                      intro _
                      exact ⟨fun j => j, ⟨⟨⟨List.Perm.refl _, rfl⟩, ⟨⟨rfl, ⟨⟨rfl, rfl⟩, ⟨rfl, rfl⟩, ⟨rfl, rfl⟩, ⟨rfl, rfl⟩, trivial⟩, rfl⟩, rfl⟩, ⟨⟨rfl, ⟨⟨rfl, rfl⟩, ⟨rfl, rfl⟩, ⟨rfl, rfl⟩, trivial⟩, rfl⟩, rfl⟩, ⟨⟨rfl, rfl, rfl, rfl, rfl⟩, rfl⟩, ⟨⟨rfl, rfl⟩, rfl⟩, ⟨⟨rfl, ⟨⟨rfl, rfl⟩, ⟨rfl, rfl⟩, trivial⟩, rfl⟩, rfl⟩, ⟨⟨rfl, ⟨rfl, ⟨rfl, rfl⟩, ⟨rfl, rfl⟩, trivial⟩, rfl⟩, rfl⟩, ⟨⟨rfl, rfl, fun i hi => ⟨rfl, rfl⟩⟩, rfl⟩, trivial⟩, trivial, rfl, rfl, rfl, rfl⟩⟩
                    · refine Br.mk (fun h => by cases h) (fun _ => ?_)
                      refine fb_update encL encF M ⟨ka, kb, kc⟩ ⟨fm, fl, fe, fs⟩ (putA M ⟨ka, kb, kc⟩ ⟨fm, fl, fe, fs⟩) (putA_none ho) 4 (g.ok _ _ _) cont_std rfl (.inl rfl) rfl rfl rfl rfl encL_key encF_cl rfl rfl rfl rfl ?_
                      intro _
                      exact ⟨fun j => j, ⟨⟨⟨List.Perm.refl _, rfl⟩, ⟨⟨rfl, ⟨⟨rfl, rfl⟩, ⟨rfl, rfl⟩, ⟨rfl, rfl⟩, ⟨rfl, rfl⟩, trivial⟩, rfl⟩, rfl⟩, ⟨⟨rfl, ⟨⟨rfl, rfl⟩, ⟨rfl, rfl⟩, ⟨rfl, rfl⟩, trivial⟩, rfl⟩, rfl⟩, ⟨⟨rfl, rfl, rfl, rfl, rfl⟩, rfl⟩, ⟨⟨rfl, rfl⟩, rfl⟩, ⟨⟨rfl, ⟨⟨rfl, rfl⟩, ⟨rfl, rfl⟩, trivial⟩, rfl⟩, rfl⟩, ⟨⟨rfl, ⟨rfl, ⟨rfl, rfl⟩, ⟨rfl, rfl⟩, trivial⟩, rfl⟩, rfl⟩, ⟨⟨rfl, rfl, fun i hi => ⟨rfl, rfl⟩⟩, rfl⟩, trivial⟩, trivial, rfl, rfl, rfl, rfl⟩⟩
                  have hsp := hb i (by omega)
                  have hor : ∀ x, x < 2 ^ i → x ||| 2 ^ i < 256 := fun x hx => by
                    have h1 : 2 ^ i < 2 ^ (i + 1) := Nat.pow_lt_pow_right (by decide) (by omega)
                    have h2 : (2 : Nat) ^ (i + 1) ≤ 2 ^ 8 := Nat.pow_le_pow_right (by decide) (by omega)
                    have := Nat.or_lt_two_pow (n := i + 1) (x := x) (y := 2 ^ i) (by omega) h1
                    omega
                  refine drawn_ok (g.ok _ _ _) fol [0,0,0,0,0,16,48,112,252,0,512,0,2048,0,14844,0,32768,0,260604,0,524288,0,4192764,8388604,16777215] [] 24 (by kernel_rfl) ?_
                  refine Chk.mk (show okB ka ∧ okB kb ∧ okB kc ∧ okB (sp i).1 ∧ okB (sp i).2 ∧ okB lo ∧ okB hi from ?_) ?_
                  · unfold okB; omega
                  refine Chk.mk (show (0 : Int) ≤ (fl : Int) ∧ (fl : Int) ≤ 1000000 ∧ (0 : Int) ≤ (i : Int) ∧ (i : Int) ≤ 40 by omega) ?_
                  refine Chk.mk (show (0 : Int) ≤ (fe : Int) ∧ (fe : Int) ≤ 1000000 ∧ (0 : Int) ≤ (i : Int) ∧ (i : Int) ≤ 40 by omega) ?_
                  refine Chk.mk (show (0 : Int) ≤ (fs : Int) ∧ (fs : Int) ≤ 1000000 ∧ (0 : Int) ≤ (i : Int) ∧ (i : Int) ≤ 40 by omega) ?_
                  refine fb_call (g.ok _ _ _) cont_std rfl rfl rfl rfl ?_
                  refine ⟨b71, callS_to g.ok Try.func71 (c := code Try.f71) rfl (Nat.le_of_ble_eq_true rfl) (.tup []) ((4, .mp (encM encL encF (putA (putA M ⟨ka, kb, kc⟩ ⟨fm, fl, fe, fs⟩) (withL (lo, hi) (sp i) ⟨ka, kb, kc⟩) (withF i ⟨fm, fl, fe, fs⟩)))) :: (7, .cells 81 (encFL ⟨fm, fl, fe, fs⟩)) :: (6, .cells 62 [.si .i64 ka, .si .i64 kb, .si .i64 kc]) :: (5, .it 2 clock (List.map (fun x : (Lg × Fd) × Nat => x.2) (vis ++ [((⟨ka, kb, kc⟩, ⟨fm, fl, fe, fs⟩), b)])) clock) :: (2, .map (encS encL encF ts) clock) :: (3, .cells 24 (spanC (sp i))) :: setH n lo hi sp) 104 (fun G1 hG1 => ?_) ?_⟩
                  · refine fb_lookup encL encF (putA M ⟨ka, kb, kc⟩ ⟨fm, fl, fe, fs⟩) (withL (lo, hi) (sp i) ⟨ka, kb, kc⟩) 4 (g.ok _ _ _) cont_std rfl rfl rfl rfl rfl rfl rfl rfl rfl encL_key encF_cl rfl rfl rfl ?_
                    intro hMn
                    refine ⟨?_, fun ho => ?_⟩
                    · rintro ⟨om, ol, oe, os⟩ ho
                      have hbo := hM2 _ (lookA_mem ho)
                      refine Br.mk (fun _ => ?_) (fun h => by cases h)
                      refine Chk.mk ⟨?_, by decide, ?_⟩ ?_
                      · intro q hq
                        rcases (show q = 0 ∨ q = 1 by omega) with rfl | rfl <;> rfl
                      · intro q hq
                        rcases (show q = 0 ∨ q = 1 by omega) with rfl | rfl
                        · show om ≤ 1000000 ∧ ol < 256 ∧ oe < 256 ∧ os < 256
                          simp only at hbo; omega
                        · show fm ≤ 1000000 ∧ (fl ||| 2 ^ i) < 256 ∧ (fe ||| 2 ^ i) < 256 ∧ (fs ||| 2 ^ i) < 256
                          exact ⟨by omega, hor _ hkf.1.1, hor _ hkf.1.2.1, hor _ hkf.1.2.2⟩
                      refine fb_update encL encF (putA M ⟨ka, kb, kc⟩ ⟨fm, fl, fe, fs⟩) (withL (lo, hi) (sp i) ⟨ka, kb, kc⟩) (join ⟨om, ol, oe, os⟩ (withF i ⟨fm, fl, fe, fs⟩)) (putA (putA M ⟨ka, kb, kc⟩ ⟨fm, fl, fe, fs⟩) (withL (lo, hi) (sp i) ⟨ka, kb, kc⟩) (withF i ⟨fm, fl, fe, fs⟩)) (putA_some ho) 4 (g.ok _ _ _) cont_std rfl (.inl rfl) rfl rfl rfl rfl encL_key encF_cl rfl rfl rfl rfl ?_
                      intro _
                      exact ⟨fun j => j, ⟨⟨⟨List.Perm.refl _, rfl⟩, ⟨⟨rfl, ⟨⟨rfl, rfl⟩, ⟨rfl, rfl⟩, ⟨rfl, rfl⟩, ⟨rfl, rfl⟩, trivial⟩, rfl⟩, rfl⟩, ⟨⟨rfl, ⟨⟨rfl, rfl⟩, ⟨rfl, rfl⟩, ⟨rfl, rfl⟩, trivial⟩, rfl⟩, rfl⟩, ⟨⟨rfl, rfl, rfl, rfl, rfl⟩, rfl⟩, ⟨⟨rfl, rfl⟩, rfl⟩, ⟨⟨rfl, ⟨⟨rfl, rfl⟩, ⟨rfl, rfl⟩, trivial⟩, rfl⟩, rfl⟩, ⟨⟨rfl, ⟨rfl, ⟨rfl, rfl⟩, ⟨rfl, rfl⟩, trivial⟩, rfl⟩, rfl⟩, ⟨⟨rfl, rfl, fun i hi => ⟨rfl, rfl⟩⟩, rfl⟩, trivial⟩, trivial, rfl, rfl, rfl, rfl⟩⟩
                    · refine Br.mk (fun h => by cases h) (fun _ => ?_)
                      refine fb_update encL encF (putA M ⟨ka, kb, kc⟩ ⟨fm, fl, fe, fs⟩) (withL (lo, hi) (sp i) ⟨ka, kb, kc⟩) (withF i ⟨fm, fl, fe, fs⟩) (putA (putA M ⟨ka, kb, kc⟩ ⟨fm, fl, fe, fs⟩) (withL (lo, hi) (sp i) ⟨ka, kb, kc⟩) (withF i ⟨fm, fl, fe, fs⟩)) (putA_none ho) 4 (g.ok _ _ _) cont_std rfl (.inl rfl) rfl rfl rfl rfl encL_key encF_cl rfl rfl rfl rfl ?_
                      intro _
                      exact ⟨fun j => j, ⟨⟨⟨List.Perm.refl _, rfl⟩, ⟨⟨rfl, ⟨⟨rfl, rfl⟩, ⟨rfl, rfl⟩, ⟨rfl, rfl⟩, ⟨rfl, rfl⟩, trivial⟩, rfl⟩, rfl⟩, ⟨⟨rfl, ⟨⟨rfl, rfl⟩, ⟨rfl, rfl⟩, ⟨rfl, rfl⟩, trivial⟩, rfl⟩, rfl⟩, ⟨⟨rfl, rfl, rfl, rfl, rfl⟩, rfl⟩, ⟨⟨rfl, rfl⟩, rfl⟩, ⟨⟨rfl, ⟨⟨rfl, rfl⟩, ⟨rfl, rfl⟩, trivial⟩, rfl⟩, rfl⟩, ⟨⟨rfl, ⟨rfl, ⟨rfl, rfl⟩, ⟨rfl, rfl⟩, trivial⟩, rfl⟩, rfl⟩, ⟨⟨rfl, rfl, fun i hi => ⟨rfl, rfl⟩⟩, rfl⟩, trivial⟩, trivial, rfl, rfl, rfl, rfl⟩⟩
                  refine ⟨⟨(vis ++ [((⟨ka, kb, kc⟩, ⟨fm, fl, fe, fs⟩), b)], rest'), ?_⟩, ?_, ?_⟩
                  · rw [List.append_assoc]
                    exact hp.trans (List.Perm.append_left _ hrest)
                  · refine ⟨?_, ?_, rfl, rfl, rfl⟩
                    · repeat' (first | exact trivial | exact rfl | refine And.intro ?_ ?_)
                    · refine ⟨⟨rfl, ?_, rfl⟩, ⟨rfl, trivial, rfl⟩, ⟨?_, trivial, rfl⟩, ⟨⟨rfl, ⟨rfl, rfl⟩, ⟨rfl, rfl⟩, trivial⟩, rfl, rfl⟩, ⟨⟨rfl, rfl, ⟨rfl, rfl⟩, ⟨rfl, rfl⟩, trivial⟩, rfl, rfl⟩, ⟨rfl, fun i hi => rfl, rfl⟩, trivial⟩
                      · show (2 : Nat) < 6
                        decide
                      · show HB.mp (encM encL encF (putA (putA M ⟨ka, kb, kc⟩ ⟨fm, fl, fe, fs⟩) (withL (lo, hi) (sp i) ⟨ka, kb, kc⟩) (withF i ⟨fm, fl, fe, fs⟩))) = HB.mp (encM encL encF (group ((List.map (fun x : (Lg × Fd) × Nat => x.1) (vis ++ [((⟨ka, kb, kc⟩, ⟨fm, fl, fe, fs⟩), b)])).flatMap (stepE (lo, hi) (sp i) i))))
                        rw [List.map_append, List.flatMap_append]
                        have e1 : ∀ (A : List (Lg × Fd)), group (A ++ (stepE (lo, hi) (sp i) i ((⟨ka, kb, kc⟩, ⟨fm, fl, fe, fs⟩) : Lg × Fd))) = putA (putA (group A) ⟨ka, kb, kc⟩ ⟨fm, fl, fe, fs⟩) (withL (lo, hi) (sp i) ⟨ka, kb, kc⟩) (withF i ⟨fm, fl, fe, fs⟩) := fun A => by
                          rw [show A ++ (stepE (lo, hi) (sp i) i ((⟨ka, kb, kc⟩, ⟨fm, fl, fe, fs⟩) : Lg × Fd)) = (A ++ [(⟨ka, kb, kc⟩, ⟨fm, fl, fe, fs⟩)]) ++ [(withL (lo, hi) (sp i) ⟨ka, kb, kc⟩, withF i ⟨fm, fl, fe, fs⟩)] by simp [stepE]]
                          rw [group_snoc, group_snoc]
                        have e2 := e1 ((vis.map (·.1)).flatMap (stepE (lo, hi) (sp i) i))
                        rw [hM] at e2
                        rw [← e2]
                        simp
                  · show rest'.length < rest.length
                    rw [hrest.length_eq]; simp
          · have h : ¬ (i : Int) < (n : Int) := of_decide_eq_false h
            have hin' : i = n := by omega
            subst hin'
            refine fb_delete encL encF m zeroL 2 (g.ok _ _ _) cont_std rfl rfl rfl rfl rfl rfl rfl rfl rfl encL_key encF_cl rfl rfl rfl ?_
            intro _
            exact ⟨.inl rfl, ⟨rfl, rfl, ⟨rfl, del_perm hm, trivial⟩, ⟨⟨rfl, rfl, ⟨rfl, rfl⟩, ⟨rfl, rfl⟩, trivial⟩, trivial, trivial⟩, rfl, rfl⟩⟩
      · cases h
    · cases h
  · cases h
theorem g57 {l : List (Nat × Ct)} (g : Good P T l) : Good P T ((57, c57) :: l) := g.add k57 c57_mono (body_of Try.func57 (c := code Try.f57) rfl (by decide))

end Go.X.S
end

section
set_option linter.unusedVariables false
set_option linter.unusedSimpArgs false
set_option linter.unusedSectionVars false
/- Stack: all of which something is so. -/
set_option linter.unusedVariables false
set_option linter.unusedSimpArgs false
set_option linter.unusedSectionVars false
set_option maxRecDepth 10000
set_option maxHeartbeats 2000000
namespace Go.X.S
open Go Go.Proofs Go.X

def isP (t : Nat) (w : Span) (k : Lg) : Bool := if t = 73 then meetsB w (k.lo, k.hi, k.many) else insideB w (k.lo, k.hi, k.many)
def allL (film : Span) (n : Nat) (sp : Nat → Span) (p : Lg → Bool) : List Fd := ((lenM film n sp).filter fun e => p e.1).map (·.2)
def zeroF : Fd := ⟨0, 0, 0, 0⟩
def c50 : Ct := fun fr args H =>
  match args with
  | [.sp sid 0, .ifc t (.agg [.si .i64 a, .si .i64 b])] => (match H sid with
    | some (.cells 97 [.sl id, .si .i64 lo, .si .i64 hi]) => (match sliceOf 2 H id with
      | some (n, get) => some ⟨some ((t = 73 ∨ t = 74) ∧ Spans n get ∧ okSet (spanL n get) lo hi), none,
          .tup [encF ((J (allL (lo, hi) n (spanAt get) (isP t (a, b)))).getD zeroF), .sb (decide (0 < (allL (lo, hi) n (spanAt get) (isP t (a, b))).length))], []⟩
      | none => none)
    | _ => none)
  | _ => none
theorem c50_mono : CtMono c50 := by
  intro fr args H H' out hH h
  unfold c50 at h ⊢
  split at h
  · split at h
    · rename_i e1
      rw [hH _ _ e1]
      split at h
      · rename_i e
        simp only [sliceOf_mono hH e]
        exact h
      · cases h
    · cases h
  · cases h

/-- What is found of those that were gone through. -/
def selL (p : Lg → Bool) (vis : List ((Lg × Fd) × Nat)) : List Fd := ((vis.map (·.1)).filter fun e => p e.1).map (·.2)
theorem putA_len (m : List (Lg × Fd)) (k : Lg) (f : Fd) : (putA m k f).length ≤ m.length + 1 := by
  have upd : ∀ (m : List (Lg × Fd)) k v, (updA m k v).length ≤ m.length + 1 := by
    intro m k v
    induction m with
    | nil => simp [updA]
    | cons q r ih =>
      simp only [updA]
      split
      · simp
      · simp only [List.length_cons]; omega
  exact upd _ _ _
theorem group_len (S : List (Lg × Fd)) : (group S).length ≤ S.length := by
  have key : ∀ (S m : List (Lg × Fd)), (S.foldl (fun m p => putA m p.1 p.2) m).length ≤ m.length + S.length := by
    intro S
    induction S with
    | nil => intro m; exact Nat.le_refl _
    | cons p r ih =>
      intro m
      have := putA_len m p.1 p.2
      have h2 := ih (putA m p.1 p.2)
      simp only [List.foldl_cons, List.length_cons] at h2 ⊢
      omega
  have := key S []
  simp only [List.length_nil, Nat.zero_add] at this
  exact this
theorem pow_le8 {n : Nat} (h : n ≤ 8) : 2 ^ n ≤ 256 := Nat.le_trans (Nat.pow_le_pow_right (by decide) h) (by decide)
theorem lenM_len {film : Span} {n : Nat} {sp : Nat → Span} (h : n ≤ 8) : (lenM film n sp).length ≤ 256 :=
  Nat.le_trans (group_len _) (Nat.le_trans (List.length_filter_le _ _) ((listS_ok film sp n).2.2 ▸ pow_le8 h))
theorem lenM_okF {film : Span} {n : Nat} {sp : Nat → Span} (h : n ≤ 8) : ∀ p ∈ lenM film n sp, okF p.2 := by
  intro p hp
  have h1 := group_all (fun f => f.least < 256 ∧ f.each < 256 ∧ f.some < 256) (fun f x hf hx => by
    refine ⟨?_, Nat.lt_of_le_of_lt Nat.and_le_left hf.2.1, Nat.or_lt_two_pow (n := 8) hf.2.2 hx.2.2⟩
    simp only [join]
    split
    · exact hx.1
    · exact hf.1) (S := (listS film sp n).filter fun p => decide (p.1 ≠ zeroL)) (fun q hq => by
      have := (listS_ok film sp n).1 q (List.mem_filter.1 hq).1
      have h8 := pow_le8 h
      omega) p hp
  have h2 : p.2.many ≤ sumM (lenM film n sp) := sumM_mem hp
  rw [lenM, sumM_group] at h2
  have h3 : sumM ((listS film sp n).filter fun p => decide (p.1 ≠ zeroL)) ≤ sumM (listS film sp n) := by
    generalize listS film sp n = S
    induction S with
    | nil => exact Nat.le_refl _
    | cons q r ih =>
      rw [List.filter_cons]
      split <;> simp only [sumM, List.map_cons, List.sum_cons] at ih ⊢ <;> omega
  rw [(listS_ok film sp n).2.1] at h3
  have h8 := pow_le8 h
  exact ⟨by omega, h1⟩
theorem selL_len (p : Lg → Bool) (vis : List ((Lg × Fd) × Nat)) : (selL p vis).length ≤ vis.length := by
  simp only [selL, List.length_map]
  exact Nat.le_trans (List.length_filter_le _ _) (by simp)
theorem selL_mem {p : Lg → Bool} {vis : List ((Lg × Fd) × Nat)} {x : Fd} (h : x ∈ selL p vis) : ∃ q ∈ vis, x = q.1.2 := by
  simp only [selL, List.mem_map, List.mem_filter] at h
  obtain ⟨a, ⟨⟨q, hq, rfl⟩, _⟩, rfl⟩ := h
  exact ⟨q, hq, rfl⟩
theorem selL_perm {film : Span} {n : Nat} {sp : Nat → Span} {p : Lg → Bool} {ts vis : List ((Lg × Fd) × Nat)} (h : (ts.map fun x => x.1).Perm (lenM film n sp)) (hv : ts.Perm vis) : (selL p vis).Perm (allL film n sp p) := by
  refine List.Perm.map _ (List.Perm.filter _ ?_)
  exact ((hv.map _).symm.trans h)
theorem range_getD (l : List Fd) (z : Fd) : (List.range l.length).map (fun i => l.getD i z) = l := by
  apply List.ext_getElem
  · simp
  · intro i h1 h2
    simp [List.getElem_map, List.getElem_range, List.getD_eq_getElem?_getD, List.getElem?_eq_getElem h2]
theorem sel_join {film : Span} {n : Nat} {sp : Nat → Span} {p : Lg → Bool} {L : List Fd} (h : L.Perm (allL film n sp p)) : jn (foundAt (fun i => encFL (L.getD i zeroF))) L.length = (J (allL film n sp p)).getD zeroF := by
  rw [show foundAt (fun i => encFL (L.getD i zeroF)) = fun i => L.getD i zeroF from funext fun i => foundAt_enc _ i, jn_J, range_getD, J_perm h]
  rfl
theorem b65 : Body P 65 := body_of Try.func65 (c := code Try.f65) rfl (by decide)
theorem b73 : Body P 73 := body_of Try.func73 (c := code Try.f73) rfl (by decide)
theorem is_call {t fid : Nat} (ht : (t = 73 ∧ fid = 94) ∨ (t = 74 ∧ fid = 95)) : MethOk P t "blockworks/stack.is" fid ∧ Body P fid ∧ ∀ (a b ka kb kc : Int) (H : List (Nat × HB)) (nx : Nat) (Rv : SV → List (Nat × HB) → Nat → Prop) (Rp : List PanicEntry → List (Nat × HB) → Nat → Prop),
    Rv (.sb (isP t (a, b) ⟨ka, kb, kc⟩)) H (nx + 4) → CallS P fid [.agg [.si .i64 a, .si .i64 b], .agg [.si .i64 ka, .si .i64 kb, .si .i64 kc]] H nx Rv Rp := by
  rcases ht with ⟨rfl, rfl⟩ | ⟨rfl, rfl⟩
  · exact ⟨m73, b94, fun a b ka kb kc H nx Rv Rp h => callS_ct (k94 good0) (out := ⟨none, none, .sb (meetsB (a, b) (ka, kb, kc)), []⟩) rfl trivial (fun _ => h) (fun ch h => by cases h)⟩
  · exact ⟨m74, b95, fun a b ka kb kc H nx Rv Rp h => callS_ct (k95 good0) (out := ⟨none, none, .sb (insideB (a, b) (ka, kb, kc)), []⟩) rfl trivial (fun _ => h) (fun ch h => by cases h)⟩

theorem k50 : COk P 50 c50 := by
  have g := g57 (g66 good0)
  refine cokM (C := tabC _) g.ok Try.func50 (c := code Try.f50) rfl fun fr args H out h hp => ?_
  unfold c50 at h
  split at h
  · rename_i sid t a b
    split at h
    · rename_i id lo hi e1
      split at h
      · rename_i n get e
        cases h
        obtain ⟨ht, hs, hok⟩ : (t = 73 ∨ t = 74) ∧ Spans n get ∧ okSet (spanL n get) lo hi := hp
        obtain ⟨fid, hfid⟩ : ∃ fid, (t = 73 ∧ fid = 94) ∨ (t = 74 ∧ fid = 95) := by
          rcases ht with rfl | rfl
          · exact ⟨94, .inl ⟨rfl, rfl⟩⟩
          · exact ⟨95, .inr ⟨rfl, rfl⟩⟩
        obtain ⟨hmeth, hbody, hcall⟩ := is_call hfid
        have hh := setHand e1 e hs
        refine ⟨setP sid id n lo hi (spanAt get), [.sp 0 0, .ifc t (.agg [.si .i64 a, .si .i64 b])], setH n lo hi (spanAt get), 2, [], rfl, rfl, Nat.le_of_ble_eq_true rfl, hh, rfl, rfl, fun G hG => ?_⟩
        have hspans : Spans n (fun i => spanC (spanAt get i)) := spans_sp _ _
        have hok' : okSet (spanL n (fun i => spanC (spanAt get i))) lo hi := hok
        generalize spanAt get = sp at hspans hok' ⊢
        refine fb_call (g.ok _ _ _) cont_std rfl rfl rfl rfl ?_
        refine ⟨b65, callS_exec g.ok Try.func65 (c := code Try.f65) rfl (Nat.le_of_ble_eq_true rfl) fun G1 hG1 => ?_⟩
        refine rangeFunc_ok (g.ok _ _ _) rfl rfl rfl b73 ?_
        intro fn
        refine callS_exec g.ok Try.func73 (c := code Try.f73) rfl (Nat.le_of_ble_eq_true rfl) fun G2 hG2 => ?_
        refine Chk.mk ⟨hspans, hok'⟩ ?_
        refine fb_range encL encF (lenM (lo, hi) n sp) 8 (g.ok _ _ _) cont_std rfl rfl rfl rfl rfl rfl rfl encL_key encF_cl rfl rfl ?_
        intro hnd ts clock hts
        refine nil_cell 3 99 81 4 (fun i => encFL zeroF) rfl ?_
        obtain ⟨p, hpd⟩ : ∃ p : Lg → Bool, isP t (a, b) = p := ⟨_, rfl⟩
        refine loop_okR (g.ok _ _ _) 8 (fun x : {p : List ((Lg × Fd) × Nat) × List ((Lg × Fd) × Nat) // ts.Perm (p.1 ++ p.2)} => ⟨[(0, ⟨[], .fy 7⟩), (1, ⟨[], .sp 4 0⟩), (2, ⟨[], .sp 5 0⟩), (8, ⟨[], .sp 12 0⟩)], [],
          (12, .it 8 clock (x.1.1.map (·.2)) clock) :: (8, .map (encS encL encF ts) clock) :: (3, .cells 99 [.sl 13]) :: (13, .vec 81 4 (selL p x.1.1).length (fun i => encFL ((selL p x.1.1).getD i zeroF))) ::
            (7, .loop [(6, .sp 3 0)] Try.f50.ntmps fn [12, 13] (rfA (code Try.f50)) (rfB (code Try.f50)) 6 .ready none) :: (6, .dfr) :: (5, .cells 77 [.ifc t (.agg [.si .i64 a, .si .i64 b])]) :: (4, .cells 63 [.sp 0 0]) :: (2, .cells 81 (encFL zeroF)) :: setH n lo hi sp, 14, []⟩)
          (fun x => x.1.2.length) hG2 ⟨([], ts), by simp⟩ (fun j => j) ?_ ?_
        · refine ⟨?_, ?_, rfl, rfl, rfl, rfl, trivial⟩
          · repeat' (first | exact trivial | exact rfl | refine And.intro ?_ ?_)
          · refine ⟨⟨⟨rfl, rfl, rfl, rfl, rfl⟩, rfl⟩, ⟨⟨rfl, rfl⟩, rfl⟩, ⟨⟨rfl, ⟨rfl, trivial⟩, rfl⟩, rfl⟩, ⟨⟨rfl, rfl, rfl, fun i hi => absurd hi (Nat.not_lt_zero _)⟩, rfl⟩, ⟨⟨rfl, rfl, rfl, rfl, rfl, rfl, rfl, rfl, rfl, ?_⟩, rfl⟩, ⟨trivial, rfl⟩, ⟨⟨rfl, ⟨rfl, trivial⟩, rfl⟩, rfl⟩, ⟨⟨rfl, ⟨⟨rfl, rfl⟩, trivial⟩, rfl⟩, rfl⟩, ⟨⟨rfl, ⟨⟨rfl, rfl⟩, ⟨rfl, rfl⟩, ⟨rfl, rfl⟩, ⟨rfl, rfl⟩, trivial⟩, rfl⟩, rfl⟩, ⟨⟨rfl, ⟨rfl, ⟨rfl, rfl⟩, ⟨rfl, rfl⟩, trivial⟩, rfl⟩, rfl⟩, ⟨⟨rfl, rfl, fun i hi => ⟨rfl, rfl⟩⟩, rfl⟩, trivial⟩
            intro t' v hv
            simp only [findV] at hv
            split at hv
            · rename_i e6
              have h6 : 6 = t' := by simpa using e6
              subst h6
              cases hv
              exact ⟨rfl, rfl⟩
            · cases hv
        · rintro ⟨⟨vis, rest⟩, hp⟩
          refine fb_next encL encF 8 12 clock ts vis rest (g.ok _ _ _) cont_std rfl rfl rfl rfl rfl encL_key encF_cl rfl rfl rfl hp ⟨fun hr => ?_, ?_⟩
          · replace hr : rest = [] := hr
            subst hr
            have hv : ts.Perm vis := by simpa using hp
            have hsl := selL_perm (p := p) hts hv
            have hl1 : (selL p vis).length ≤ 256 := Nat.le_trans (selL_len p vis) (by
              have := hts.length_eq
              rw [List.length_map, hv.length_eq] at this
              rw [this]
              exact lenM_len (by have := hok'.1; simpa [spanL] using this))
            refine Br.mk (fun h => by cases h) (fun _ => ?_)
            refine drawn_ok (g.ok _ _ _) fol [0,1,0,4,12,3,63] [(5,2)] 7 (by kernel_rfl) ?_
            refine Chk.mk ⟨founds_enc _ _, by show (selL p vis).length ≤ 1000; omega, fun i hi => ?_⟩ ?_
            · rw [foundAt_enc (fun i => (selL p vis).getD i zeroF)]
              have hi : i < (selL p vis).length := hi
              rw [List.getD_eq_getElem?_getD, List.getElem?_eq_getElem hi]
              obtain ⟨q, hq, e⟩ := selL_mem (List.getElem_mem hi)
              simp only [Option.getD_some]
              rw [e]
              have h8 : n ≤ 8 := by have := hok'.1; simpa [spanL] using this
              exact lenM_okF h8 _ (hts.mem_iff.1 (List.mem_map_of_mem (hv.mem_iff.2 hq)))
            have hj := sel_join hsl
            refine ⟨.inl rfl, ⟨?_, rfl, trivial, ⟨⟨rfl, rfl, ⟨rfl, rfl⟩, ⟨rfl, rfl⟩, trivial⟩, trivial, trivial⟩, rfl, rfl⟩⟩
            · show SVeq (.tup [encF (jn (foundAt (fun i => encFL ((selL p vis).getD i zeroF))) (selL p vis).length), .sb (decide ((0 : Int) < ((selL p vis).length : Int)))]) (.tup [encF ((J (allL (lo, hi) n sp (isP t (a, b)))).getD zeroF), .sb (decide (0 < (allL (lo, hi) n sp (isP t (a, b))).length))])
              rw [hpd, hj, hsl.length_eq]
              refine ⟨⟨⟨rfl, rfl⟩, ⟨rfl, rfl⟩, ⟨rfl, rfl⟩, ⟨rfl, rfl⟩, trivial⟩, ?_, trivial⟩
              refine decide_eq_decide.2 ?_
              omega
          · rintro ⟨⟨⟨ka, kb, kc⟩, ⟨fm, fl, fe, fs⟩⟩, b'⟩ rest' hrest
            refine Br.mk (fun _ => ?_) (fun h => by cases h)
            refine fb_entry encL encF 8 12 clock ts vis ⟨⟨⟨ka, kb, kc⟩, ⟨fm, fl, fe, fs⟩⟩, b'⟩ (g.ok _ _ _) cont_std rfl rfl rfl rfl rfl encL_key encF_cl rfl rfl rfl ?_ ?_
            · refine hp.mem_iff.2 (List.mem_append_right _ (hrest.mem_iff.2 List.mem_cons_self))
            · refine fb_invoke fid (g.ok _ _ _) cont_std rfl rfl rfl rfl rfl rfl rfl hmeth hbody ?_
              refine hcall a b ka kb kc _ _ _ _ ?_
              rw [hpd]
              have hsel : selL p (vis ++ [(((⟨ka, kb, kc⟩ : Lg), (⟨fm, fl, fe, fs⟩ : Fd)), b')]) = if p ⟨ka, kb, kc⟩ = true then selL p vis ++ [⟨fm, fl, fe, fs⟩] else selL p vis := by
                simp only [selL, List.map_append, List.filter_append, List.map_cons, List.map_nil, List.filter_cons, List.filter_nil]
                split <;> simp
              have hpm : ts.Perm ((vis ++ [(((⟨ka, kb, kc⟩ : Lg), (⟨fm, fl, fe, fs⟩ : Fd)), b')]) ++ rest') := by
                rw [List.append_assoc]
                exact hp.trans (List.Perm.append_left _ hrest)
              have hless : rest'.length < rest.length := by rw [hrest.length_eq]; simp
              refine Br.mk (fun h => ?_) (fun h => ?_)
              · have h : p ⟨ka, kb, kc⟩ = false := by simpa using h
                rw [h] at hsel
                refine ⟨⟨(vis ++ [(((⟨ka, kb, kc⟩ : Lg), (⟨fm, fl, fe, fs⟩ : Fd)), b')], rest'), hpm⟩, (fun j => j), ?_, hless⟩
                simp only [Bool.false_eq_true, if_false] at hsel
                refine ⟨?_, ?_, rfl, rfl, rfl, rfl, trivial⟩
                · repeat' (first | exact trivial | exact rfl | refine And.intro ?_ ?_)
                · refine ⟨⟨⟨rfl, rfl, rfl, rfl, rfl⟩, rfl⟩, ⟨⟨rfl, rfl⟩, rfl⟩, ⟨⟨rfl, ⟨rfl, trivial⟩, rfl⟩, rfl⟩, ⟨⟨rfl, rfl, ?_, ?_⟩, rfl⟩, ⟨⟨rfl, rfl, rfl, rfl, rfl, rfl, rfl, rfl, rfl, ?_⟩, rfl⟩, ⟨trivial, rfl⟩, ⟨⟨rfl, ⟨rfl, trivial⟩, rfl⟩, rfl⟩, ⟨⟨rfl, ⟨⟨rfl, rfl⟩, trivial⟩, rfl⟩, rfl⟩, ⟨⟨rfl, ⟨⟨rfl, rfl⟩, ⟨rfl, rfl⟩, ⟨rfl, rfl⟩, ⟨rfl, rfl⟩, trivial⟩, rfl⟩, rfl⟩, ⟨⟨rfl, ⟨rfl, ⟨rfl, rfl⟩, ⟨rfl, rfl⟩, trivial⟩, rfl⟩, rfl⟩, ⟨⟨rfl, rfl, fun i hi => ⟨rfl, rfl⟩⟩, rfl⟩, trivial⟩
                  · show (selL p vis).length = (selL p (vis ++ [(((⟨ka, kb, kc⟩ : Lg), (⟨fm, fl, fe, fs⟩ : Fd)), b')])).length
                    rw [hsel]
                  · intro i hi
                    show encFL ((selL p vis).getD i zeroF) = renL (fun j => j) (encFL ((selL p (vis ++ [(((⟨ka, kb, kc⟩ : Lg), (⟨fm, fl, fe, fs⟩ : Fd)), b')])).getD i zeroF)) ∧ _
                    rw [hsel]
                    exact ⟨rfl, rfl⟩
                  · intro t' v hv
                    simp only [findV] at hv
                    split at hv
                    · rename_i e6
                      have h6 : 6 = t' := by simpa using e6
                      subst h6
                      cases hv
                      exact ⟨rfl, rfl⟩
                    · cases hv
              · have h : p ⟨ka, kb, kc⟩ = true := by simpa using h
                rw [if_pos h] at hsel
                refine fb_yield 7 g.ok (g.ok _ _ _) cont_std rfl rfl rfl rfl rfl rfl rfl rfl rfl (by decide) ?_
                intro G3 r hG3
                refine fb_append (Te := 0) 13 21 (selL p vis).length 1 _ _ (fun i => encFL ((selL p vis ++ [(⟨fm, fl, fe, fs⟩ : Fd)]).getD i zeroF)) (g.ok _ _ _) cont_std rfl rfl rfl rfl rfl rfl rfl rfl rfl rfl rfl rfl (by decide) (by decide) rfl rfl rfl rfl ?_ ?_ ?_
                · have h1 := selL_len p vis
                  have h2 : vis.length ≤ ts.length := by rw [hp.length_eq]; simp
                  have h3 : ts.length ≤ 256 := by
                    have := hts.length_eq
                    rw [List.length_map] at this
                    rw [this]
                    exact lenM_len (by have := hok'.1; simpa [spanL] using this)
                  omega
                · intro i hi
                  show encFL _ = _
                  rw [List.getD_eq_getElem?_getD, List.getElem?_append]
                  split
                  · rw [List.getD_eq_getElem?_getD]
                  · rename_i h'
                    have : i - (selL p vis).length = 0 := by omega
                    rw [this]
                    rfl
                · refine Br.mk (fun h => by cases h) (fun _ => ?_)
                  refine ⟨⟨(vis ++ [(((⟨ka, kb, kc⟩ : Lg), (⟨fm, fl, fe, fs⟩ : Fd)), b')], rest'), hpm⟩, (fun j => if j = 13 then 22 else j), ?_, hless⟩
                  refine ⟨?_, ?_, rfl, rfl, rfl, rfl, trivial⟩
                  · repeat' (first | exact trivial | exact rfl | refine And.intro ?_ ?_)
                  · refine ⟨⟨⟨rfl, rfl, rfl, rfl, rfl⟩, rfl⟩, ⟨⟨rfl, rfl⟩, rfl⟩, ⟨⟨rfl, ⟨rfl, trivial⟩, rfl⟩, rfl⟩, ⟨⟨rfl, rfl, ?_, ?_⟩, rfl⟩, ⟨⟨rfl, rfl, rfl, rfl, rfl, rfl, rfl, rfl, rfl, ?_⟩, rfl⟩, ⟨trivial, rfl⟩, ⟨⟨rfl, ⟨rfl, trivial⟩, rfl⟩, rfl⟩, ⟨⟨rfl, ⟨⟨rfl, rfl⟩, trivial⟩, rfl⟩, rfl⟩, ⟨⟨rfl, ⟨⟨rfl, rfl⟩, ⟨rfl, rfl⟩, ⟨rfl, rfl⟩, ⟨rfl, rfl⟩, trivial⟩, rfl⟩, rfl⟩, ⟨⟨rfl, ⟨rfl, ⟨rfl, rfl⟩, ⟨rfl, rfl⟩, trivial⟩, rfl⟩, rfl⟩, ⟨⟨rfl, rfl, fun i hi => ⟨rfl, rfl⟩⟩, rfl⟩, trivial⟩
                    · show (selL p vis).length + 1 = (selL p (vis ++ [(((⟨ka, kb, kc⟩ : Lg), (⟨fm, fl, fe, fs⟩ : Fd)), b')])).length
                      rw [hsel, List.length_append]
                      rfl
                    · intro i hi
                      show encFL _ = renL _ (encFL ((selL p (vis ++ [(((⟨ka, kb, kc⟩ : Lg), (⟨fm, fl, fe, fs⟩ : Fd)), b')])).getD i zeroF)) ∧ _
                      rw [hsel]
                      exact ⟨rfl, rfl⟩
                    · intro t' v hv
                      simp only [findV] at hv
                      split at hv
                      · rename_i e6
                        have h6 : 6 = t' := by simpa using e6
                        subst h6
                        cases hv
                        exact ⟨rfl, rfl⟩
                      · cases hv
      · cases h
    · cases h
  · cases h
theorem g50 {l : List (Nat × Ct)} (g : Good P T l) : Good P T ((50, c50) :: l) := g.add k50 c50_mono (body_of Try.func50 (c := code Try.f50) rfl (by decide))
end Go.X.S
end
