/- The walk of StackTurned. -/
import Derived.Test.YtacaohoiekglfaaNF

section
set_option linter.unusedVariables false
set_option linter.unusedSimpArgs false
set_option linter.unusedSectionVars false
/- Stack: blocks that are numbered the other way round, plainly. -/
set_option linter.unusedVariables false
set_option linter.unusedSimpArgs false
set_option linter.unusedSectionVars false
set_option maxRecDepth 10000
set_option maxHeartbeats 1000000
namespace Go.X.S
open Go Go.Proofs Go.X

theorem near_lt {L : List Span} {lo hi len : Int} (h : setOk L lo hi = true) (hl : isLenB len = true) : 0 ≤ (nrW L lo hi len).1 ∧ (nrW L lo hi len).1 < 1000 := by
  have h8 := (setOk_len h).1
  have h64 : 2 ^ L.length ≤ 256 := Nat.pow_le_pow_right (n := 2) (by decide) h8
  rcases near_spec h hl with ⟨x, hf, hx0, hx1, _⟩ | ⟨hf, _⟩
  · rw [hf]; exact ⟨Int.natCast_nonneg _, by show (x : Int) < 1000; omega⟩
  · rw [hf]; exact ⟨by decide, by decide⟩
/-- A set of blocks as they are numbered the other way round. -/
def revB (n x : Nat) : Nat := bitsN (fun i => x.testBit (n - 1 - i)) n
theorem revB_lt (n x : Nat) : revB n x < 2 ^ n := (bitsN_ok _ n).1
theorem revB_bit (n x i : Nat) : (revB n x).testBit i = (decide (i < n) && x.testBit (n - 1 - i)) := (bitsN_ok _ n).2 i
theorem lt_bit {n x i : Nat} (h : x < 2 ^ n) (hi : n ≤ i) : x.testBit i = false := Nat.testBit_lt_two_pow (Nat.lt_of_lt_of_le h (Nat.pow_le_pow_right (by decide) hi))
theorem revB_rev {n x : Nat} (h : x < 2 ^ n) : revB n (revB n x) = x := by
  refine Nat.eq_of_testBit_eq fun i => ?_
  rw [revB_bit, revB_bit]
  by_cases hi : i < n
  · have e : n - 1 - (n - 1 - i) = i := by omega
    have h2 : n - 1 - i < n := by omega
    simp [hi, h2, e]
  · rw [lt_bit (i := i) h (by omega)]
    simp [hi]
theorem revB_pos {n x : Nat} (h : x < 2 ^ n) (h0 : 0 < x) : 0 < revB n x := by
  rcases Nat.eq_zero_or_pos (revB n x) with h1 | h1
  · have := revB_rev h
    rw [h1] at this
    have e : revB n 0 = 0 := Nat.eq_of_testBit_eq fun i => by rw [revB_bit]; simp
    omega
  · exact h1

def sumF (g : Nat → Int) : Nat → Int
  | 0 => 0
  | n + 1 => sumF g n + g n
theorem sumF_front (g : Nat → Int) : ∀ n, sumF g (n + 1) = g 0 + sumF (fun i => g (i + 1)) n
  | 0 => by simp [sumF]
  | n + 1 => by rw [sumF, sumF_front g n, sumF]; omega
theorem sumF_congr {g h : Nat → Int} : ∀ n, (∀ i, i < n → g i = h i) → sumF g n = sumF h n
  | 0, _ => rfl
  | n + 1, k => by rw [sumF, sumF, sumF_congr n (fun i hi => k i (by omega)), k n (by omega)]
theorem sumF_rev (g : Nat → Int) : ∀ n, sumF (fun i => g (n - 1 - i)) n = sumF g n
  | 0 => rfl
  | n + 1 => by
    rw [sumF_front, sumF_congr (g := fun i => g (n + 1 - 1 - (i + 1))) (h := fun i => g (n - 1 - i)) n (fun i hi => by congr 1; omega), sumF_rev g n, sumF]
    simp only [Nat.add_sub_cancel, Nat.sub_zero]
    omega
theorem sumB_F (f : Nat → Int) (x : Nat) : ∀ n, sumB f x n = sumF (fun i => if x.testBit i then f i else 0) n
  | 0 => rfl
  | n + 1 => by rw [sumB, sumF, sumB_F f x n]
theorem sumB_rev (f : Nat → Int) (n x : Nat) : sumB (fun i => f (n - 1 - i)) (revB n x) n = sumB f x n := by
  rw [sumB_F, sumB_F, ← sumF_rev _ n]
  refine sumF_congr n fun i hi => ?_
  rw [revB_bit]
  have e : n - 1 - (n - 1 - i) = i := by omega
  have h2 : n - 1 - i < n := by omega
  simp only [e, h2, decide_true, Bool.true_and]
theorem cntB_sum (x : Nat) : ∀ n, (cntB x n : Int) = sumB (fun _ => 1) x n
  | 0 => rfl
  | n + 1 => by
    simp only [cntB, sumB, ← cntB_sum x n]
    split <;> simp
theorem sizeN_rev {n x : Nat} (h : x < 2 ^ n) : sizeN (revB n x) = sizeN x := by
  have h1 := cntB_sum (revB n x) n
  have h2 := cntB_sum x n
  rw [sumB_rev (fun _ => 1) n x] at h1
  rw [← cntB_size n x h, ← cntB_size n _ (revB_lt n x)]
  omega

theorem count_rev (p : Nat → Bool) (n : Nat) : (List.range (2 ^ n)).countP (fun x => p (revB n x)) = (List.range (2 ^ n)).countP p := by
  have hnd : ((List.range (2 ^ n)).map (revB n)).Nodup := by
    refine List.pairwise_map.2 (List.Pairwise.imp_of_mem (fun {x y} hx hy hne e => hne ?_) List.nodup_range)
    have hx := List.mem_range.1 hx
    have hy := List.mem_range.1 hy
    rw [← revB_rev hx, ← revB_rev hy, e]
  have hp : ((List.range (2 ^ n)).map (revB n)).Perm (List.range (2 ^ n)) := by
    rw [List.perm_ext_iff_of_nodup hnd List.nodup_range]
    intro x
    rw [List.mem_map, List.mem_range]
    constructor
    · rintro ⟨y, _, rfl⟩; exact revB_lt n y
    · intro h; exact ⟨revB n x, List.mem_range.2 (revB_lt n x), revB_rev h⟩
  have := hp.countP_eq p
  rw [List.countP_map] at this
  exact this

/-- The other way round. -/
structure Turn (L L' : List Span) : Prop where
  len : L'.length = L.length
  of : ∀ x lo hi, x < 2 ^ L.length → ofL L' lo hi (revB L.length x) = ofL L lo hi x
theorem Turn.mk' {n : Nat} {sp : Nat → Span} : Turn ((List.range n).map sp) ((List.range n).map fun i => sp (n - 1 - i)) where
  len := by simp
  of x lo hi h := by
    have h : x < 2 ^ n := by simpa using h
    rw [ofL_map, ofL_map]
    simp only [List.length_map, List.length_range, ofS, sizeN_rev h]
    rw [sumB_rev (fun i => (sp i).1) n x, sumB_rev (fun i => (sp i).2) n x]

section
variable {L L' : List Span} {lo hi a b : Int} (ht : Turn L L')
include ht
theorem Turn.lt {x : Nat} : revB L.length x < 2 ^ L'.length := by rw [ht.len]; exact revB_lt _ _
theorem Turn.qI {x : Nat} (h : x < 2 ^ L.length) : qIn L' lo hi (a, b) (revB L.length x) = qIn L lo hi (a, b) x := by simp only [qIn, ht.of x lo hi h]
theorem Turn.qM {x : Nat} (h : x < 2 ^ L.length) : qMe L' lo hi (a, b) (revB L.length x) = qMe L lo hi (a, b) x := by simp only [qMe, ht.of x lo hi h]
theorem Turn.back {y : Nat} (h : y < 2 ^ L'.length) (h0 : 0 < y) : 0 < revB L.length y ∧ revB L.length y < 2 ^ L.length ∧ revB L.length (revB L.length y) = y := by
  rw [ht.len] at h
  exact ⟨revB_pos h h0, revB_lt _ _, revB_rev h⟩

theorem Turn.few (h : setOk L lo hi = true) (h' : setOk L' lo hi = true) (hw : isWantB a b = true) :
    (fewW L lo hi a b).2 = (fewW L' lo hi a b).2 ∧ 0 ≤ (fewW L lo hi a b).1 ∧ 0 ≤ (fewW L' lo hi a b).1 ∧ sizeN (fewW L lo hi a b).1.toNat = sizeN (fewW L' lo hi a b).1.toNat := by
  rcases few_spec h hw with ⟨x, hf, hx0, hx1, hxq, hxm⟩ | ⟨hf, hn⟩
  · have h1 := hxm
    rcases few_spec h' hw with ⟨y, hf', hy0, hy1, hyq, hym⟩ | ⟨hf', hn'⟩
    · obtain ⟨b0, b1, b2⟩ := ht.back hy1 hy0
      have q1 : qIn L lo hi (a, b) (revB L.length y) = true := by rw [← ht.qI b1, b2]; exact hyq
      have m1 := hxm _ b0 b1 q1
      have m2 := hym _ (revB_pos hx1 hx0) ht.lt (by rw [ht.qI hx1]; exact hxq)
      rw [lessN_no] at m1 m2
      have s1 := sizeN_rev hx1
      have s2 := sizeN_rev (n := L.length) (x := y) (by rw [← ht.len]; exact hy1)
      rw [hf, hf']
      refine ⟨rfl, Int.natCast_nonneg _, Int.natCast_nonneg _, ?_⟩
      simp only [Int.toNat_natCast]
      omega
    · have := hn' _ (revB_pos hx1 hx0) ht.lt
      rw [ht.qI hx1, hxq] at this; cases this
  · rcases few_spec h' hw with ⟨y, hf', hy0, hy1, hyq, hym⟩ | ⟨hf', hn'⟩
    · obtain ⟨b0, b1, b2⟩ := ht.back hy1 hy0
      have := hn _ b0 b1
      rw [← ht.qI b1, b2, hyq] at this; cases this
    · rw [hf, hf']; exact ⟨rfl, Int.le_refl _, Int.le_refl _, rfl⟩

theorem Turn.cnt (h : setOk L lo hi = true) (h' : setOk L' lo hi = true) (hw : isWantB a b = true) : cntW L' lo hi a b = cntW L lo hi a b := by
  have key : ∀ (p q : Nat → Bool), (∀ x, x < 2 ^ L.length → q (revB L.length x) = p x) → ((List.range (2 ^ L'.length)).filter fun x => decide (0 < x) && q x).length = ((List.range (2 ^ L.length)).filter fun x => decide (0 < x) && p x).length := by
    intro p q hpq
    rw [ht.len, ← List.countP_eq_length_filter, ← List.countP_eq_length_filter, ← count_rev]
    refine List.countP_congr fun x hx => ?_
    have hx := List.mem_range.1 hx
    rw [hpq x hx]
    have e : decide (0 < revB L.length x) = decide (0 < x) := by
      rw [decide_eq_decide]
      constructor
      · intro h
        rcases Nat.eq_zero_or_pos x with h0 | h0
        · subst h0
          have e : revB L.length 0 = 0 := Nat.eq_of_testBit_eq fun i => by rw [revB_bit]; simp
          omega
        · exact h0
      · exact revB_pos hx
    rw [e]
  rw [cnt_spec h hw, cnt_spec h' hw]
  have k1 := key (qIn L lo hi (a, b)) (qIn L' lo hi (a, b)) (fun x hx => ht.qI hx)
  have k2 := key (qMe L lo hi (a, b)) (qMe L' lo hi (a, b)) (fun x hx => ht.qM hx)
  simp only [surI, meI, k1, k2]

theorem Turn.need (h : setOk L lo hi = true) (h' : setOk L' lo hi = true) (hw : isWantB a b = true) :
    (needW L lo hi a b).2.2 = (needW L' lo hi a b).2.2 ∧ (∃ x : Nat, (needW L lo hi a b).1 = x ∧ x < 2 ^ L.length ∧ (needW L' lo hi a b).1 = ((revB L.length x : Nat) : Int)) ∧
      ∃ x : Nat, (needW L lo hi a b).2.1 = x ∧ x < 2 ^ L.length ∧ (needW L' lo hi a b).2.1 = ((revB L.length x : Nat) : Int) := by
  have e0 : revB L.length 0 = 0 := Nat.eq_of_testBit_eq fun i => by rw [revB_bit]; simp
  rcases need_spec h hw with ⟨f, hf, l1, l2, ⟨x, hx0, hx1, hxq⟩, hea, hso⟩ | ⟨hf, hn⟩
  · rcases need_spec h' hw with ⟨f', hf', l1', l2', _, hea', hso'⟩ | ⟨hf', hn'⟩
    · rw [hf, hf']
      rw [ht.len] at l1' l2'
      refine ⟨rfl, ⟨f.each, rfl, l1, ?_⟩, ⟨f.some, rfl, l2, ?_⟩⟩
      · show (f'.each : Int) = _
        congr 1
        refine Nat.eq_of_testBit_eq fun i => ?_
        rw [revB_bit]
        by_cases hi : i < L.length
        · simp only [hi, decide_true, Bool.true_and]
          rw [Bool.eq_iff_iff, hea', hea]
          constructor
          · intro k y hy0 hy1 hyq
            have := k _ (revB_pos hy1 hy0) ht.lt (by rw [ht.qI hy1]; exact hyq)
            rw [revB_bit] at this
            simpa [hi] using this
          · intro k y hy0 hy1 hyq
            obtain ⟨b0, b1, b2⟩ := ht.back hy1 hy0
            have := k _ b0 b1 (by rw [← ht.qI b1, b2]; exact hyq)
            rw [← b2, revB_bit]
            simpa [hi] using this
        · rw [lt_bit l1' (by omega)]; simp [hi]
      · show (f'.some : Int) = _
        congr 1
        refine Nat.eq_of_testBit_eq fun i => ?_
        rw [revB_bit]
        by_cases hi : i < L.length
        · simp only [hi, decide_true, Bool.true_and]
          rw [Bool.eq_iff_iff, hso', hso]
          constructor
          · rintro ⟨y, hy0, hy1, hyq, hyb⟩
            obtain ⟨b0, b1, b2⟩ := ht.back hy1 hy0
            refine ⟨_, b0, b1, by rw [← ht.qI b1, b2]; exact hyq, ?_⟩
            rw [← b2, revB_bit] at hyb
            simpa [hi] using hyb
          · rintro ⟨y, hy0, hy1, hyq, hyb⟩
            refine ⟨_, revB_pos hy1 hy0, ht.lt, by rw [ht.qI hy1]; exact hyq, ?_⟩
            rw [revB_bit]
            simpa [hi] using hyb
        · rw [lt_bit l2' (by omega)]; simp [hi]
    · have := hn' _ (revB_pos hx1 hx0) ht.lt
      rw [ht.qI hx1, hxq] at this; cases this
  · rcases need_spec h' hw with ⟨f', hf', l1', l2', ⟨y, hy0, hy1, hyq⟩, _⟩ | ⟨hf', hn'⟩
    · obtain ⟨b0, b1, b2⟩ := ht.back hy1 hy0
      have := hn _ b0 b1
      rw [← ht.qI b1, b2, hyq] at this; cases this
    · rw [hf, hf']
      exact ⟨rfl, ⟨0, rfl, Nat.pow_pos (by decide), by rw [e0]; rfl⟩, ⟨0, rfl, Nat.pow_pos (by decide), by rw [e0]; rfl⟩⟩

theorem Turn.near (h : setOk L lo hi = true) (h' : setOk L' lo hi = true) {len : Int} (hl : isLenB len = true) :
    (nrW L' lo hi len).2 = (nrW L lo hi len).2 ∧ 0 ≤ (nrW L lo hi len).1 ∧ 0 ≤ (nrW L' lo hi len).1 ∧ sizeN (nrW L lo hi len).1.toNat = sizeN (nrW L' lo hi len).1.toNat := by
  rcases near_spec h hl with ⟨x, hf, hx0, hx1, hn0, hxm⟩ | ⟨hf, hn⟩
  · rcases near_spec h' hl with ⟨y, hf', hy0, hy1, _, hym⟩ | ⟨hf', hn'⟩
    · obtain ⟨b0, b1, b2⟩ := ht.back hy1 hy0
      have m1 := hxm _ b0 b1
      have m2 := hym _ (revB_pos hx1 hx0) ht.lt
      rw [ht.of x lo hi hx1] at m2
      have e := ht.of _ lo hi b1
      rw [b2] at e
      rw [← e] at m1
      have s1 := sizeN_rev hx1
      have s2 := sizeN_rev (n := L.length) (x := y) (by rw [← ht.len]; exact hy1)
      rw [hf, hf']
      simp only [ltC, Bool.or_eq_true, Bool.and_eq_true, decide_eq_true_eq, lessN_iff] at m1 m2
      generalize offV (ofL L lo hi x) len = o1 at *
      generalize offV (ofL L' lo hi y) len = o2 at *
      have ho : o2 = o1 := by omega
      subst ho
      refine ⟨rfl, Int.natCast_nonneg _, Int.natCast_nonneg _, ?_⟩
      simp only [Int.toNat_natCast]
      omega
    · have := ht.len; omega
  · rcases near_spec h' hl with ⟨y, hf', hy0, hy1, hn0, hym⟩ | ⟨hf', hn'⟩
    · have := ht.len; omega
    · rw [hf, hf']; exact ⟨rfl, Int.le_refl _, Int.le_refl _, rfl⟩

theorem Turn.gap (h : setOk L lo hi = true) (h' : setOk L' lo hi = true) {c : Int} (hg : gapB a b c = true) : gapW L' lo hi a b c = gapW L lo hi a b c := by
  have hbad : ∀ j, 0 ≤ j → j ≤ 5000 → badG L' lo hi c j = badG L lo hi c j := by
    intro j h1 h2
    have hl : isLenB j = true := by simp only [isLenB, Bool.and_eq_true, decide_eq_true_eq]; omega
    have e1 := near_can (c := c) h hl
    have e2 := near_can (c := c) h' hl
    rw [(ht.near h h' hl).1] at e2
    rw [e1] at e2
    simpa using e2.symm
  have key : ∀ (k : Nat) (n : Int), 0 ≤ n → n + k ≤ 5001 → gapS L' lo hi c k n = gapS L lo hi c k n := by
    intro k
    induction k with
    | zero => intro n _ _; rfl
    | succ k ih =>
      intro n h1 h2
      simp only [gapS]
      rw [hbad n h1 (by omega), ih (n + 1) (by omega) (by omega)]
  have hg' := hg
  simp only [gapB, isLenB, Bool.and_eq_true, decide_eq_true_eq] at hg'
  simp only [gapW, err_ok h hg, err_ok h' hg, key (b - a + 1).toNat a (by omega) (by omega)]

theorem Turn.long (h : setOk L lo hi = true) (h' : setOk L' lo hi = true) {x : Nat} (h0 : 0 < x) (hx : x < 2 ^ L.length) :
    errV L lo hi (isSetB L.length (x : Int)) = 0 ∧ errV L' lo hi (isSetB L'.length ((revB L.length x : Nat) : Int)) = 0 ∧ longV L' lo hi ((revB L.length x : Nat) : Int) = longV L lo hi (x : Int) := by
  have i1 : isSetB L.length (x : Int) = true := isSet_ok.2 ⟨by simpa using h0, by simpa using hx, by omega⟩
  have i2 : isSetB L'.length ((revB L.length x : Nat) : Int) = true := isSet_ok.2 ⟨by simpa using revB_pos hx h0, by simpa using ht.lt, by omega⟩
  have e1 := err_ok h i1
  have e2 := err_ok h' i2
  refine ⟨e1, e2, ?_⟩
  rw [longV, longV, e1, e2, if_pos rfl, if_pos rfl]
  simp only [Int.toNat_natCast]
  exact ht.of x lo hi hx
end
end Go.X.S
end

section
set_option linter.unusedVariables false
set_option linter.unusedSimpArgs false
set_option linter.unusedSectionVars false
/- Stack: a set of blocks as they are numbered the other way round. -/
set_option linter.unusedVariables false
set_option linter.unusedSimpArgs false
set_option linter.unusedSectionVars false
set_option maxRecDepth 10000
set_option maxHeartbeats 1000000
namespace Go.X.S
open Go Go.Proofs Go.X

/-- What is put together after so many rounds: the bits from above. -/
def upI (n x : Nat) : Nat → Nat
  | 0 => 0
  | i + 1 => upI n x i ||| ((x / 2 ^ i) &&& 1) * 2 ^ (n - 1 - i)
theorem upI_bit {n x : Nat} : ∀ i, i ≤ n → ∀ b, (upI n x i).testBit b = (decide (b < n) && (decide (n - i ≤ b) && x.testBit (n - 1 - b)))
  | 0, h, b => by
    simp only [upI, Nat.zero_testBit, Nat.sub_zero]
    by_cases hb : b < n
    · have : ¬ n ≤ b := by omega
      simp [this]
    · simp [hb]
  | i + 1, h, b => by
    rw [upI, Nat.testBit_or, upI_bit i (by omega) b]
    have e : ((x / 2 ^ i) &&& 1) * 2 ^ (n - 1 - i) = if x.testBit i then 2 ^ (n - 1 - i) else 0 := by
      rw [Nat.and_one_is_mod, Nat.testBit_eq_decide_div_mod_eq]
      rcases Nat.mod_two_eq_zero_or_one (x / 2 ^ i) with h2 | h2
      · simp [h2]
      · simp [h2]
    rw [e]
    have e2 : (if x.testBit i then 2 ^ (n - 1 - i) else 0).testBit b = (x.testBit i && decide (b = n - 1 - i)) := by
      cases x.testBit i with
      | false => simp
      | true =>
        simp only [if_true, Bool.true_and, Nat.testBit_two_pow]
        rw [decide_eq_decide]; omega
    rw [e2]
    by_cases hb : b = n - 1 - i
    · subst hb
      have h1 : n - 1 - i < n := by omega
      have h2 : n - (i + 1) ≤ n - 1 - i := by omega
      have h3 : n - 1 - (n - 1 - i) = i := by omega
      have h4 : ¬ n - i ≤ n - 1 - i := by omega
      simp [h1, h2, h3, h4]
    · by_cases hbn : b < n
      · have e3 : decide (n - (i + 1) ≤ b) = decide (n - i ≤ b) := by rw [decide_eq_decide]; omega
        simp only [hb, decide_false, Bool.and_false, Bool.or_false, e3]
      · simp [hb, hbn]
theorem upI_rev (n x : Nat) : upI n x n = revB n x := by
  refine Nat.eq_of_testBit_eq fun b => ?_
  rw [upI_bit n (Nat.le_refl _), revB_bit]
  simp
theorem upI_lt {n x i : Nat} (h : i ≤ n) : upI n x i < 2 ^ n := by
  refine Nat.lt_pow_two_of_testBit _ fun b hb => ?_
  rw [upI_bit i h]
  have : ¬ b < n := by omega
  simp [this]

def c38 : Ct := fun fr args H =>
  match args with
  | [.si .i64 m, .sp id 0] => (match H id with
    | some (.cells 3 [.si .i64 n]) => some ⟨some ((0 ≤ n ∧ n ≤ 8) ∧ 0 ≤ m ∧ m < 2 ^ n.toNat), none, .si .i64 (revB n.toNat m.toNat : Nat), []⟩
    | _ => none)
  | _ => none
theorem c38_mono : CtMono c38 := by
  intro fr args H H' out hH h
  unfold c38 at h ⊢
  split at h
  · split at h
    · rename_i e1
      rw [hH _ _ e1]
      exact h
    · cases h
  · cases h
theorem hand_num {H : LH} {id : Nat} {n : Int} (h1 : H id = some (.cells 3 [.si .i64 n])) : Hand H [(id, .cells 3 [.si .i64 n])] where
  ok j c hb h := by
    match j, h with
    | 0, h => simp at h; obtain ⟨rfl, rfl⟩ := h; exact h1
    | j + 1, h => simp at h
  ids j c hb h := by
    match j, h with
    | 0, h => simp at h; obtain ⟨rfl, rfl⟩ := h; exact ⟨trivial, trivial⟩
    | j + 1, h => simp at h
  inj i j c hb hb' h1 h2 o1 o2 := by
    match i, j, h1, h2 with
    | 0, 0, _, _ => rfl
    | i + 1, _, h, _ => simp at h
    | _, j + 1, _, h => simp at h

theorem k38 {l : List (Nat × Ct)} (g0 : Good P T l) : COk P 38 c38 := by
  refine cok (C := tabC _) g0.ok Try.func38 (c := code Try.f38) rfl fun fr args H out h hp => ?_
  unfold c38 at h
  split at h
  · rename_i m id
    split at h
    · rename_i n e1
      cases h
      obtain ⟨⟨hn0, hn8⟩, hm0, hm1⟩ : (0 ≤ n ∧ n ≤ 8) ∧ 0 ≤ m ∧ m < 2 ^ n.toNat := hp
      obtain ⟨n, rfl⟩ : ∃ k : Nat, n = k := ⟨n.toNat, by omega⟩
      obtain ⟨m, rfl⟩ : ∃ k : Nat, m = k := ⟨m.toNat, by omega⟩
      have hpi := pow_int n
      have h64 : 2 ^ n ≤ 256 := Nat.pow_le_pow_right (n := 2) (by decide) (show n ≤ 8 by omega)
      have hmn : m < 2 ^ n := by simp only [Int.toNat_natCast] at hm1; omega
      refine ⟨[(id, .cells 3 [.si .i64 n])], [.si .i64 m, .sp 0 0], [(0, .cells 3 [.si .i64 n])], 1, [], rfl, rfl, Nat.le_of_ble_eq_true rfl, hand_num e1, rfl, rfl, fun G hG => ?_⟩
      refine loop_ok (g0.ok _ _ _) (fun i : {i : Nat // i ≤ n} => ⟨[(0, ⟨[], .si .i64 m⟩), (1, ⟨[], .sp 0 0⟩), (3, ⟨[], .si .i64 (upI n m i.1 : Nat)⟩), (5, ⟨[], .si .i64 n⟩), (6, ⟨[], .si .i64 i.1⟩)], [],
        [(0, .cells 3 [.si .i64 n])], 1, []⟩) (fun i => n - i.1) (fun _ j hj => hG j hj) ⟨0, Nat.zero_le _⟩ ?_ ?_
      · refine ⟨?_, ?_, rfl, rfl, rfl⟩
        · repeat' (first | exact trivial | exact rfl | refine And.intro ?_ ?_)
        · repeat' (first | exact trivial | exact rfl | (intro i hi; exact rfl) | refine And.intro ?_ ?_)
      · rintro ⟨i, hle⟩
        have hup := upI_lt (n := n) (x := m) hle
        refine Br.mk (fun h => ?_) (fun h => ?_)
        · replace h : (i : Int) < (n : Int) := of_decide_eq_true h
          refine drawn_ok (g0.ok _ _ _) fol [0,0,0,6,14,0,32,0,224,510,1023,2047] [] 12 (by kernel_rfl) ?_
          have hk2 : 0 ≤ ((m : Nat) : Int).fdiv (2 ^ i) ∧ ((m : Nat) : Int).fdiv (2 ^ i) ≤ 1000000 := by
            rw [Int.fdiv_eq_ediv_of_nonneg _ (Int.pow_nonneg (by omega))]
            have := Int.ediv_le_self (a := ((m : Nat) : Int)) (2 ^ i) (by omega)
            exact ⟨Int.ediv_nonneg (by omega) (Int.pow_nonneg (by omega)), by omega⟩
          have hfd : (((m : Nat) : Int).fdiv (2 ^ i)).toNat = m / 2 ^ i := by
            rw [Int.fdiv_eq_ediv_of_nonneg _ (Int.pow_nonneg (by omega))]
            have : (m : Int) / (2 : Int) ^ i = ((m / 2 ^ i : Nat) : Int) := by push_cast; rfl
            rw [this]; rfl
          have hkk : (((n : Int) - 1 - (i : Int)).toNat) = n - 1 - i := by omega
          have hone : (1 : Int).toNat = 1 := rfl
          have hle1 := Nat.and_le_right (n := m / 2 ^ i) (m := 1)
          have hpk : 2 ^ (n - 1 - i) ≤ 256 := Nat.le_trans (Nat.pow_le_pow_right (by decide) (by omega)) h64
          have hmul : (m / 2 ^ i &&& 1) * 2 ^ (n - 1 - i) ≤ 256 := by
            have := Nat.mul_le_mul hle1 hpk; omega
          have hup2 := upI_lt (n := n) (x := m) (i := i + 1) (by omega)
          refine Chk.mk (show (0 : Int) ≤ (i : Int) ∧ i ≤ 64 from ⟨by omega, by omega⟩) ?_
          refine Chk.mk (show 0 ≤ ((m : Nat) : Int).fdiv (2 ^ i) ∧ (0 : Int) ≤ 1 ∧ InK .i64 (((m : Nat) : Int).fdiv (2 ^ i)) ∧ InK .i64 1 from ⟨hk2.1, by omega, ⟨by omega, by omega⟩, by omega, by omega⟩) ?_
          refine Chk.mk (show InK .i64 ((n : Int) - 1) from ⟨by omega, by omega⟩) ?_
          refine Chk.mk (show InK .i64 ((n : Int) - 1 - (i : Int)) from ⟨by omega, by omega⟩) ?_
          have ev1 : (m / 2 ^ i &&& 1 : Nat) ≤ 1 := hle1
          have q1 : (((((m : Nat) : Int).fdiv (2 ^ i)).toNat &&& (1 : Int).toNat : Nat) : Int) * 2 ^ ((n : Int) - 1 - (i : Int)).toNat = (((m / 2 ^ i &&& 1) * 2 ^ (n - 1 - i) : Nat) : Int) := by
            rw [hfd, hkk, hone]; push_cast; rfl
          have q2 : (0 : Int) ≤ (n : Int) - 1 - (i : Int) ∧ ((n : Int) - 1 - (i : Int)).toNat ≤ 64 ∧ InK .i64 ((((((m : Nat) : Int).fdiv (2 ^ i)).toNat &&& (1 : Int).toNat : Nat) : Int) * 2 ^ ((n : Int) - 1 - (i : Int)).toNat) := by
            rw [q1]; exact ⟨by omega, by omega, by omega, by omega⟩
          refine Chk.mk q2 ?_
          have q3 : (0 : Int) ≤ ((upI n m i : Nat) : Int) ∧ (0 : Int) ≤ (((((m : Nat) : Int).fdiv (2 ^ i)).toNat &&& (1 : Int).toNat : Nat) : Int) * 2 ^ ((n : Int) - 1 - (i : Int)).toNat ∧ InK .i64 ((upI n m i : Nat) : Int) ∧ InK .i64 ((((((m : Nat) : Int).fdiv (2 ^ i)).toNat &&& (1 : Int).toNat : Nat) : Int) * 2 ^ ((n : Int) - 1 - (i : Int)).toNat) := by
            rw [q1]; exact ⟨by omega, by omega, ⟨by omega, by omega⟩, by omega, by omega⟩
          refine Chk.mk q3 ?_
          have q4 : ((((upI n m i : Nat) : Int).toNat ||| ((((((m : Nat) : Int).fdiv (2 ^ i)).toNat &&& (1 : Int).toNat : Nat) : Int) * 2 ^ ((n : Int) - 1 - (i : Int)).toNat).toNat : Nat) : Int) = ((upI n m (i + 1) : Nat) : Int) := by
            rw [q1]; rfl
          refine Chk.mk (show InK .i64 ((i : Int) + 1) from ⟨by omega, by omega⟩) ⟨⟨i + 1, by omega⟩, ?_, (by show n - (i + 1) < n - i; omega)⟩
          refine ⟨?_, ?_, rfl, rfl, rfl⟩
          · repeat' (first | exact trivial | exact q4 | exact rfl | refine And.intro ?_ ?_)
          · repeat' (first | exact trivial | exact rfl | (intro i hi; exact rfl) | refine And.intro ?_ ?_)
        · replace h : ¬ (i : Int) < (n : Int) := of_decide_eq_false h
          have hin' : n = i := by omega
          subst hin'
          refine ⟨.inl rfl, end_noid ⟨rfl, ?_⟩ rfl rfl ?_⟩
          · show (upI n m n : Int) = _
            rw [upI_rev]; rfl
          · exact ⟨⟨rfl, ⟨rfl, rfl⟩, trivial⟩, trivial⟩
    · cases h
  · cases h
theorem g38 {l : List (Nat × Ct)} (g : Good P T l) : Good P T ((38, c38) :: l) := g.add (k38 g) c38_mono (body_of Try.func38 (c := code Try.f38) rfl (by decide))
end Go.X.S
end

section
set_option linter.unusedVariables false
set_option linter.unusedSimpArgs false
set_option linter.unusedSectionVars false
/- Stack: StackTurned answers true. -/
set_option linter.unusedVariables false
set_option linter.unusedSimpArgs false
set_option linter.unusedSectionVars false
set_option maxRecDepth 10000
set_option maxHeartbeats 16000000
namespace Go.X.S
open Go Go.Proofs Go.X

def c12 : Ct := stCt fun L _ _ r => match r with
  | [.si .u16 x, .si .u8 wide, .si .u8 bits] => some (some ((0 ≤ x ∧ x < 65536) ∧ (0 ≤ wide ∧ wide < 256) ∧ 0 ≤ bits ∧ bits < 256), .sb true)
  | _ => none
theorem k12 {l : List (Nat × Ct)} (g0 : Good P T l) : COk P 12 c12 := by
  have g := g14 (g29 (g33 (g30 (g36 (g38 (g15 (g19 (g21 (g23 (g25 (g27 g0)))))))))))
  refine cok (C := tabC _) g.ok Try.func12 (c := code Try.f12) rfl fun fr args H out h hp => stWalk h hp fun n sp lo hi r p v Rv Rp hk hp hR => ?_
  split at hk
  · rename_i x wide bits
    cases hk
    obtain ⟨hx, hwide, hbits⟩ : (0 ≤ x ∧ x < 65536) ∧ (0 ≤ wide ∧ wide < 256) ∧ 0 ≤ bits ∧ bits < 256 := hp
    refine ⟨Nat.le_of_ble_eq_true rfl, fun G hG => ?_⟩
    refine Chk.mk ⟨spans_sp _ _, rfl, trivial⟩ ?_
    refine Br.mk (fun h => ?_) (fun h => ?_)
    · exact hR _ _ rfl rfl
    · have h : (!fineB ((List.range n).map sp) lo hi) = false := h
      have hok : setOk ((List.range n).map sp) lo hi = true := fine_ok (by simpa using h)
      have hlen := (setOk_len hok).1
      obtain ⟨L, hL⟩ : ∃ L, (spanL n fun i => spanC (sp i)) = L := ⟨_, rfl⟩
      have hL' : (List.range n).map sp = L := hL
      have hn : n = L.length := by rw [← hL']; simp
      have ht := Turn.mk' (n := n) (sp := sp)
      obtain ⟨sq, hsq⟩ : ∃ f : Nat → Span, (fun i => sp (n - 1 - i)) = f := ⟨_, rfl⟩
      rw [hsq, hL'] at ht
      rw [hL'] at hok hlen
      obtain ⟨M, hM⟩ : ∃ M, (spanL n fun i => spanC (sq i)) = M := ⟨_, rfl⟩
      have hM' : (List.range n).map sq = M := hM
      rw [hM'] at ht
      have hok2 : setOk M lo hi = true := by
        have h1 := hok
        simp only [setOk, Bool.and_eq_true] at h1 ⊢
        refine ⟨by rw [ht.len]; exact h1.1, ?_⟩
        rw [← hM', List.all_eq_true]
        intro y hy
        obtain ⟨i, hi, rfl⟩ := List.mem_map.1 hy
        have hi := List.mem_range.1 hi
        refine List.all_eq_true.1 h1.2 _ ?_
        rw [← hL', ← hsq]
        exact List.mem_map.2 ⟨n - 1 - i, List.mem_range.2 (by omega), rfl⟩
      have hl : (spanL n fun i => spanC (sp i)).length ≤ 40 := by rw [hL]; omega
      have hl2 : (spanL n fun i => spanC (sq i)).length ≤ 40 := by rw [hM, ht.len]; omega
      refine nil_at 3 26 24 2 (fun i => spanC (sq i)) [] [.si .i64 lo, .si .i64 hi] rfl ?_
      refine loop_okR (g.ok _ _ _) 1 (fun i : {i : Nat // i ≤ n} => ⟨[(1, ⟨[], .si .u16 x⟩), (2, ⟨[], .si .u8 wide⟩), (3, ⟨[], .si .u8 bits⟩), (4, ⟨[], .sp 1 0⟩), (8, ⟨[], .sb false⟩), (9, ⟨[], .sp 2 0⟩), (10, ⟨[], .sp 3 0⟩), (11, ⟨[], .fn (Fn.func 38) [] [.sp 2 0]⟩), (60, ⟨[], .si .i64 n⟩), (61, ⟨[], .si .i64 i.1⟩)], [],
        [(4, .vec 24 2 i.1 (fun j => spanC (sq j))), (3, .cells 26 [.sl 4, .si .i64 lo, .si .i64 hi]), (2, .cells 3 [.si .i64 n]), (1, .cells 26 [.sl 0, .si .i64 lo, .si .i64 hi]), (0, .ro 2 n fun i => spanC (sp i))], 5, []⟩)
        (fun i => n - i.1) hG ⟨0, Nat.zero_le _⟩ (fun j => j) ?_ ?_
      · refine ⟨?_, ?_, rfl, rfl, rfl, rfl, trivial⟩
        · repeat' (first | exact trivial | exact rfl | refine And.intro ?_ ?_)
        · repeat' (first | exact trivial | exact rfl | (intro i hi; exact ⟨rfl, rfl⟩) | refine And.intro ?_ ?_)
      · rintro ⟨i, hle⟩
        refine Br.mk (fun h => ?_) (fun h => ?_)
        · replace h : (i : Int) < (n : Int) := of_decide_eq_true h
          refine drawn_ok (g.ok _ _ _) fol [0,1,0,4,0,16,0,112,252,508,1020,2047,4095,8191] [] 11 (by kernel_rfl) ?_
          refine Chk.mk (show InK .i64 ((n : Int) - 1) from ⟨by omega, by omega⟩) (Chk.mk (show InK .i64 ((n : Int) - 1 - (i : Int)) from ⟨by omega, by omega⟩) (Chk.mk (show (0 : Int) ≤ (n : Int) - 1 - (i : Int) ∧ (n : Int) - 1 - (i : Int) < (n : Int) from ⟨by omega, by omega⟩) ?_))
          have ek : ((n : Int) - 1 - (i : Int)).toNat = n - 1 - i := by omega
          have hsqi : sp ((n : Int) - 1 - (i : Int)).toNat = sq i := by rw [ek, ← hsq]
          refine fb_weaken 1 (fun j => if j = 5 then 45 else j) hG (st' := ⟨[(65, ⟨[], .sl 4⟩), (74, ⟨[], .sl 5⟩), (1, ⟨[], .si .u16 x⟩), (2, ⟨[], .si .u8 wide⟩), (3, ⟨[], .si .u8 bits⟩), (4, ⟨[], .sp 1 0⟩), (8, ⟨[], .sb false⟩), (9, ⟨[], .sp 2 0⟩), (10, ⟨[], .sp 3 0⟩), (11, ⟨[], .fn (Fn.func 38) [] [.sp 2 0]⟩), (60, ⟨[], .si .i64 n⟩), (61, ⟨[], .si .i64 i⟩)], [],
            [(5, .row 24 2 1 (spanC (sp ((n : Int) - 1 - (i : Int)).toNat))), (4, .vec 24 2 i (fun j => spanC (sq j))), (3, .cells 26 [.sl 4, .si .i64 lo, .si .i64 hi]), (2, .cells 3 [.si .i64 n]), (1, .cells 26 [.sl 0, .si .i64 lo, .si .i64 hi]), (0, .ro 2 n fun i => spanC (sp i))], 6, []⟩) ⟨?_, ?_, rfl, rfl, rfl, rfl, trivial⟩ ?_
          · repeat' (first | exact trivial | exact rfl | refine And.intro ?_ ?_)
          · repeat' (first | exact trivial | exact rfl | (intro i hi; exact ⟨rfl, rfl⟩) | refine And.intro ?_ ?_)
          rw [hsqi]
          refine fb_append (Te := 0) 4 5 i 1 _ _ (fun j => spanC (sq j)) (g.ok _ _ _) cont_std rfl rfl rfl rfl rfl rfl rfl rfl rfl rfl rfl rfl (by decide) (by decide) rfl rfl rfl rfl ?_ ?_ ?_
          · omega
          · intro j hj
            by_cases hji : j < i
            · rw [if_pos hji]
            · have e1 : j - i = 0 := by omega
              have e2 : j = i := by omega
              rw [if_neg hji, e1, e2]
              rfl
          · refine Chk.mk (show InK .i64 ((i : Int) + 1) from ⟨by omega, by omega⟩) ⟨⟨i + 1, by omega⟩, (fun j => if j = 4 then 6 else j), ?_, (by show n - (i + 1) < n - i; omega)⟩
            refine ⟨?_, ?_, rfl, rfl, rfl, rfl, trivial⟩
            · repeat' (first | exact trivial | exact rfl | refine And.intro ?_ ?_)
            · repeat' (first | exact trivial | exact rfl | (intro i hi; exact ⟨rfl, rfl⟩) | refine And.intro ?_ ?_)
        · replace h : ¬ (i : Int) < (n : Int) := of_decide_eq_false h
          have hin' : n = i := by omega
          subst hin'
          refine fb_append0 5 0 n _ (g.ok _ _ _) cont_std rfl rfl rfl rfl rfl rfl rfl rfl rfl rfl rfl rfl (by decide) (by decide) rfl rfl rfl rfl (by decide) (by omega) ?_
          refine Chk.mk ⟨hx, hwide⟩ ?_
          have hw := want_ok hx.1 hwide.1
          have hwb : 0 ≤ x % 5001 ∧ x % 5001 ≤ 5000 := by omega
          generalize hwl : x % 5001 = wl at *
          generalize hwh : min 5000 (wl + wide) = wh at *
          have hlb : isLenB wl = true := by simp only [isLenB, Bool.and_eq_true, decide_eq_true_eq]; omega
          have hf := ht.few hok hok2 hw
          have hfl1 := few_lt hok hw
          have hfl2 := few_lt hok2 hw
          have hc := ht.cnt hok hok2 hw
          obtain ⟨hn0, ⟨k1, hk1, hk2, hk3⟩, l1, hl1, hl2', hl3⟩ := ht.need hok hok2 hw
          have hr := ht.near hok hok2 hlb
          obtain ⟨⟨f1, f2⟩, hfw⟩ : ∃ p, fewW L lo hi wl wh = p := ⟨_, rfl⟩
          obtain ⟨⟨f3, f4⟩, hfw2⟩ : ∃ p, fewW M lo hi wl wh = p := ⟨_, rfl⟩
          obtain ⟨⟨c1, c2, c3⟩, hcw⟩ : ∃ p, cntW L lo hi wl wh = p := ⟨_, rfl⟩
          obtain ⟨⟨d1, d2, d3⟩, hdw⟩ : ∃ p, needW L lo hi wl wh = p := ⟨_, rfl⟩
          obtain ⟨⟨d4, d5, d6⟩, hdw2⟩ : ∃ p, needW M lo hi wl wh = p := ⟨_, rfl⟩
          obtain ⟨⟨n1, n2, n3⟩, hnw⟩ : ∃ p, nrW L lo hi wl = p := ⟨_, rfl⟩
          obtain ⟨⟨n4, n5, n6⟩, hnw2⟩ : ∃ p, nrW M lo hi wl = p := ⟨_, rfl⟩
          have hnl1 := near_lt hok hlb
          have hnl2 := near_lt hok2 hlb
          rw [hfw, hfw2] at hf
          rw [hfw] at hfl1
          rw [hfw2] at hfl2
          rw [hcw] at hc
          rw [hdw, hdw2] at hn0
          rw [hdw] at hk1 hl1
          rw [hdw2, ← hn] at hk3 hl3
          rw [hnw, hnw2] at hr
          rw [hnw] at hnl1
          rw [hnw2] at hnl2
          simp only [Prod.mk.injEq] at hf hfl1 hfl2 hn0 hk1 hl1 hk3 hl3 hr hnl1 hnl2
          refine Chk.mk ⟨spans_sp _ _, rfl, hl⟩ ?_
          rw [hL, hfw]
          refine Chk.mk ⟨spans_sp _ _, rfl, hl2⟩ ?_
          rw [hM, hfw2]
          refine Chk.mk ⟨spans_sp _ _, rfl, hl⟩ ?_
          rw [hL, hcw]
          refine Chk.mk ⟨spans_sp _ _, rfl, hl2⟩ ?_
          rw [hM, hc]
          refine Chk.mk ⟨spans_sp _ _, rfl, hl⟩ ?_
          rw [hL, hdw]
          refine Chk.mk ⟨spans_sp _ _, rfl, hl2⟩ ?_
          rw [hM, hdw2]
          refine Chk.mk ⟨spans_sp _ _, rfl, hl⟩ ?_
          rw [hL, hnw]
          refine Chk.mk ⟨spans_sp _ _, rfl, hl2⟩ ?_
          rw [hM, hnw2]
          have t20 : wide.tmod 20 = wide % 20 := Int.tmod_eq_emod_of_nonneg (by omega)
          have t30 : bits.tmod 30 = bits % 30 := Int.tmod_eq_emod_of_nonneg (by omega)
          have hgb : gapB wl (min 5000 (wl + wide % 20)) (bits % 30) = true := by simp only [gapB, isLenB, Bool.and_eq_true, decide_eq_true_eq]; omega
          have hg := ht.gap hok hok2 hgb
          obtain ⟨⟨q1, q2⟩, hgw⟩ : ∃ p, gapW L lo hi wl (min 5000 (wl + wide % 20)) (bits % 30) = p := ⟨_, rfl⟩
          rw [hgw] at hg
          refine Chk.mk (show InK .i64 wide from ⟨by omega, by omega⟩) (Chk.mk (show (20 : Int) ≠ 0 by decide) (Chk.mk (show InK .i64 (wl + wide.tmod 20) from ⟨by omega, by omega⟩) (Chk.mk (show InK .i64 bits from ⟨by omega, by omega⟩) (Chk.mk (show (30 : Int) ≠ 0 by decide) ?_))))
          refine Chk.mk ⟨spans_sp _ _, rfl, hl⟩ ?_
          rw [hL, t20, t30, hgw]
          refine Chk.mk (show InK .i64 wide from ⟨by omega, by omega⟩) (Chk.mk (show (20 : Int) ≠ 0 by decide) (Chk.mk (show InK .i64 (wl + wide.tmod 20) from ⟨by omega, by omega⟩) (Chk.mk (show InK .i64 bits from ⟨by omega, by omega⟩) (Chk.mk (show (30 : Int) ≠ 0 by decide) ?_))))
          refine Chk.mk ⟨spans_sp _ _, rfl, hl2⟩ ?_
          rw [hM, t20, t30, hg]
          subst hk1 hl1 hk3 hl3
          have hp8 : (0 : Int) ≤ (n : Int) ∧ (n : Int) ≤ 8 := ⟨by omega, by omega⟩
          rw [← hn] at hk2 hl2'
          have hpk : (0 : Int) ≤ ((k1 : Nat) : Int) ∧ ((k1 : Nat) : Int) < 2 ^ ((n : Int)).toNat := ⟨by omega, by have := pow_int n; simp only [Int.toNat_natCast]; omega⟩
          have hpl : (0 : Int) ≤ ((l1 : Nat) : Int) ∧ ((l1 : Nat) : Int) < 2 ^ ((n : Int)).toNat := ⟨by omega, by have := pow_int n; simp only [Int.toNat_natCast]; omega⟩
          refine Chk.mk (fun _ => show f1 < _ by omega) ?_
          refine Chk.mk (fun _ => show f3 < _ by omega) ?_
          refine Chk.mk (fun _ => ⟨hp8, hpk⟩) ?_
          refine Chk.mk (fun _ => ⟨hp8, hpl⟩) ?_
          refine Chk.mk (fun _ => show n1 < _ by omega) ?_
          refine Chk.mk (fun _ => show n4 < _ by omega) ?_
          refine Br.mk (fun h => ?_) (fun h => ?_)
          · exfalso
            revert h
            simp
            omega
          clear h
          obtain ⟨N, hN⟩ : ∃ N, 2 ^ L.length = N := ⟨_, rfl⟩
          have hpi := pow_int L.length
          have h64 : 2 ^ L.length ≤ 256 := Nat.pow_le_pow_right (n := 2) (by decide) hlen
          have hN0 := Nat.pow_pos (a := 2) (n := L.length) (by decide)
          rw [hN] at hpi h64 hN0
          refine Chk.mk (show InK .i64 bits from ⟨by omega, by omega⟩) ?_
          refine Chk.mk ⟨spans_sp _ _, rfl, hl⟩ ?_
          rw [hL, ← hpi]
          refine Chk.mk ⟨by omega, by omega, ⟨by omega, by omega⟩, by omega, by omega⟩ ?_
          have hos : bits.toNat &&& ((N : Int) - 1).toNat < N := by
            have := Nat.and_le_right (n := bits.toNat) (m := ((N : Int) - 1).toNat)
            omega
          refine Br.mk (fun h => ?_) (fun h => ?_)
          · generalize bits.toNat &&& ((N : Int) - 1).toNat = o at *
            have ho0 : 0 < o := by
              have h : decide ((0 : Int) < ((o : Nat) : Int)) = true := h
              have := of_decide_eq_true h
              omega
            obtain ⟨e1, e2, e3⟩ := ht.long hok hok2 ho0 (by omega)
            obtain ⟨⟨A, B⟩, hAB⟩ : ∃ p, longV L lo hi ((o : Nat) : Int) = p := ⟨_, rfl⟩
            rw [hAB] at e3
            have hrv : revB ((n : Int)).toNat ((o : Nat) : Int).toNat = revB L.length o := by simp [hn]
            refine Chk.mk ⟨spans_sp _ _, rfl, hl⟩ ?_
            rw [hL, hAB, e1]
            refine drawn_ok (g.ok _ _ _) fol [0,0,0,6,15,31,63,63,0,383,1023] [(9, 41)] 11 (by kernel_rfl) ?_
            refine Chk.mk ⟨hp8, ⟨by omega, by have := pow_int n; simp only [Int.toNat_natCast]; rw [hn]; omega⟩⟩ ?_
            refine Chk.mk ⟨spans_sp _ _, rfl, hl2⟩ ?_
            rw [hM, hrv, e3, e2]
            refine Br.mk (fun h => ?_) (fun h => ?_)
            · exfalso
              revert h
              simp
            · clear h
              refine loop_ok (g.ok _ _ _) (fun i : {i : Nat // i ≤ n} => ⟨[(4, ⟨[], .sp 1 0⟩), (8, ⟨[], .sb false⟩), (13, ⟨[], .sl 6⟩), (288, ⟨[], .si .i64 n⟩), (289, ⟨[], .si .i64 i.1⟩)], [],
                  [(6, .vec 24 2 n (fun j => spanC (sp j))), (1, .cells 26 [.sl 0, .si .i64 lo, .si .i64 hi]), (0, .ro 2 n fun i => spanC (sp i))], 7, []⟩)
                  (fun i => n - i.1) (fun _ j hj => hG j (by have : 7 ≤ j := hj; omega)) ⟨0, Nat.zero_le _⟩ ?_ ?_
              · refine ⟨?_, ?_, rfl, rfl, rfl⟩
                · repeat' (first | exact trivial | exact rfl | refine And.intro ?_ ?_)
                · repeat' (first | exact trivial | exact rfl | (intro i hi; exact rfl) | refine And.intro ?_ ?_)
              · rintro ⟨i, hle⟩
                refine Br.mk (fun h => ?_) (fun h => ?_)
                · replace h : (i : Int) < (n : Int) := of_decide_eq_true h
                  have hix : (0 : Int) ≤ (i : Int) ∧ (i : Int) < (n : Int) := ⟨by omega, h⟩
                  refine drawn_ok (g.ok _ _ _) fol [0,0,3,7,0,16,0,112,240,511] [] 10 (by kernel_rfl) ?_
                  refine Chk.mk hix (Chk.mk hix ?_)
                  refine Br.mk (fun h => ?_) (fun h => ?_)
                  · exfalso
                    revert h
                    simp
                  · refine Chk.mk (show InK .i64 ((i : Int) + 1) from ⟨by omega, by omega⟩) ⟨⟨i + 1, by omega⟩, ?_, (by show n - (i + 1) < n - i; omega)⟩
                    refine ⟨?_, ?_, rfl, rfl, rfl⟩
                    · repeat' (first | exact trivial | exact rfl | refine And.intro ?_ ?_)
                    · repeat' (first | exact trivial | exact rfl | (intro i hi; exact rfl) | refine And.intro ?_ ?_)
                · exact hR _ _ rfl rfl
          · clear h
            refine loop_ok (g.ok _ _ _) (fun i : {i : Nat // i ≤ n} => ⟨[(4, ⟨[], .sp 1 0⟩), (8, ⟨[], .sb false⟩), (13, ⟨[], .sl 6⟩), (288, ⟨[], .si .i64 n⟩), (289, ⟨[], .si .i64 i.1⟩)], [],
                [(6, .vec 24 2 n (fun j => spanC (sp j))), (1, .cells 26 [.sl 0, .si .i64 lo, .si .i64 hi]), (0, .ro 2 n fun i => spanC (sp i))], 7, []⟩)
                (fun i => n - i.1) (fun _ j hj => hG j (by have : 7 ≤ j := hj; omega)) ⟨0, Nat.zero_le _⟩ ?_ ?_
            · refine ⟨?_, ?_, rfl, rfl, rfl⟩
              · repeat' (first | exact trivial | exact rfl | refine And.intro ?_ ?_)
              · repeat' (first | exact trivial | exact rfl | (intro i hi; exact rfl) | refine And.intro ?_ ?_)
            · rintro ⟨i, hle⟩
              refine Br.mk (fun h => ?_) (fun h => ?_)
              · replace h : (i : Int) < (n : Int) := of_decide_eq_true h
                have hix : (0 : Int) ≤ (i : Int) ∧ (i : Int) < (n : Int) := ⟨by omega, h⟩
                refine drawn_ok (g.ok _ _ _) fol [0,0,3,7,0,16,0,112,240,511] [] 10 (by kernel_rfl) ?_
                refine Chk.mk hix (Chk.mk hix ?_)
                refine Br.mk (fun h => ?_) (fun h => ?_)
                · exfalso
                  revert h
                  simp
                · refine Chk.mk (show InK .i64 ((i : Int) + 1) from ⟨by omega, by omega⟩) ⟨⟨i + 1, by omega⟩, ?_, (by show n - (i + 1) < n - i; omega)⟩
                  refine ⟨?_, ?_, rfl, rfl, rfl⟩
                  · repeat' (first | exact trivial | exact rfl | refine And.intro ?_ ?_)
                  · repeat' (first | exact trivial | exact rfl | (intro i hi; exact rfl) | refine And.intro ?_ ?_)
              · exact hR _ _ rfl rfl
  · cases hk
end Go.X.S
end
