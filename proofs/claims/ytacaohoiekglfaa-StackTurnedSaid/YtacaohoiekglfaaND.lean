/- The walks of five statements on the package stack, without the document's answer. -/
import Derived.Test.YtacaohoiekglfaaNB

section
set_option linter.unusedVariables false
set_option linter.unusedSimpArgs false
set_option linter.unusedSectionVars false
/- Stack: fine, every, wanted, off. -/
set_option linter.unusedVariables false
set_option linter.unusedSimpArgs false
set_option linter.unusedSectionVars false
set_option maxRecDepth 10000
set_option maxHeartbeats 1000000
namespace Go.X.S
open Go Go.Proofs Go.X

def fineB (L : List Span) (lo hi : Int) : Bool := !decide ((40 : Int) < L.length) && setOk L lo hi
def c29 : Ct := stCt fun L lo hi r => match r with
  | [] => some (none, .sb (fineB L lo hi))
  | _ => none
theorem k29 {l : List (Nat × Ct)} (g0 : Good P T l) : COk P 29 c29 := by
  have g := g13 (g34 g0)
  refine cok (C := tabC _) g.ok Try.func29 (c := code Try.f29) rfl fun fr args H out h hp => stWalk h hp fun n sp lo hi r p v Rv Rp hk hp hR => ?_
  split at hk
  · cases hk
    refine ⟨Nat.le_of_ble_eq_true rfl, fun G hG => ?_⟩
    refine Chk.mk ⟨spans_sp _ _, rfl, trivial⟩ ?_
    refine Chk.mk (fun _ => ⟨spans_sp _ _, rfl, trivial⟩) ?_
    exact hR _ _ rfl rfl
  · cases hk
theorem g29 {l : List (Nat × Ct)} (g : Good P T l) : Good P T ((29, c29) :: l) := g.add (k29 g) (stCt_mono _) (body_of Try.func29 (c := code Try.f29) rfl (by decide))

def c30 : Ct := stCt fun L lo hi r => match r with
  | [] => some (some (L.length ≤ 40), .si .i64 (2 ^ L.length - 1))
  | _ => none
theorem k30 {l : List (Nat × Ct)} (g0 : Good P T l) : COk P 30 c30 := by
  refine cok (C := tabC _) g0.ok Try.func30 (c := code Try.f30) rfl fun fr args H out h hp => stWalk h hp fun n sp lo hi r p v Rv Rp hk hp hR => ?_
  split at hk
  · cases hk
    have hp : ((List.range n).map sp).length ≤ 40 := hp
    have hp : n ≤ 40 := by simpa using hp
    have hpw := pow_le (n := n) (by omega)
    have e : (1 : Int) * 2 ^ n = 2 ^ n := Int.one_mul _
    refine ⟨Nat.le_of_ble_eq_true rfl, fun G hG => ?_⟩
    refine Chk.mk (show _ ∧ _ ∧ _ ∧ _ from ⟨?_, ?_, ?_⟩) (Chk.mk (show _ ∧ _ from ?_) (hR _ _ ?_ rfl))
    · show (0 : Int) ≤ (n : Int)
      omega
    · show n ≤ 64
      omega
    · show _ ≤ (1 : Int) * 2 ^ n ∧ (1 : Int) * 2 ^ n ≤ _
      omega
    · show _ ≤ (1 : Int) * 2 ^ n - 1 ∧ (1 : Int) * 2 ^ n - 1 ≤ _
      omega
    · show (_ ∧ (1 : Int) * 2 ^ n - 1 = _)
      refine ⟨rfl, ?_⟩
      rw [e]; simp
  · cases hk
theorem g30 {l : List (Nat × Ct)} (g : Good P T l) : Good P T ((30, c30) :: l) := g.add (k30 g) (stCt_mono _) (body_of Try.func30 (c := code Try.f30) rfl (by decide))

def c33 : Ct := plainCt fun
  | [.si .u16 x, .si .u8 y] => some ⟨some ((0 ≤ x ∧ x < 65536) ∧ 0 ≤ y ∧ y < 256), none, .agg [.si .i64 (x % 5001), .si .i64 (min 5000 (x % 5001 + y))], []⟩
  | _ => none
theorem k33 {l : List (Nat × Ct)} (g0 : Good P T l) : COk P 33 c33 := by
  have g := g35 g0
  refine cok (C := tabC _) g.ok Try.func33 (c := code Try.f33) rfl fun fr args H out h hp => ?_
  simp only [c33, plainCt] at h
  split at h
  · rename_i x y
    cases h
    obtain ⟨hx, hy⟩ : (0 ≤ x ∧ x < 65536) ∧ 0 ≤ y ∧ y < 256 := hp
    have e : x.tmod 5001 = x % 5001 := Int.tmod_eq_emod_of_nonneg (by omega)
    refine walk_plain rfl (Nat.le_of_ble_eq_true rfl) fun G hG => ?_
    refine Chk.mk (show _ ∧ _ from ?_) (Chk.mk (show (5001 : Int) ≠ 0 by decide) (Chk.mk (show _ ∧ _ from ?_) (Chk.mk (show _ ∧ _ from ?_) ⟨.inl rfl, ?_⟩)))
    · show _ ≤ x ∧ x ≤ _
      omega
    · show _ ≤ y ∧ y ≤ _
      omega
    · show _ ≤ x.tmod 5001 + y ∧ x.tmod 5001 + y ≤ _
      omega
    · exact end_plain ⟨⟨rfl, e⟩, ⟨rfl, by rw [e]⟩, trivial⟩ rfl rfl
  · cases h
theorem g33 {l : List (Nat × Ct)} (g : Good P T l) : Good P T ((33, c33) :: l) := g.add (k33 g) (plainCt_mono _) (body_of Try.func33 (c := code Try.f33) rfl (by decide))

/-- How far a stack can be off a length, by how long it is told to be; below 0: it is none. -/
def offW (L : List Span) (lo hi m len : Int) : Int := if errV L lo hi (isSetB L.length m) = 0 then offV (ofL L lo hi m.toNat) len else -1
def c37 : Ct := stCt fun L lo hi r => match r with
  | [.si .i64 m, .si .i64 len] => some (some (L.length ≤ 40 ∧ 0 ≤ len ∧ len ≤ 100000), .si .i64 (offW L lo hi m len))
  | _ => none
theorem k37 {l : List (Nat × Ct)} (g0 : Good P T l) : COk P 37 c37 := by
  have g := g15 g0
  refine cok (C := tabC _) g.ok Try.func37 (c := code Try.f37) rfl fun fr args H out h hp => stWalk h hp fun n sp lo hi r p v Rv Rp hk hp hR => ?_
  split at hk
  · rename_i m len
    cases hk
    obtain ⟨hp, h0, h1⟩ : ((List.range n).map sp).length ≤ 40 ∧ 0 ≤ len ∧ len ≤ 100000 := hp
    refine ⟨Nat.le_of_ble_eq_true rfl, fun G hG => ?_⟩
    refine Chk.mk ⟨spans_sp _ _, rfl, hp⟩ ?_
    have hL : (spanL n fun i => spanC (sp i)) = (List.range n).map sp := rfl
    rw [hL]
    generalize hE : errV ((List.range n).map sp) lo hi (isSetB ((List.range n).map sp).length m) = E
    obtain ⟨⟨a, b⟩, hlv⟩ : ∃ p, longV ((List.range n).map sp) lo hi m = p := ⟨_, rfl⟩
    rw [hlv]
    refine Br.mk (fun h => ?_) (fun h => ?_)
    · have h : (!decide (E = 0)) = true := h
      have h : ¬ E = 0 := by simpa using h
      refine hR _ _ ⟨rfl, ?_⟩ rfl
      rw [offW, hE, if_neg h]
    · have h : (!decide (E = 0)) = false := h
      have h : E = 0 := by simpa using h
      rw [longV, hE, if_pos h] at hlv
      have hpre := preOf_ok (hE.trans h)
      have hx := ofS_le (sp := sp) (lo := lo) (hi := hi) (set := m.toNat) (n := n) (by simpa using hp) (by have := hpre.2.2.1; have := hpre.2.1; omega) hpre.2.2.2.1 hpre.2.2.2.2.1 (fun i hi => hpre.2.2.2.2.2 _ (List.mem_map.2 ⟨i, List.mem_range.2 hi, rfl⟩))
      rw [← ofL_map, hlv] at hx
      refine Chk.mk (show _ ∧ _ from ?_) (Chk.mk (show _ ∧ _ from ?_) (hR _ _ ⟨rfl, ?_⟩ rfl))
      · show _ ≤ len - a ∧ len - a ≤ _
        omega
      · show _ ≤ b - len ∧ b - len ≤ _
        omega
      · rw [offW, hE, if_pos h, hlv]
        rfl
  · cases hk
theorem g37 {l : List (Nat × Ct)} (g : Good P T l) : Good P T ((37, c37) :: l) := g.add (k37 g) (stCt_mono _) (body_of Try.func37 (c := code Try.f37) rfl (by decide))
end Go.X.S
end

section
set_option linter.unusedVariables false
set_option linter.unusedSimpArgs false
set_option linter.unusedSectionVars false
/- Stack: what the values say, plainly. -/
set_option linter.unusedVariables false
set_option linter.unusedSimpArgs false
set_option linter.unusedSectionVars false
set_option maxRecDepth 10000
set_option maxHeartbeats 1000000
namespace Go.X.S
open Go Go.Proofs Go.X

section
variable {L : List Span} {lo hi a b : Int}
theorem err_ok {q : Bool} (h : setOk L lo hi = true) (hq : q = true) : errV L lo hi q = 0 := by simp [errV, h, hq]
theorem fine_ok (h : fineB L lo hi = true) : setOk L lo hi = true := by
  simp only [fineB, Bool.and_eq_true] at h; exact h.2
theorem want_ok {x y : Int} (h0 : 0 ≤ x) (hy : 0 ≤ y) : isWantB (x % 5001) (min 5000 (x % 5001 + y)) = true := by
  simp only [isWantB, Bool.and_eq_true, decide_eq_true_eq]; omega
theorem want_le (hw : isWantB a b = true) : 0 ≤ a ∧ a ≤ b ∧ b ≤ 5000 := by
  simp only [isWantB, Bool.and_eq_true, decide_eq_true_eq] at hw; omega
theorem pow_int (n : Nat) : ((2 ^ n : Nat) : Int) = (2 : Int) ^ n := by push_cast; rfl
theorem isSet_ok {n : Nat} {m : Int} : isSetB n m = true ↔ 0 < m.toNat ∧ m.toNat < 2 ^ n ∧ 0 ≤ m := by
  have := pow_int n
  simp only [isSetB, Bool.and_eq_true, decide_eq_true_eq]
  omega

theorem few_spec (h : setOk L lo hi = true) (hw : isWantB a b = true) :
    (∃ x : Nat, fewW L lo hi a b = ((x : Int), 0) ∧ 0 < x ∧ x < 2 ^ L.length ∧ qIn L lo hi (a, b) x = true ∧ ∀ y, 0 < y → y < 2 ^ L.length → qIn L lo hi (a, b) y = true → ¬ lessN y x = true) ∨
    (fewW L lo hi a b = (0, 4) ∧ ∀ y, 0 < y → y < 2 ^ L.length → qIn L lo hi (a, b) y = false) := by
  have he := err_ok h hw
  cases hf : foundX L.length (qIn L lo hi (a, b)) with
  | none =>
    right
    refine ⟨by simp only [fewW, he, hf, if_true], fun y h0 hy => ?_⟩
    have hn := J_none.1 hf
    cases hq : qIn L lo hi (a, b) y with
    | false => rfl
    | true =>
      have : one y ∈ (stacksW L.length (qIn L lo hi (a, b))).map one := List.mem_map.2 ⟨y, List.mem_filter.2 ⟨List.mem_range.2 hy, by simp [h0, hq]⟩, rfl⟩
      rw [hn] at this; cases this
  | some f =>
    left
    obtain ⟨h1, _, h3⟩ := J_least _ none f hf
    rcases h1 with ⟨g, hg, _⟩ | ⟨x, hx, e⟩
    · cases hg
    · obtain ⟨y, hy, rfl⟩ := List.mem_map.1 hx
      have e : y = f.least := e
      obtain ⟨hy1, hy2⟩ := List.mem_filter.1 hy
      simp only [Bool.and_eq_true, decide_eq_true_eq] at hy2
      refine ⟨f.least, by simp only [fewW, he, hf, if_true], e ▸ hy2.1, e ▸ List.mem_range.1 hy1, e ▸ hy2.2, fun z hz0 hz hq => ?_⟩
      exact h3 (one z) (List.mem_map.2 ⟨z, List.mem_filter.2 ⟨List.mem_range.2 hz, by simp [hz0, hq]⟩, rfl⟩)

theorem need_spec (h : setOk L lo hi = true) (hw : isWantB a b = true) :
    (∃ f : Fd, needW L lo hi a b = ((f.each : Int), (f.some : Int), 0) ∧ f.each < 2 ^ L.length ∧ f.some < 2 ^ L.length ∧ (∃ y, 0 < y ∧ y < 2 ^ L.length ∧ qIn L lo hi (a, b) y = true) ∧
      (∀ i, f.each.testBit i = true ↔ ∀ y, 0 < y → y < 2 ^ L.length → qIn L lo hi (a, b) y = true → y.testBit i = true) ∧
      (∀ i, f.some.testBit i = true ↔ ∃ y, 0 < y ∧ y < 2 ^ L.length ∧ qIn L lo hi (a, b) y = true ∧ y.testBit i = true)) ∨
    (needW L lo hi a b = (0, 0, 4) ∧ ∀ y, 0 < y → y < 2 ^ L.length → qIn L lo hi (a, b) y = false) := by
  have he := err_ok h hw
  have hm : ∀ y, y ∈ stacksW L.length (qIn L lo hi (a, b)) ↔ 0 < y ∧ y < 2 ^ L.length ∧ qIn L lo hi (a, b) y = true := by
    intro y
    simp only [stacksW, List.mem_filter, List.mem_range, Bool.and_eq_true, decide_eq_true_eq]
    constructor
    · rintro ⟨h1, h2, h3⟩; exact ⟨h2, h1, h3⟩
    · rintro ⟨h1, h2, h3⟩; exact ⟨h2, h1, h3⟩
  cases hf : foundX L.length (qIn L lo hi (a, b)) with
  | none =>
    right
    refine ⟨by simp only [needW, he, hf, if_true], fun y h0 hy => ?_⟩
    have hn := J_none.1 hf
    cases hq : qIn L lo hi (a, b) y with
    | false => rfl
    | true =>
      have : one y ∈ (stacksW L.length (qIn L lo hi (a, b))).map one := List.mem_map.2 ⟨y, (hm y).2 ⟨h0, hy, hq⟩, rfl⟩
      rw [hn] at this; cases this
  | some f =>
    left
    obtain ⟨h1, h2⟩ := J_bits _ none f hf
    have hlt := foundX_lt hf
    refine ⟨f, by simp only [needW, he, hf, if_true], hlt.2.1, hlt.2.2, ?_, fun i => ?_, fun i => ?_⟩
    · cases hs : stacksW L.length (qIn L lo hi (a, b)) with
      | nil =>
        rw [foundX, hs] at hf; cases hf
      | cons y r => exact ⟨y, (hm y).1 (by rw [hs]; exact List.mem_cons_self)⟩
    · rw [h1]
      constructor
      · rintro ⟨_, h⟩ y h0 hy hq; exact h y ((hm y).2 ⟨h0, hy, hq⟩)
      · intro h; exact ⟨(fun g hg => by cases hg), fun y hy => let ⟨p1, p2, p3⟩ := (hm y).1 hy; h y p1 p2 p3⟩
    · rw [h2]
      constructor
      · rintro (⟨g, hg, _⟩ | ⟨y, hy, hb⟩)
        · cases hg
        · obtain ⟨p1, p2, p3⟩ := (hm y).1 hy; exact ⟨y, p1, p2, p3, hb⟩
      · rintro ⟨y, p1, p2, p3, hb⟩; exact .inr ⟨y, (hm y).2 ⟨p1, p2, p3⟩, hb⟩

theorem cnt_spec (h : setOk L lo hi = true) (hw : isWantB a b = true) : cntW L lo hi a b = (((surI L lo hi (a, b) (2 ^ L.length)).length : Int), ((meI L lo hi (a, b) (2 ^ L.length)).length : Int), 0) := by
  simp only [cntW, err_ok h hw, if_true, cnt_sur, cnt_me]
theorem in_me (h : setOk L lo hi = true) {x : Nat} (h0 : 0 < x) (hq : qIn L lo hi (a, b) x = true) : qMe L lo hi (a, b) x = true := by
  have hle := ofL_le h h0
  simp only [qIn, qMe, insideB, meetsB, Bool.and_eq_true, decide_eq_true_eq] at hq ⊢
  omega
theorem sur_me (h : setOk L lo hi = true) (s : Nat) : (surI L lo hi (a, b) s).length ≤ (meI L lo hi (a, b) s).length := by
  have e : surI L lo hi (a, b) s = (meI L lo hi (a, b) s).filter (fun x => qIn L lo hi (a, b) x) := by
    simp only [surI, meI, List.filter_filter]
    refine List.filter_congr fun x hx => ?_
    cases hq : qIn L lo hi (a, b) x with
    | false => simp
    | true =>
      by_cases h0 : 0 < x
      · rw [in_me h h0 hq]; simp [h0]
      · simp [h0]
  rw [e]; exact List.length_filter_le _ _
theorem me_lt (s : Nat) (hs : 0 < s) : (meI L lo hi (a, b) s).length ≤ s - 1 := by
  obtain ⟨k, rfl⟩ : ∃ k, s = k + 1 := ⟨s - 1, by omega⟩
  rw [meI, List.range_succ_eq_map, List.filter_cons]
  simp only [Nat.lt_irrefl, decide_false, Bool.false_and, Bool.false_eq_true, if_false]
  have := List.length_filter_le (fun x => decide (0 < x) && qMe L lo hi (a, b) x) ((List.range k).map Nat.succ)
  simpa using this
theorem len_pos {l : List Nat} {p : Nat → Bool} {s : Nat} : 0 < ((List.range s).filter fun x => decide (0 < x) && p x).length ↔ ∃ y, 0 < y ∧ y < s ∧ p y = true := by
  rw [List.length_pos_iff_exists_mem]
  simp only [List.mem_filter, List.mem_range, Bool.and_eq_true, decide_eq_true_eq]
  constructor
  · rintro ⟨y, h1, h2, h3⟩; exact ⟨y, h2, h1, h3⟩
  · rintro ⟨y, h1, h2, h3⟩; exact ⟨y, h2, h1, h3⟩
theorem sur_pos : 0 < (surI L lo hi (a, b) (2 ^ L.length)).length ↔ ∃ y, 0 < y ∧ y < 2 ^ L.length ∧ qIn L lo hi (a, b) y = true := len_pos (l := [])
theorem me_pos : 0 < (meI L lo hi (a, b) (2 ^ L.length)).length ↔ ∃ y, 0 < y ∧ y < 2 ^ L.length ∧ qMe L lo hi (a, b) y = true := len_pos (l := [])

theorem right_spec (h : setOk L lo hi = true) (hw : isWantB a b = true) {m : Nat} (h0 : 0 < m) (hm : m < 2 ^ L.length) :
    errV L lo hi (isSetB L.length (m : Int) && isWantB a b) = 0 ∧ (rightW L lo hi (m : Int) a b = 2 ↔ qIn L lo hi (a, b) m = true) ∧ (rightW L lo hi (m : Int) a b = 0 ↔ qMe L lo hi (a, b) m = false) ∧ 0 ≤ rightW L lo hi (m : Int) a b ∧ rightW L lo hi (m : Int) a b ≤ 2 := by
  have hs : isSetB L.length (m : Int) = true := isSet_ok.2 ⟨by simpa using h0, by simpa using hm, by omega⟩
  have he : errV L lo hi (isSetB L.length (m : Int) && isWantB a b) = 0 := err_ok h (by rw [hs, hw]; rfl)
  have e : rightW L lo hi (m : Int) a b = rightV (ofL L lo hi m) (a, b) := by rw [rightW, he, if_pos rfl]; rfl
  have h1 := right_in L lo hi (a, b) m
  have h2 := right_me L lo hi (a, b) m (ofL_le h h0) (want_le hw).2.1
  refine ⟨he, ?_, ?_, ?_⟩
  · rw [e, ← h1]; simp
  · rw [e, ← h2]; simp
  · rw [e]; unfold rightV; split
    · omega
    · split <;> omega
end
end Go.X.S
end

section
set_option linter.unusedVariables false
set_option linter.unusedSimpArgs false
set_option linter.unusedSectionVars false
/- Stack: StackFewest answers true. -/
set_option linter.unusedVariables false
set_option linter.unusedSimpArgs false
set_option linter.unusedSectionVars false
set_option maxRecDepth 10000
set_option maxHeartbeats 1000000
namespace Go.X.S
open Go Go.Proofs Go.X

def c7 : Ct := stCt fun L _ _ r => match r with
  | [.si .u16 x, .si .u8 y, .si .u8 z] => some (some ((0 ≤ x ∧ x < 65536) ∧ (0 ≤ y ∧ y < 256) ∧ 0 ≤ z ∧ z < 256), .sb true)
  | _ => none
theorem k7 {l : List (Nat × Ct)} (g0 : Good P T l) : COk P 7 c7 := by
  have g := g14 (g29 (g33 (g21 (g19 (g30 (g17 (g36 g0)))))))
  refine cok (C := tabC _) g.ok Try.func7 (c := code Try.f7) rfl fun fr args H out h hp => stWalk h hp fun n sp lo hi r p v Rv Rp hk hp hR => ?_
  split at hk
  · rename_i x y z
    cases hk
    obtain ⟨hx, hy, hz⟩ : (0 ≤ x ∧ x < 65536) ∧ (0 ≤ y ∧ y < 256) ∧ 0 ≤ z ∧ z < 256 := hp
    refine ⟨Nat.le_of_ble_eq_true rfl, fun G hG => ?_⟩
    refine Chk.mk ⟨spans_sp _ _, rfl, trivial⟩ ?_
    refine Br.mk (fun h => ?_) (fun h => ?_)
    · exact hR _ _ rfl rfl
    · have h : (!fineB ((List.range n).map sp) lo hi) = false := h
      have hok : setOk ((List.range n).map sp) lo hi = true := fine_ok (by simpa using h)
      have hw := want_ok (x := x) (y := y) (by omega) (by omega)
      have hlen := (setOk_len hok).1
      refine Chk.mk ⟨hx, hy⟩ ?_
      generalize x % 5001 = a at hw
      generalize min 5000 (a + y) = b at hw
      obtain ⟨L, hL⟩ : ∃ L, (spanL n fun i => spanC (sp i)) = L := ⟨_, rfl⟩
      have hL' : (List.range n).map sp = L := hL
      rw [hL'] at hok hlen
      have hl : (spanL n fun i => spanC (sp i)).length ≤ 40 := by rw [hL]; omega
      have hcnt := cnt_spec hok hw
      have hfew := few_spec hok hw
      have hsm := sur_me (a := a) (b := b) hok (2 ^ L.length)
      have hml := me_lt (L := L) (lo := lo) (hi := hi) (a := a) (b := b) (2 ^ L.length) (Nat.pow_pos (by decide))
      have hsp := sur_pos (L := L) (lo := lo) (hi := hi) (a := a) (b := b)
      have hmp := me_pos (L := L) (lo := lo) (hi := hi) (a := a) (b := b)
      have hrs := fun m h0 hm => right_spec (L := L) (lo := lo) (hi := hi) (m := m) hok hw h0 hm
      have hpi := pow_int L.length
      have h64 : 2 ^ L.length ≤ 256 := Nat.pow_le_pow_right (n := 2) (by decide) hlen
      have hN0 := Nat.pow_pos (a := 2) (n := L.length) (by decide)
      generalize 2 ^ L.length = N at *
      refine Chk.mk ⟨spans_sp _ _, rfl, hl⟩ ?_
      refine Chk.mk ⟨spans_sp _ _, rfl, hl⟩ ?_
      rw [hL, hcnt]
      generalize (surI L lo hi (a, b) N).length = S at *
      generalize (meI L lo hi (a, b) N).length = M at *
      have hos : z.toNat &&& ((N : Int) - 1).toNat < N := by
        have := Nat.and_le_right (n := z.toNat) (m := ((N : Int) - 1).toNat)
        omega
      rcases hfew with ⟨X, hf, hX0, hX1, hXq, hXmin⟩ | ⟨hf, hno⟩
      · rw [hf]
        have hS : 0 < S := hsp.2 ⟨X, hX0, hX1, hXq⟩
        refine Chk.mk (fun _ => ⟨spans_sp _ _, rfl, hl⟩) ?_
        refine Br.mk (fun h => ?_) (fun h => ?_)
        · exfalso
          revert h
          rw [hL, ← hpi]
          simp
          omega
        · refine Chk.mk ⟨by omega, by omega⟩ ?_
          refine Chk.mk ⟨spans_sp _ _, rfl, hl⟩ ?_
          rw [hL, ← hpi]
          refine Chk.mk ⟨by omega, by omega, ⟨by omega, by omega⟩, by omega, by omega⟩ ?_
          generalize z.toNat &&& ((N : Int) - 1).toNat = o at hos
          refine Br.mk (fun h => ?_) (fun h => ?_)
          · refine Chk.mk ⟨spans_sp _ _, rfl, hl⟩ ?_
            rw [hL]
            have h : decide ((0 : Int) < (o : Int)) = true := h
            have ho0 : 0 < o := by have := of_decide_eq_true h; omega
            obtain ⟨r1, r2, r3, r4, r5⟩ := hrs o ho0 hos
            rw [r1]
            generalize rightW L lo hi (o : Int) a b = R at r2 r3 r4 r5
            refine Br.mk (fun h => ?_) (fun h => ?_)
            · exfalso
              revert h
              simp
              have hmo : qIn L lo hi (a, b) o = true → 0 < M := fun hq => by omega
              have hme : qMe L lo hi (a, b) o = true → 0 < M := fun hq => hmp.2 ⟨o, ho0, hos, hq⟩
              cases hq : qMe L lo hi (a, b) o with
              | true => have := hme hq; omega
              | false => have := r3.2 hq; omega
            · refine Chk.mk (fun _ => show (o : Int) < _ by omega) ?_
              refine Chk.mk (fun _ => show max 0 (X : Int) < _ by omega) ?_
              refine Chk.mk (fun _ _ => show (o : Int) < _ by omega) ?_
              refine Chk.mk (fun _ _ => show max 0 (X : Int) < _ by omega) ?_
              refine Br.mk (fun h => ?_) (fun h => ?_)
              · exfalso
                revert h
                have hmin := hXmin o ho0 hos
                rw [lessN_iff] at hmin
                have hm0 : max 0 (X : Int) = X := by omega
                simp [hm0]
                intro hR2
                have := hmin (r2.1 hR2)
                omega
              · refine Br.mk (fun h => ?_) (fun h => ?_)
                · exact absurd h (by simp)
                · refine Chk.mk ⟨spans_sp _ _, rfl, hl⟩ ?_
                  rw [hL]
                  obtain ⟨r1, r2, r3, r4, r5⟩ := hrs X hX0 hX1
                  rw [r1, r2.2 hXq]
                  exact hR _ _ rfl rfl
          · refine Br.mk (fun h => ?_) (fun h => ?_)
            · exact absurd h (by simp)
            · refine Chk.mk ⟨spans_sp _ _, rfl, hl⟩ ?_
              rw [hL]
              obtain ⟨r1, r2, r3, r4, r5⟩ := hrs X hX0 hX1
              rw [r1, r2.2 hXq]
              exact hR _ _ rfl rfl
      · rw [hf]
        have hS : ¬ 0 < S := fun h => by
          obtain ⟨y, h1, h2, h3⟩ := hsp.1 h
          rw [hno y h1 h2] at h3; cases h3
        refine Chk.mk (fun _ => ⟨spans_sp _ _, rfl, hl⟩) ?_
        refine Br.mk (fun h => ?_) (fun h => ?_)
        · exfalso
          revert h
          rw [hL, ← hpi]
          simp
          omega
        · refine Chk.mk ⟨by omega, by omega⟩ ?_
          refine Chk.mk ⟨spans_sp _ _, rfl, hl⟩ ?_
          rw [hL, ← hpi]
          refine Chk.mk ⟨by omega, by omega, ⟨by omega, by omega⟩, by omega, by omega⟩ ?_
          generalize z.toNat &&& ((N : Int) - 1).toNat = o at hos
          refine Br.mk (fun h => ?_) (fun h => ?_)
          · refine Chk.mk ⟨spans_sp _ _, rfl, hl⟩ ?_
            rw [hL]
            have h : decide ((0 : Int) < (o : Int)) = true := h
            have ho0 : 0 < o := by have := of_decide_eq_true h; omega
            obtain ⟨r1, r2, r3, r4, r5⟩ := hrs o ho0 hos
            rw [r1]
            have hqo := hno o ho0 hos
            rw [hqo] at r2
            generalize rightW L lo hi (o : Int) a b = R at r2 r3 r4 r5
            have hR2 : ¬ R = 2 := fun h => by have := r2.1 h; cases this
            refine Br.mk (fun h => ?_) (fun h => ?_)
            · exfalso
              revert h
              simp
              have hme : qMe L lo hi (a, b) o = true → 0 < M := fun hq => hmp.2 ⟨o, ho0, hos, hq⟩
              cases hq : qMe L lo hi (a, b) o with
              | true => have := hme hq; omega
              | false => have := r3.2 hq; omega
            · refine Chk.mk (fun _ => show (o : Int) < _ by omega) ?_
              refine Chk.mk (fun _ => show max 0 (0 : Int) < _ by omega) ?_
              refine Chk.mk (fun _ _ => show (o : Int) < _ by omega) ?_
              refine Chk.mk (fun _ _ => show max 0 (0 : Int) < _ by omega) ?_
              refine Br.mk (fun h => ?_) (fun h => ?_)
              · exfalso
                revert h
                simp
                omega
              · refine Br.mk (fun h => ?_) (fun h => ?_)
                · exact hR _ _ rfl rfl
                · exact absurd h (by simp)
          · refine Br.mk (fun h => ?_) (fun h => ?_)
            · exact hR _ _ rfl rfl
            · exact absurd h (by simp)
  · cases hk
end Go.X.S
end

section
set_option linter.unusedVariables false
set_option linter.unusedSimpArgs false
set_option linter.unusedSectionVars false
/- Stack: StackNear answers true. -/
set_option linter.unusedVariables false
set_option linter.unusedSimpArgs false
set_option linter.unusedSectionVars false
set_option maxRecDepth 10000
set_option maxHeartbeats 1000000
namespace Go.X.S
open Go Go.Proofs Go.X

section
variable {L : List Span} {lo hi len : Int}
theorem near_spec (h : setOk L lo hi = true) (hl : isLenB len = true) :
    (∃ X : Nat, nrW L lo hi len = ((X : Int), offV (ofL L lo hi X) len, 0) ∧ 0 < X ∧ X < 2 ^ L.length ∧ 0 < L.length ∧ ∀ y, 0 < y → y < 2 ^ L.length → ¬ ltC (offV (ofL L lo hi y) len, y) (offV (ofL L lo hi X) len, X) = true) ∨
    (nrW L lo hi len = (0, 0, 4) ∧ L.length = 0) := by
  have he := err_ok h hl
  have hb := nearX_best L lo hi len
  cases hf : nearX L lo hi len with
  | none =>
    right
    rw [hf] at hb
    refine ⟨by simp only [nrW, he, hf, if_true], ?_⟩
    rcases Nat.eq_zero_or_pos L.length with h0 | h0
    · exact h0
    · exact absurd ⟨1, List.mem_range.2 (Nat.one_lt_two_pow (by omega)), by omega, rfl⟩ (hb (offV (ofL L lo hi 1) len, 1))
  | some c =>
    left
    rw [hf] at hb
    obtain ⟨⟨x, hx, h0, rfl⟩, hmin⟩ := hb
    refine ⟨x, by simp only [nrW, he, hf, if_true], h0, List.mem_range.1 hx, ?_, fun y hy0 hy => hmin _ ⟨y, List.mem_range.2 hy, hy0, rfl⟩⟩
    rcases Nat.eq_zero_or_pos L.length with h1 | h1
    · rw [h1] at hx
      have := List.mem_range.1 hx
      omega
    · exact h1
theorem off_spec (h : setOk L lo hi = true) {m : Nat} (h0 : 0 < m) (hm : m < 2 ^ L.length) : offW L lo hi (m : Int) len = offV (ofL L lo hi m) len := by
  have hs : isSetB L.length (m : Int) = true := isSet_ok.2 ⟨by simpa using h0, by simpa using hm, by omega⟩
  rw [offW, err_ok h hs, if_pos rfl]
  simp
end

def c9 : Ct := stCt fun L _ _ r => match r with
  | [.si .u16 x, .si .u8 z] => some (some ((0 ≤ x ∧ x < 65536) ∧ 0 ≤ z ∧ z < 256), .sb true)
  | _ => none
theorem k9 {l : List (Nat × Ct)} (g0 : Good P T l) : COk P 9 c9 := by
  have g := g14 (g29 (g25 (g30 (g37 (g36 g0)))))
  refine cok (C := tabC _) g.ok Try.func9 (c := code Try.f9) rfl fun fr args H out h hp => stWalk h hp fun n sp lo hi r p v Rv Rp hk hp hR => ?_
  split at hk
  · rename_i x z
    cases hk
    obtain ⟨hx, hz⟩ : (0 ≤ x ∧ x < 65536) ∧ 0 ≤ z ∧ z < 256 := hp
    refine ⟨Nat.le_of_ble_eq_true rfl, fun G hG => ?_⟩
    refine Chk.mk ⟨spans_sp _ _, rfl, trivial⟩ ?_
    refine Br.mk (fun h => ?_) (fun h => ?_)
    · exact hR _ _ rfl rfl
    · have h : (!fineB ((List.range n).map sp) lo hi) = false := h
      have hok : setOk ((List.range n).map sp) lo hi = true := fine_ok (by simpa using h)
      have hlen := (setOk_len hok).1
      obtain ⟨L, hL⟩ : ∃ L, (spanL n fun i => spanC (sp i)) = L := ⟨_, rfl⟩
      have hL' : (List.range n).map sp = L := hL
      have hn : n = L.length := by rw [← hL']; simp
      rw [hL'] at hok hlen
      have hl : (spanL n fun i => spanC (sp i)).length ≤ 40 := by rw [hL]; omega
      refine Chk.mk ⟨by omega, by omega⟩ ?_
      refine Chk.mk (show (5001 : Int) ≠ 0 by decide) ?_
      have e : x.tmod 5001 = x % 5001 := Int.tmod_eq_emod_of_nonneg (by omega)
      rw [e]
      have hlb : isLenB (x % 5001) = true := by simp only [isLenB, Bool.and_eq_true, decide_eq_true_eq]; omega
      have hl0 : 0 ≤ x % 5001 ∧ x % 5001 ≤ 100000 := by omega
      generalize x % 5001 = len at hlb hl0
      have hnear := near_spec hok hlb
      have hoff := fun m h0 hm => off_spec (L := L) (lo := lo) (hi := hi) (len := len) (m := m) hok h0 hm
      have hpi := pow_int L.length
      have h64 : 2 ^ L.length ≤ 256 := Nat.pow_le_pow_right (n := 2) (by decide) hlen
      have hN0 := Nat.pow_pos (a := 2) (n := L.length) (by decide)
      generalize 2 ^ L.length = N at *
      have hos : z.toNat &&& ((N : Int) - 1).toNat < N := by
        have := Nat.and_le_right (n := z.toNat) (m := ((N : Int) - 1).toNat)
        omega
      refine Chk.mk ⟨spans_sp _ _, rfl, hl⟩ ?_
      rw [hL]
      rcases hnear with ⟨X, hf, hX0, hX1, hn0, hXmin⟩ | ⟨hf, hn0⟩
      · rw [hf]
        refine Br.mk (fun h => ?_) (fun h => ?_)
        · exact absurd h (by simp)
        · refine Chk.mk (fun _ => ⟨spans_sp _ _, rfl, hl⟩) ?_
          refine Chk.mk (fun _ => ⟨spans_sp _ _, rfl, hl, hl0.1, hl0.2⟩) ?_
          refine Br.mk (fun h => ?_) (fun h => ?_)
          · exfalso
            revert h
            rw [hL, ← hpi]
            have := hoff X hX0 hX1
            simp [this]
            omega
          · refine Chk.mk ⟨by omega, by omega⟩ ?_
            refine Chk.mk ⟨spans_sp _ _, rfl, hl⟩ ?_
            rw [hL, ← hpi]
            refine Chk.mk ⟨by omega, by omega, ⟨by omega, by omega⟩, by omega, by omega⟩ ?_
            generalize z.toNat &&& ((N : Int) - 1).toNat = o at hos
            refine Br.mk (fun h => ?_) (fun h => ?_)
            · exact hR _ _ rfl rfl
            · have h : decide ((o : Int) = 0) = false := h
              have ho0 : 0 < o := by have := of_decide_eq_false h; omega
              refine Chk.mk ⟨spans_sp _ _, rfl, hl, hl0.1, hl0.2⟩ ?_
              rw [hL, hoff o ho0 hos]
              have hmin := hXmin o ho0 hos
              simp only [ltC, Bool.or_eq_true, Bool.and_eq_true, decide_eq_true_eq, lessN_iff] at hmin
              generalize offV (ofL L lo hi o) len = oo at hmin
              generalize offV (ofL L lo hi X) len = xx at hmin
              refine Chk.mk (fun _ _ => show (o : Int) < _ by omega) ?_
              refine Chk.mk (fun _ _ => show (X : Int) < _ by omega) ?_
              refine Chk.mk (fun _ _ _ => show (o : Int) < _ by omega) ?_
              refine Chk.mk (fun _ _ _ => show (X : Int) < _ by omega) ?_
              refine hR _ _ ?_ rfl
              show _ = true
              simp
              omega
      · rw [hf]
        refine Br.mk (fun h => ?_) (fun h => ?_)
        · refine hR _ _ ?_ rfl
          show _ = true
          simp
          omega
        · exact absurd h (by simp)
  · cases hk
end Go.X.S
end

section
set_option linter.unusedVariables false
set_option linter.unusedSimpArgs false
set_option linter.unusedSectionVars false
/- Stack: StackGap answers true. -/
set_option linter.unusedVariables false
set_option linter.unusedSimpArgs false
set_option linter.unusedSectionVars false
set_option maxRecDepth 10000
set_option maxHeartbeats 1000000
namespace Go.X.S
open Go Go.Proofs Go.X

section
variable {L : List Span} {lo hi len a b c : Int}
theorem gapS_spec (L : List Span) (lo hi c : Int) : ∀ (k : Nat) (n : Int), (∃ m, gapS L lo hi c k n = some m ∧ n ≤ m ∧ m < n + k ∧ badG L lo hi c m = true ∧ ∀ j, n ≤ j → j < m → badG L lo hi c j = false) ∨
    (gapS L lo hi c k n = none ∧ ∀ j, n ≤ j → j < n + k → badG L lo hi c j = false)
  | 0, n => .inr ⟨rfl, fun j h1 h2 => by omega⟩
  | k + 1, n => by
    simp only [gapS]
    by_cases hb : badG L lo hi c n = true
    · rw [if_pos hb]
      exact .inl ⟨n, rfl, Int.le_refl _, by omega, hb, fun j h1 h2 => by omega⟩
    · rw [if_neg hb]
      have hb : badG L lo hi c n = false := by simpa using hb
      rcases gapS_spec L lo hi c k (n + 1) with ⟨m, h1, h2, h3, h4, h5⟩ | ⟨h1, h2⟩
      · refine .inl ⟨m, h1, by omega, by omega, h4, fun j q1 q2 => ?_⟩
        by_cases e : j = n
        · rw [e]; exact hb
        · exact h5 j (by omega) q2
      · refine .inr ⟨h1, fun j q1 q2 => ?_⟩
        by_cases e : j = n
        · rw [e]; exact hb
        · exact h2 j (by omega) (by omega)
theorem gap_spec (h : setOk L lo hi = true) (hg : gapB a b c = true) :
    (∃ m, gapW L lo hi a b c = (m, 0) ∧ a ≤ m ∧ m ≤ b ∧ badG L lo hi c m = true ∧ ∀ j, a ≤ j → j < m → badG L lo hi c j = false) ∨
    (gapW L lo hi a b c = (0, 4) ∧ ∀ j, a ≤ j → j ≤ b → badG L lo hi c j = false) := by
  have he := err_ok h hg
  have hab : a ≤ b := by
    simp only [gapB, isLenB, Bool.and_eq_true, decide_eq_true_eq] at hg; omega
  rcases gapS_spec L lo hi c (b - a + 1).toNat a with ⟨m, h1, h2, h3, h4, h5⟩ | ⟨h1, h2⟩
  · exact .inl ⟨m, by simp only [gapW, he, h1, if_true], h2, by omega, h4, h5⟩
  · exact .inr ⟨by simp only [gapW, he, h1, if_true], fun j q1 q2 => h2 j q1 (by omega)⟩
theorem near_can (h : setOk L lo hi = true) (hl : isLenB len = true) : (decide ((nrW L lo hi len).2.2 = 0) && decide ((nrW L lo hi len).2.1 ≤ c)) = !badG L lo hi c len := by
  have he := err_ok h hl
  unfold nrW badG
  rw [if_pos he]
  cases nearX L lo hi len with
  | none => simp
  | some d =>
    simp only [decide_true, Bool.true_and]
    rw [Bool.eq_iff_iff]
    simp only [Bool.not_eq_true', decide_eq_true_eq, decide_eq_false_iff_not]
    omega
theorem bad_mono {c' : Int} (h : c ≤ c') {j : Int} (hb : badG L lo hi c' j = true) : badG L lo hi c j = true := by
  unfold badG at hb ⊢
  cases hn : nearX L lo hi j with
  | none => rfl
  | some d => rw [hn] at hb; simp at hb ⊢; omega
end

def c10 : Ct := stCt fun L _ _ r => match r with
  | [.si .u16 x, .si .u8 y, .si .u8 z, .si .u8 u] => some (some ((0 ≤ x ∧ x < 65536) ∧ (0 ≤ y ∧ y < 256) ∧ (0 ≤ z ∧ z < 256) ∧ 0 ≤ u ∧ u < 256), .sb true)
  | _ => none
theorem k10 {l : List (Nat × Ct)} (g0 : Good P T l) : COk P 10 c10 := by
  have g := g14 (g29 (g27 (g25 g0)))
  refine cok (C := tabC _) g.ok Try.func10 (c := code Try.f10) rfl fun fr args H out h hp => stWalk h hp fun n sp lo hi r p v Rv Rp hk hp hR => ?_
  split at hk
  · rename_i x y z u
    cases hk
    obtain ⟨hx, hy, hz, hu⟩ : (0 ≤ x ∧ x < 65536) ∧ (0 ≤ y ∧ y < 256) ∧ (0 ≤ z ∧ z < 256) ∧ 0 ≤ u ∧ u < 256 := hp
    refine ⟨Nat.le_of_ble_eq_true rfl, fun G hG => ?_⟩
    refine Chk.mk ⟨spans_sp _ _, rfl, trivial⟩ ?_
    refine Br.mk (fun h => ?_) (fun h => ?_)
    · exact hR _ _ rfl rfl
    · have h : (!fineB ((List.range n).map sp) lo hi) = false := h
      have hok : setOk ((List.range n).map sp) lo hi = true := fine_ok (by simpa using h)
      have hlen := (setOk_len hok).1
      obtain ⟨L, hL⟩ : ∃ L, (spanL n fun i => spanC (sp i)) = L := ⟨_, rfl⟩
      have hL' : (List.range n).map sp = L := hL
      rw [hL'] at hok hlen
      have hl : (spanL n fun i => spanC (sp i)).length ≤ 40 := by rw [hL]; omega
      refine Chk.mk ⟨by omega, by omega⟩ ?_
      refine Chk.mk (show (5001 : Int) ≠ 0 by decide) ?_
      refine Chk.mk ⟨by omega, by omega⟩ ?_
      refine Chk.mk (show (61 : Int) ≠ 0 by decide) ?_
      have e1 : x.tmod 5001 = x % 5001 := Int.tmod_eq_emod_of_nonneg (by omega)
      have e2 : y.tmod 61 = y % 61 := Int.tmod_eq_emod_of_nonneg (by omega)
      have e3 : z.tmod 40 = z % 40 := Int.tmod_eq_emod_of_nonneg (by omega)
      have e4 : u.tmod 30 = u % 30 := Int.tmod_eq_emod_of_nonneg (by omega)
      rw [e1, e2]
      obtain ⟨a, ha⟩ : ∃ a, x % 5001 = a := ⟨_, rfl⟩
      obtain ⟨b, hb⟩ : ∃ b, min 5000 (a + y % 61) = b := ⟨_, rfl⟩
      obtain ⟨c, hc⟩ : ∃ c, z % 40 = c := ⟨_, rfl⟩
      obtain ⟨d, hd⟩ : ∃ d, u % 30 = d := ⟨_, rfl⟩
      rw [ha]
      refine Chk.mk ⟨by omega, by omega⟩ ?_
      refine Chk.mk ⟨by omega, by omega⟩ ?_
      rw [hb]
      refine Chk.mk (show (40 : Int) ≠ 0 by decide) ?_
      rw [e3, hc]
      have hg : gapB a b c = true := by simp only [gapB, isLenB, Bool.and_eq_true, decide_eq_true_eq]; omega
      have hg2 : gapB a b (c + d) = true := by simp only [gapB, isLenB, Bool.and_eq_true, decide_eq_true_eq]; omega
      have hgap := gap_spec hok hg
      have hgap2 := gap_spec hok hg2
      have hcan := fun len hl => near_can (L := L) (lo := lo) (hi := hi) (len := len) (c := c) hok hl
      refine Chk.mk ⟨spans_sp _ _, rfl, hl⟩ ?_
      rw [hL]
      obtain ⟨gm, ge, hgw⟩ : ∃ gm ge, gapW L lo hi a b c = (gm, ge) := ⟨_, _, rfl⟩
      rw [hgw]
      have hG1 : (ge = 0 ∧ a ≤ gm ∧ gm ≤ b ∧ badG L lo hi c gm = true ∧ ∀ j, a ≤ j → j < gm → badG L lo hi c j = false) ∨ (ge = 4 ∧ gm = 0 ∧ ∀ j, a ≤ j → j ≤ b → badG L lo hi c j = false) := by
        rcases hgap with ⟨m, h1, h2⟩ | ⟨h1, h2⟩
        · rw [hgw] at h1; cases h1; exact .inl ⟨rfl, h2⟩
        · rw [hgw] at h1; cases h1; exact .inr ⟨rfl, rfl, h2⟩
      refine Br.mk (fun h => ?_) (fun h => ?_)
      · exfalso
        revert h
        rcases hG1 with ⟨rfl, h1, h2, _⟩ | ⟨rfl, rfl, _⟩
        · simp; omega
        · simp
      · refine loop_ok (g.ok _ _ _) (fun i : {i : Int // a ≤ i ∧ i ≤ b + 1 ∧ (ge = 0 → i ≤ gm) ∧ ∀ j, a ≤ j → j < i → badG L lo hi c j = false} => ⟨[(4, ⟨[], .si .u8 u⟩), (5, ⟨[], .sp 1 0⟩), (10, ⟨[], .sb false⟩), (11, ⟨[], .si .i64 a⟩), (12, ⟨[], .si .i64 b⟩), (13, ⟨[], .si .i64 c⟩), (14, ⟨[], .si .i64 gm⟩), (15, ⟨[], .si .i64 ge⟩), (16, ⟨[], .si .i64 i.1⟩)], [],
          [(0, .ro 2 n fun i => spanC (sp i)), (1, .cells 26 [.sl 0, .si .i64 lo, .si .i64 hi])], 2, []⟩) (fun i => (b + 1 - i.1).toNat) (fun _ j hj => hG j (by have : 2 ≤ j := hj; omega)) ⟨a, by omega, by omega, (fun h => by omega), fun j h1 h2 => by omega⟩ ?_ ?_
        · refine ⟨?_, ?_, rfl, rfl, rfl⟩
          · repeat' (first | exact trivial | exact rfl | refine And.intro ?_ ?_)
          · refine ⟨⟨rfl, fun i hi => rfl, rfl⟩, ⟨⟨rfl, rfl, ⟨rfl, rfl⟩, ⟨rfl, rfl⟩, trivial⟩, rfl, rfl⟩, trivial⟩
        · rintro ⟨i, hi1, hi2, hi3, hi4⟩
          refine Br.mk (fun h => ?_) (fun h => ?_)
          · replace h : i ≤ b := of_decide_eq_true h
            have hlb : isLenB i = true := by
              clear hgap hgap2 hG1
              simp only [isLenB, Bool.and_eq_true, decide_eq_true_eq]
              omega
            have hcn := hcan i hlb
            have hin : InK .i64 (i + 1) := by
              clear hgap hgap2 hG1
              exact ⟨by omega, by omega⟩
            refine Chk.mk ⟨spans_sp _ _, rfl, hl⟩ ?_
            rw [hL]
            obtain ⟨q1, q2, q3, hq⟩ : ∃ q1 q2 q3, nrW L lo hi i = (q1, q2, q3) := ⟨_, _, _, rfl⟩
            rw [hq] at hcn
            rw [hq]
            refine Br.mk (fun h => ?_) (fun h => ?_)
            · replace h : (decide (ge = 0) && decide (i = gm)) = true := h
              simp only [Bool.and_eq_true, decide_eq_true_eq] at h
              obtain ⟨h1, h2⟩ := h
              subst h1
              rcases hG1 with ⟨_, h3, h4, h5, h6⟩ | ⟨h3, _⟩
              · rw [h2, h5] at hcn
                refine Br.mk (fun h => ?_) (fun h => ?_)
                · have h : (decide (q3 = 0) && decide (q2 ≤ c)) = true := h
                  rw [h] at hcn; cases hcn
                · refine Chk.mk ⟨by omega, by omega⟩ ?_
                  refine Chk.mk (show (30 : Int) ≠ 0 by decide) ?_
                  refine Chk.mk ⟨by omega, by omega⟩ ?_
                  rw [e4, hd]
                  refine Chk.mk ⟨spans_sp _ _, rfl, hl⟩ ?_
                  rw [hL]
                  obtain ⟨fm, fe, hfw⟩ : ∃ fm fe, gapW L lo hi a b (c + d) = (fm, fe) := ⟨_, _, rfl⟩
                  rw [hfw]
                  refine hR _ _ ?_ rfl
                  show _ = true
                  rcases hgap2 with ⟨m, p1, p2, p3, p4, p5⟩ | ⟨p1, p2⟩
                  · rw [hfw] at p1
                    have e5 : fm = m := congrArg Prod.fst p1
                    have e6 : fe = 0 := congrArg Prod.snd p1
                    rw [e5, e6]
                    have hbm := bad_mono (L := L) (lo := lo) (hi := hi) (c := c) (c' := c + d) (by omega) p4
                    skip
                    · skip
                      have : gm ≤ m := by
                        rcases Int.lt_or_le m gm with hlt | hge
                        · rw [h6 m p2 hlt] at hbm; cases hbm
                        · exact hge
                      simp
                      omega
                  · rw [hfw] at p1
                    have e5 : fm = 0 := congrArg Prod.fst p1
                    have e6 : fe = 4 := congrArg Prod.snd p1
                    rw [e5, e6]
                    simp
              · cases h3
            · replace h : (decide (ge = 0) && decide (i = gm)) = false := h
              have hnb : badG L lo hi c i = false := by
                rcases hG1 with ⟨h1, h3, h4, h5, h6⟩ | ⟨h1, h2, h3⟩
                · subst h1
                  have := hi3 rfl
                  simp at h
                  exact h6 i hi1 (by omega)
                · exact h3 i hi1 (by omega)
              rw [hnb] at hcn
              refine Br.mk (fun h => ?_) (fun h => ?_)
              · have h : (!(decide (q3 = 0) && decide (q2 ≤ c))) = true := h
                rw [hcn] at h; cases h
              · refine Chk.mk hin ⟨⟨i + 1, by omega, by omega, ?_, ?_⟩, ?_, (by show (b + 1 - (i + 1)).toNat < (b + 1 - i).toNat; omega)⟩
                · rintro rfl
                  have := hi3 rfl
                  simp at h
                  omega
                · intro j h1 h2
                  by_cases e : j = i
                  · rw [e]; exact hnb
                  · exact hi4 j h1 (by omega)
                · refine ⟨?_, ?_, rfl, rfl, rfl⟩
                  · repeat' (first | exact trivial | exact rfl | refine And.intro ?_ ?_)
                  · refine ⟨⟨rfl, fun i hi => rfl, rfl⟩, ⟨⟨rfl, rfl, ⟨rfl, rfl⟩, ⟨rfl, rfl⟩, trivial⟩, rfl, rfl⟩, trivial⟩
          · replace h : ¬ i ≤ b := of_decide_eq_false h
            refine Chk.mk ⟨by omega, by omega⟩ ?_
            refine Chk.mk (show (30 : Int) ≠ 0 by decide) ?_
            refine Chk.mk ⟨by omega, by omega⟩ ?_
            rw [e4, hd]
            refine Chk.mk ⟨spans_sp _ _, rfl, hl⟩ ?_
            rw [hL]
            obtain ⟨fm, fe, hfw⟩ : ∃ fm fe, gapW L lo hi a b (c + d) = (fm, fe) := ⟨_, _, rfl⟩
            rw [hfw]
            refine hR _ _ ?_ rfl
            show _ = true
            rcases hgap2 with ⟨m, p1, p2, p3, p4, p5⟩ | ⟨p1, p2⟩
            · rw [hfw] at p1
              have e5 : fm = m := congrArg Prod.fst p1
              have e6 : fe = 0 := congrArg Prod.snd p1
              rw [e5, e6]
              have hbm := bad_mono (L := L) (lo := lo) (hi := hi) (c := c) (c' := c + d) (by omega) p4
              rcases hG1 with ⟨h3, h4, h5, h6, h7⟩ | ⟨h3, h4, h5⟩
              · subst h3
                have : gm ≤ m := by
                  rcases Int.lt_or_le m gm with hlt | hge
                  · rw [h7 m p2 hlt] at hbm; cases hbm
                  · exact hge
                simp
                omega
              · rw [h5 m p2 p3] at hbm; cases hbm
            · rw [hfw] at p1
              have e5 : fm = 0 := congrArg Prod.fst p1
              have e6 : fe = 4 := congrArg Prod.snd p1
              rw [e5, e6]
              simp
  · cases hk
end Go.X.S
end

section
set_option linter.unusedVariables false
set_option linter.unusedSimpArgs false
set_option linter.unusedSectionVars false
/- Stack: StackCount answers true. -/
set_option linter.unusedVariables false
set_option linter.unusedSimpArgs false
set_option linter.unusedSectionVars false
set_option maxRecDepth 10000
set_option maxHeartbeats 1000000
namespace Go.X.S
open Go Go.Proofs Go.X

def allI (N : Nat) (l : List Nat) : Nat := l.foldl (fun a x => a &&& x) (N - 1)
def anyI (l : List Nat) : Nat := l.foldl (fun a x => a ||| x) 0
theorem allI_snoc (N : Nat) (l : List Nat) (x : Nat) : allI N (l ++ [x]) = allI N l &&& x := by simp [allI]
theorem anyI_snoc (l : List Nat) (x : Nat) : anyI (l ++ [x]) = anyI l ||| x := by simp [anyI]
theorem and_fold_le : ∀ (l : List Nat) (a : Nat), l.foldl (fun a x => a &&& x) a ≤ a
  | [], a => Nat.le_refl _
  | x :: r, a => Nat.le_trans (and_fold_le r (a &&& x)) Nat.and_le_left
theorem allI_le (N : Nat) (l : List Nat) : allI N l ≤ N - 1 := and_fold_le l _
theorem or_fold_lt {n : Nat} : ∀ (l : List Nat) (a : Nat), a < 2 ^ n → (∀ x ∈ l, x < 2 ^ n) → l.foldl (fun a x => a ||| x) a < 2 ^ n
  | [], a, h, _ => h
  | x :: r, a, h, hl => or_fold_lt r (a ||| x) (Nat.or_lt_two_pow h (hl x List.mem_cons_self)) (fun y hy => hl y (List.mem_cons_of_mem _ hy))
theorem anyI_lt {n : Nat} {l : List Nat} (h : ∀ x ∈ l, x < 2 ^ n) : anyI l < 2 ^ n := or_fold_lt l 0 (Nat.pow_pos (by decide)) h
theorem and_fold_bit (i : Nat) : ∀ (l : List Nat) (a : Nat), (l.foldl (fun a x => a &&& x) a).testBit i = true ↔ a.testBit i = true ∧ ∀ x ∈ l, x.testBit i = true
  | [], a => by simp
  | x :: r, a => by
    simp only [List.foldl_cons, and_fold_bit i r, Nat.testBit_and, Bool.and_eq_true, List.mem_cons]
    constructor
    · rintro ⟨⟨h1, h2⟩, h3⟩
      refine ⟨h1, ?_⟩
      rintro y (rfl | hy)
      · exact h2
      · exact h3 y hy
    · rintro ⟨h1, h2⟩; exact ⟨⟨h1, h2 x (.inl rfl)⟩, fun y hy => h2 y (.inr hy)⟩
theorem or_fold_bit (i : Nat) : ∀ (l : List Nat) (a : Nat), (l.foldl (fun a x => a ||| x) a).testBit i = true ↔ a.testBit i = true ∨ ∃ x ∈ l, x.testBit i = true
  | [], a => by simp
  | x :: r, a => by
    simp only [List.foldl_cons, or_fold_bit i r, Nat.testBit_or, Bool.or_eq_true, List.mem_cons]
    constructor
    · rintro ((h | h) | ⟨y, hy, h⟩)
      · exact .inl h
      · exact .inr ⟨x, .inl rfl, h⟩
      · exact .inr ⟨y, .inr hy, h⟩
    · rintro (h | ⟨y, (rfl | hy), h⟩)
      · exact .inl (.inl h)
      · exact .inl (.inr h)
      · exact .inr ⟨y, hy, h⟩

section
variable {L : List Span} {lo hi a b : Int}
theorem sur_iff {s y : Nat} : y ∈ surI L lo hi (a, b) s ↔ 0 < y ∧ y < s ∧ qIn L lo hi (a, b) y = true := by
  simp only [surI, List.mem_filter, List.mem_range, Bool.and_eq_true, decide_eq_true_eq]
  constructor
  · rintro ⟨h1, h2, h3⟩; exact ⟨h2, h1, h3⟩
  · rintro ⟨h1, h2, h3⟩; exact ⟨h2, h1, h3⟩
theorem each_all {e : Nat} (hex : ∃ y, 0 < y ∧ y < 2 ^ L.length ∧ qIn L lo hi (a, b) y = true)
    (h : ∀ i, e.testBit i = true ↔ ∀ y, 0 < y → y < 2 ^ L.length → qIn L lo hi (a, b) y = true → y.testBit i = true) : e = allI (2 ^ L.length) (surI L lo hi (a, b) (2 ^ L.length)) := by
  refine Nat.eq_of_testBit_eq fun i => ?_
  rw [Bool.eq_iff_iff, h, allI, and_fold_bit]
  constructor
  · intro h
    refine ⟨?_, fun y hy => let ⟨p1, p2, p3⟩ := sur_iff.1 hy; h y p1 p2 p3⟩
    obtain ⟨y, p1, p2, p3⟩ := hex
    have hb := h y p1 p2 p3
    rw [Nat.testBit_two_pow_sub_one]
    rcases Nat.lt_or_ge i L.length with hlt | hge
    · simpa using hlt
    · rw [Nat.testBit_lt_two_pow (Nat.lt_of_lt_of_le p2 (Nat.pow_le_pow_right (by decide) hge))] at hb; cases hb
  · rintro ⟨_, h⟩ y p1 p2 p3
    exact h y (sur_iff.2 ⟨p1, p2, p3⟩)
theorem some_any {e : Nat} (h : ∀ i, e.testBit i = true ↔ ∃ y, 0 < y ∧ y < 2 ^ L.length ∧ qIn L lo hi (a, b) y = true ∧ y.testBit i = true) : e = anyI (surI L lo hi (a, b) (2 ^ L.length)) := by
  refine Nat.eq_of_testBit_eq fun i => ?_
  rw [Bool.eq_iff_iff, h, anyI, or_fold_bit]
  constructor
  · rintro ⟨y, p1, p2, p3, p4⟩; exact .inr ⟨y, sur_iff.2 ⟨p1, p2, p3⟩, p4⟩
  · rintro (h | ⟨y, hy, h⟩)
    · simp at h
    · obtain ⟨p1, p2, p3⟩ := sur_iff.1 hy; exact ⟨y, p1, p2, p3, h⟩
end

def c8 : Ct := stCt fun L _ _ r => match r with
  | [.si .u16 x, .si .u8 y] => some (some ((0 ≤ x ∧ x < 65536) ∧ 0 ≤ y ∧ y < 256), .sb true)
  | _ => none
theorem k8 {l : List (Nat × Ct)} (g0 : Good P T l) : COk P 8 c8 := by
  have g := g14 (g29 (g33 (g19 (g23 (g30 (g17 g0))))))
  refine cok (C := tabC _) g.ok Try.func8 (c := code Try.f8) rfl fun fr args H out h hp => stWalk h hp fun n sp lo hi r p v Rv Rp hk hp hR => ?_
  split at hk
  · rename_i x y
    cases hk
    obtain ⟨hx, hy⟩ : (0 ≤ x ∧ x < 65536) ∧ 0 ≤ y ∧ y < 256 := hp
    refine ⟨Nat.le_of_ble_eq_true rfl, fun G hG => ?_⟩
    refine Chk.mk ⟨spans_sp _ _, rfl, trivial⟩ ?_
    refine Br.mk (fun h => ?_) (fun h => ?_)
    · exact hR _ _ rfl rfl
    · have h : (!fineB ((List.range n).map sp) lo hi) = false := h
      have hok : setOk ((List.range n).map sp) lo hi = true := fine_ok (by simpa using h)
      have hw := want_ok (x := x) (y := y) (by omega) (by omega)
      have hlen := (setOk_len hok).1
      refine Chk.mk ⟨hx, hy⟩ ?_
      generalize x % 5001 = a at hw
      generalize min 5000 (a + y) = b at hw
      obtain ⟨L, hL⟩ : ∃ L, (spanL n fun i => spanC (sp i)) = L := ⟨_, rfl⟩
      have hL' : (List.range n).map sp = L := hL
      rw [hL'] at hok hlen
      have hl : (spanL n fun i => spanC (sp i)).length ≤ 40 := by rw [hL]; omega
      have hcnt := cnt_spec hok hw
      have hneed := need_spec hok hw
      have hrs := fun m h0 hm => right_spec (L := L) (lo := lo) (hi := hi) (m := m) hok hw h0 hm
      have hpi := pow_int L.length
      have h64 : 2 ^ L.length ≤ 256 := Nat.pow_le_pow_right (n := 2) (by decide) hlen
      have hN0 := Nat.pow_pos (a := 2) (n := L.length) (by decide)
      have hsp := sur_pos (L := L) (lo := lo) (hi := hi) (a := a) (b := b)
      have hany : ∀ s, s ≤ 2 ^ L.length → anyI (surI L lo hi (a, b) s) < 2 ^ L.length := fun s hs => anyI_lt fun x hx => by
        have := (sur_iff.1 hx).2.1; omega
      have hall : ∀ s, allI (2 ^ L.length) (surI L lo hi (a, b) s) ≤ 2 ^ L.length - 1 := fun s => allI_le _ _
      have hNE : (∃ E S : Nat, needW L lo hi a b = ((E : Int), (S : Int), 0) ∧ E = allI (2 ^ L.length) (surI L lo hi (a, b) (2 ^ L.length)) ∧ S = anyI (surI L lo hi (a, b) (2 ^ L.length)) ∧ 0 < (surI L lo hi (a, b) (2 ^ L.length)).length) ∨
          (needW L lo hi a b = (0, 0, 4) ∧ (surI L lo hi (a, b) (2 ^ L.length)).length = 0) := by
        rcases hneed with ⟨f, h1, _, _, h2, h3, h4⟩ | ⟨h1, h2⟩
        · exact .inl ⟨f.each, f.some, h1, each_all h2 h3, some_any h4, hsp.2 h2⟩
        · refine .inr ⟨h1, ?_⟩
          rcases Nat.eq_zero_or_pos (surI L lo hi (a, b) (2 ^ L.length)).length with h | h
          · exact h
          · obtain ⟨y, p1, p2, p3⟩ := hsp.1 h
            rw [h2 y p1 p2] at p3; cases p3
      clear hneed hsp
      generalize 2 ^ L.length = N at *
      refine Chk.mk ⟨spans_sp _ _, rfl, hl⟩ ?_
      refine Chk.mk ⟨spans_sp _ _, rfl, hl⟩ ?_
      refine Chk.mk ⟨spans_sp _ _, rfl, hl⟩ ?_
      rw [hL, hcnt, ← hpi]
      obtain ⟨ne, ns, nn, hnd⟩ : ∃ ne ns nn, needW L lo hi a b = (ne, ns, nn) := ⟨_, _, _, rfl⟩
      rw [hnd]
      rw [hnd] at hNE
      refine loop_ok (g.ok _ _ _) (fun s : {s : Nat // 1 ≤ s ∧ s ≤ N} => ⟨[(3, ⟨[], .sp 1 0⟩), (6, ⟨[], .sb false⟩), (7, ⟨[], .sp 2 0⟩), (8, ⟨[], .si .i64 (surI L lo hi (a, b) N).length⟩), (9, ⟨[], .si .i64 (meI L lo hi (a, b) N).length⟩), (10, ⟨[], .si .i64 0⟩), (11, ⟨[], .si .i64 ne⟩), (12, ⟨[], .si .i64 ns⟩), (13, ⟨[], .si .i64 nn⟩),
          (14, ⟨[], .si .i64 (surI L lo hi (a, b) s.1).length⟩), (15, ⟨[], .si .i64 (meI L lo hi (a, b) s.1).length⟩), (16, ⟨[], .si .i64 (allI N (surI L lo hi (a, b) s.1) : Nat)⟩), (17, ⟨[], .si .i64 (anyI (surI L lo hi (a, b) s.1) : Nat)⟩), (18, ⟨[], .si .i64 (s.1 : Int)⟩)], [],
          [(0, .ro 2 n fun i => spanC (sp i)), (1, .cells 26 [.sl 0, .si .i64 lo, .si .i64 hi]), (2, .cells 24 [.si .i64 a, .si .i64 b])], 3, []⟩) (fun s => N - s.1) (fun _ j hj => hG j (by have : 3 ≤ j := hj; omega)) ⟨1, Nat.le_refl _, hN0⟩ ?_ ?_
      · have e16 : (N : Int) - 1 = ((allI N (surI L lo hi (a, b) 1) : Nat) : Int) := by
          show (N : Int) - 1 = ((N - 1 : Nat) : Int)
          omega
        refine ⟨?_, ?_, rfl, rfl, rfl⟩
        · repeat' (first | exact trivial | exact e16 | exact rfl | refine And.intro ?_ ?_)
        · refine ⟨⟨rfl, fun i hi => rfl, rfl⟩, ⟨⟨rfl, rfl, ⟨rfl, rfl⟩, ⟨rfl, rfl⟩, trivial⟩, rfl, rfl⟩, ⟨⟨rfl, ⟨rfl, rfl⟩, ⟨rfl, rfl⟩, trivial⟩, rfl, rfl⟩, trivial⟩
      · rintro ⟨s, hs1, hs2⟩
        refine Chk.mk ⟨spans_sp _ _, rfl, hl⟩ ?_
        rw [hL, ← hpi]
        refine Br.mk (fun h => ?_) (fun h => ?_)
        · replace h : (s : Int) ≤ (N : Int) - 1 := of_decide_eq_true h
          have hsN : s < N := by omega
          obtain ⟨r1, r2, r3, r4, r5⟩ := hrs s hs1 hsN
          have ha1 := hall s
          have ho1 := hany s hs2
          have hsl := surI_len L lo hi (a, b) s
          have hml := meI_len L lo hi (a, b) s
          have hsu := surI_succ L lo hi (a, b) (s := s) hs1
          have hme := meI_succ L lo hi (a, b) (s := s) hs1
          have hin1 : InK .i64 ((s : Int) + 1) := ⟨by omega, by omega⟩
          have hin2 : InK .i64 (((surI L lo hi (a, b) s).length : Int) + 1) := ⟨by omega, by omega⟩
          have hin3 : InK .i64 (((meI L lo hi (a, b) s).length : Int) + 1) := ⟨by omega, by omega⟩
          have hna : (0 : Int) ≤ ((allI N (surI L lo hi (a, b) s) : Nat) : Int) ∧ (0 : Int) ≤ (s : Int) ∧ InK .i64 ((allI N (surI L lo hi (a, b) s) : Nat) : Int) ∧ InK .i64 (s : Int) := ⟨by omega, by omega, ⟨by omega, by omega⟩, by omega, by omega⟩
          have hno : (0 : Int) ≤ ((anyI (surI L lo hi (a, b) s) : Nat) : Int) ∧ (0 : Int) ≤ (s : Int) ∧ InK .i64 ((anyI (surI L lo hi (a, b) s) : Nat) : Int) ∧ InK .i64 (s : Int) := ⟨by omega, by omega, ⟨by omega, by omega⟩, by omega, by omega⟩
          refine Chk.mk ⟨spans_sp _ _, rfl, hl⟩ ?_
          rw [hL, r1]
          generalize rightW L lo hi (s : Int) a b = R at r2 r3 r4 r5
          refine Br.mk (fun h => ?_) (fun h => ?_)
          · exact absurd h (by simp)
          · refine Br.mk (fun h => ?_) (fun h => ?_)
            · replace h : R = 2 := of_decide_eq_true h
              have hq := r2.1 h
              rw [if_pos hq] at hsu
              have hm : qMe L lo hi (a, b) s = true := in_me hok hs1 hq
              rw [if_pos hm] at hme
              have e14 : ((surI L lo hi (a, b) s).length : Int) + 1 = ((surI L lo hi (a, b) (s + 1)).length : Int) := by rw [hsu]; simp
              have e15 : ((meI L lo hi (a, b) s).length : Int) + 1 = ((meI L lo hi (a, b) (s + 1)).length : Int) := by rw [hme]; simp
              have e16 : ((((allI N (surI L lo hi (a, b) s) : Nat) : Int).toNat &&& (s : Int).toNat : Nat) : Int) = ((allI N (surI L lo hi (a, b) (s + 1)) : Nat) : Int) := by rw [hsu, allI_snoc]; rfl
              have e17 : ((((anyI (surI L lo hi (a, b) s) : Nat) : Int).toNat ||| (s : Int).toNat : Nat) : Int) = ((anyI (surI L lo hi (a, b) (s + 1)) : Nat) : Int) := by rw [hsu, anyI_snoc]; rfl
              refine Chk.mk hin2 (Chk.mk hna (Chk.mk hno ?_))
              refine Br.mk (fun h2 => ?_) (fun h2 => ?_)
              · refine Chk.mk hin3 (Chk.mk hin1 ?_)
                refine ⟨⟨s + 1, by omega, by omega⟩, ?_, (by show N - (s + 1) < N - s; omega)⟩
                refine ⟨?_, ?_, rfl, rfl, rfl⟩
                · repeat' (first | exact trivial | exact e14 | exact e15 | exact e16 | exact e17 | exact rfl | refine And.intro ?_ ?_)
                · refine ⟨⟨rfl, fun i hi => rfl, rfl⟩, ⟨⟨rfl, rfl, ⟨rfl, rfl⟩, ⟨rfl, rfl⟩, trivial⟩, rfl, rfl⟩, ⟨⟨rfl, ⟨rfl, rfl⟩, ⟨rfl, rfl⟩, trivial⟩, rfl, rfl⟩, trivial⟩
              · replace h2 : (!decide (R = 0)) = false := h2
                rw [h] at h2; simp at h2
            · replace h : ¬ R = 2 := of_decide_eq_false h
              have hq : ¬ qIn L lo hi (a, b) s = true := fun hq => h (r2.2 hq)
              rw [if_neg hq] at hsu
              have e14 : ((surI L lo hi (a, b) s).length : Int) = ((surI L lo hi (a, b) (s + 1)).length : Int) := by rw [hsu]
              have e16 : ((allI N (surI L lo hi (a, b) s) : Nat) : Int) = ((allI N (surI L lo hi (a, b) (s + 1)) : Nat) : Int) := by rw [hsu]
              have e17 : ((anyI (surI L lo hi (a, b) s) : Nat) : Int) = ((anyI (surI L lo hi (a, b) (s + 1)) : Nat) : Int) := by rw [hsu]
              refine Br.mk (fun h2 => ?_) (fun h2 => ?_)
              · replace h2 : (!decide (R = 0)) = true := h2
                have hm : qMe L lo hi (a, b) s = true := by
                  cases hm : qMe L lo hi (a, b) s with
                  | true => rfl
                  | false => rw [r3.2 hm] at h2; simp at h2
                rw [if_pos hm] at hme
                have e15 : ((meI L lo hi (a, b) s).length : Int) + 1 = ((meI L lo hi (a, b) (s + 1)).length : Int) := by rw [hme]; simp
                refine Chk.mk hin3 (Chk.mk hin1 ?_)
                refine ⟨⟨s + 1, by omega, by omega⟩, ?_, (by show N - (s + 1) < N - s; omega)⟩
                refine ⟨?_, ?_, rfl, rfl, rfl⟩
                · repeat' (first | exact trivial | exact e14 | exact e15 | exact e16 | exact e17 | exact rfl | refine And.intro ?_ ?_)
                · refine ⟨⟨rfl, fun i hi => rfl, rfl⟩, ⟨⟨rfl, rfl, ⟨rfl, rfl⟩, ⟨rfl, rfl⟩, trivial⟩, rfl, rfl⟩, ⟨⟨rfl, ⟨rfl, rfl⟩, ⟨rfl, rfl⟩, trivial⟩, rfl, rfl⟩, trivial⟩
              · replace h2 : (!decide (R = 0)) = false := h2
                have hm : ¬ qMe L lo hi (a, b) s = true := fun hm => by
                  have : R = 0 := by simpa using h2
                  have := r3.1 this
                  rw [hm] at this; cases this
                rw [if_neg hm] at hme
                have e15 : ((meI L lo hi (a, b) s).length : Int) = ((meI L lo hi (a, b) (s + 1)).length : Int) := by rw [hme]
                refine Chk.mk hin1 ?_
                refine ⟨⟨s + 1, by omega, by omega⟩, ?_, (by show N - (s + 1) < N - s; omega)⟩
                refine ⟨?_, ?_, rfl, rfl, rfl⟩
                · repeat' (first | exact trivial | exact e14 | exact e15 | exact e16 | exact e17 | exact rfl | refine And.intro ?_ ?_)
                · refine ⟨⟨rfl, fun i hi => rfl, rfl⟩, ⟨⟨rfl, rfl, ⟨rfl, rfl⟩, ⟨rfl, rfl⟩, trivial⟩, rfl, rfl⟩, ⟨⟨rfl, ⟨rfl, rfl⟩, ⟨rfl, rfl⟩, trivial⟩, rfl, rfl⟩, trivial⟩
        · replace h : ¬ (s : Int) ≤ (N : Int) - 1 := of_decide_eq_false h
          have hsN : s = N := by omega
          subst hsN
          generalize (surI L lo hi (a, b) s).length = A at *
          rcases hNE with ⟨E, S, h1, h2, h3, h4⟩ | ⟨h1, h2⟩
          · have q1 : ne = E := congrArg Prod.fst h1
            have q2 : ns = S := congrArg (·.2.1) h1
            have q3 : nn = 0 := congrArg (·.2.2) h1
            refine Br.mk (fun h => ?_) (fun h => ?_)
            · exfalso
              revert h
              rw [q3]
              simp
              omega
            · refine hR _ _ ?_ rfl
              show _ = true
              rw [q1, q2, q3, ← h2, ← h3]
              simp
          · have q1 : ne = 0 := congrArg Prod.fst h1
            have q2 : ns = 0 := congrArg (·.2.1) h1
            have q3 : nn = 4 := congrArg (·.2.2) h1
            refine Br.mk (fun h => ?_) (fun h => ?_)
            · exfalso
              revert h
              rw [q3]
              simp
              omega
            · refine hR _ _ ?_ rfl
              show _ = true
              rw [q1, q2, q3]
              simp
  · cases hk
end Go.X.S
end

section
set_option linter.unusedVariables false
set_option linter.unusedSimpArgs false
set_option linter.unusedSectionVars false
/- Stack: StackEnds answers true. -/
set_option linter.unusedVariables false
set_option linter.unusedSimpArgs false
set_option linter.unusedSectionVars false
set_option maxRecDepth 10000
set_option maxHeartbeats 1000000
namespace Go.X.S
open Go Go.Proofs Go.X

theorem errV_no {L : List Span} {lo hi : Int} {q : Bool} (h : setOk L lo hi = false) : errV L lo hi q = 1 := by simp [errV, h]
theorem errV_two {L : List Span} {lo hi : Int} {q : Bool} (h : setOk L lo hi = true) (hq : q = false) : errV L lo hi q = 2 := by simp [errV, h, hq]

def c6 : Ct := stCt fun L _ _ r => match r with
  | [.si .u8 z, .si .u16 x, .si .u8 y] => some (some ((0 ≤ z ∧ z < 256) ∧ (0 ≤ x ∧ x < 65536) ∧ 0 ≤ y ∧ y < 256), .sb true)
  | _ => none
theorem k6 {l : List (Nat × Ct)} (g0 : Good P T l) : COk P 6 c6 := by
  have g := g13 (g14 (g34 (g15 (g25 (g30 (g35 (g21 (g27 (g33 (g17 g0))))))))))
  refine cok (C := tabC _) g.ok Try.func6 (c := code Try.f6) rfl fun fr args H out h hp => stWalk h hp fun n sp lo hi r p v Rv Rp hk hp hR => ?_
  split at hk
  · rename_i z x y
    cases hk
    obtain ⟨hz, hx, hy⟩ : (0 ≤ z ∧ z < 256) ∧ (0 ≤ x ∧ x < 65536) ∧ 0 ≤ y ∧ y < 256 := hp
    refine ⟨Nat.le_of_ble_eq_true rfl, fun G hG => ?_⟩
    refine Chk.mk ⟨spans_sp _ _, rfl, trivial⟩ ?_
    refine Br.mk (fun h => ?_) (fun h => ?_)
    · exact hR _ _ rfl rfl
    · obtain ⟨L, hL⟩ : ∃ L, (spanL n fun i => spanC (sp i)) = L := ⟨_, rfl⟩
      have hL' : (List.range n).map sp = L := hL
      have hn : n = L.length := by rw [← hL']; simp
      have h40 : L.length ≤ 40 := by
        have h : decide ((40 : Int) < ((List.range n).map sp).length) = false := h
        rw [hL'] at h
        have := of_decide_eq_false h
        omega
      have hl : (spanL n fun i => spanC (sp i)).length ≤ 40 := by rw [hL]; exact h40
      refine Chk.mk ⟨spans_sp _ _, rfl, trivial⟩ ?_
      rw [hL]
      refine Br.mk (fun h => ?_) (fun h => ?_)
      · have h : (!setOk L lo hi) = true := h
        have hno : setOk L lo hi = false := by simpa using h
        have e1 : ∀ m, longV L lo hi m = (0, 0) := fun m => by rw [longV, errV_no hno]; rfl
        have e2 : ∀ m, nrW L lo hi m = (0, 0, 1) := fun m => by rw [nrW, errV_no hno]; rfl
        refine Chk.mk ⟨spans_sp _ _, rfl, hl⟩ ?_
        rw [hL, errV_no hno, e1]
        refine Chk.mk ⟨spans_sp _ _, rfl, hl⟩ ?_
        rw [hL, e2]
        exact hR _ _ rfl rfl
      · have h : (!setOk L lo hi) = false := h
        have hok : setOk L lo hi = true := by simpa using h
        have hlen := (setOk_len hok).1
        have hpi := pow_int L.length
        have h64 : 2 ^ L.length ≤ 256 := Nat.pow_le_pow_right (n := 2) (by decide) hlen
        have hN0 := Nat.pow_pos (a := 2) (n := L.length) (by decide)
        refine Chk.mk ⟨spans_sp _ _, rfl, hl⟩ ?_
        rw [hL, errV_two hok (show isSetB L.length 0 = false from rfl)]
        refine drawn_ok (g.ok _ _ _) fol [0,0,2,6,15,31,63,63,0,383,1023] [(9, 35)] 11 (by kernel_rfl) ?_
        refine Chk.mk ⟨spans_sp _ _, rfl, hl⟩ ?_
        rw [hL]
        have hw1 : isSetB L.length ((2 : Int) ^ L.length - 1 + 1) = false := by
          simp only [isSetB]
          rw [Bool.and_eq_false_iff]
          right
          simp only [decide_eq_false_iff_not]
          omega
        refine Chk.mk ⟨by omega, by omega⟩ ?_
        refine Chk.mk ⟨spans_sp _ _, rfl, hl⟩ ?_
        rw [hL, errV_two hok hw1]
        refine drawn_ok (g.ok _ _ _) fol [0,0,3,7,15,15,31,127] [] 8 (by kernel_rfl) ?_
        refine Chk.mk ⟨spans_sp _ _, rfl, hl⟩ ?_
        have f1 : fewW L lo hi 0 5001 = (0, 2) := by rw [fewW, errV_two hok (show isWantB 0 5001 = false from rfl)]; rfl
        have f2 : nrW L lo hi (-1) = (0, 0, 2) := by rw [nrW, errV_two hok (show isLenB (-1) = false from rfl)]; rfl
        have f3 : gapW L lo hi 0 61 0 = (0, 2) := by rw [gapW, errV_two hok (show gapB 0 61 0 = false from rfl)]; rfl
        rw [hL, f1]
        refine Chk.mk ⟨spans_sp _ _, rfl, hl⟩ ?_
        rw [hL, f2]
        refine Chk.mk ⟨spans_sp _ _, rfl, hl⟩ ?_
        rw [hL, f3]
        refine Br.mk (fun h => ?_) (fun h => ?_)
        · exact absurd h (by simp)
        · refine Br.mk (fun h => ?_) (fun h => ?_)
          · replace h : (n : Int) = 0 := of_decide_eq_true h
            have h0 : L.length = 0 := by omega
            have hp0 : 2 ^ L.length = 1 := by rw [h0]
            have f4 : fewW L lo hi 0 5000 = (0, 4) := by
              rcases few_spec (a := 0) (b := 5000) hok rfl with ⟨X, _, h1, h2, _⟩ | ⟨h1, _⟩
              · omega
              · exact h1
            have f5 : gapW L lo hi 7 9 5000 = (7, 0) := by
              have hbad : ∀ j, badG L lo hi 5000 j = true := by
                intro j
                have hb := nearX_best L lo hi j
                unfold badG
                cases hx : nearX L lo hi j with
                | none => rfl
                | some c =>
                  rw [hx] at hb
                  obtain ⟨⟨x, hx1, hx2, _⟩, _⟩ := hb
                  have := List.mem_range.1 hx1
                  omega
              rcases gap_spec (a := 7) (b := 9) (c := 5000) hok rfl with ⟨m, h1, h2, h3, h4, h5⟩ | ⟨h1, h2⟩
              · rcases Int.lt_or_le 7 m with hlt | hge
                · have := h5 7 (by omega) hlt
                  rw [hbad] at this; cases this
                · have : m = 7 := by omega
                  rw [h1, this]
              · have := h2 7 (by omega) (by omega)
                rw [hbad] at this; cases this
            refine drawn_ok (g.ok _ _ _) fol [0,0,3,7,15,15,31,127] [] 8 (by kernel_rfl) ?_
            refine Chk.mk ⟨spans_sp _ _, rfl, hl⟩ ?_
            rw [hL, f4]
            refine Chk.mk ⟨spans_sp _ _, rfl, hl⟩ ?_
            rw [hL, f5]
            exact hR _ _ rfl rfl
          · replace h : ¬ (n : Int) = 0 := of_decide_eq_false h
            have h2N : 2 ≤ 2 ^ L.length := by
              have := Nat.pow_le_pow_right (n := 2) (by decide) (show 1 ≤ L.length by omega)
              simpa using this
            obtain ⟨N, hN⟩ : ∃ N, 2 ^ L.length = N := ⟨_, rfl⟩
            rw [hN] at hpi h64 hN0 h2N
            refine Chk.mk ⟨by omega, by omega⟩ ?_
            refine Chk.mk ⟨spans_sp _ _, rfl, hl⟩ ?_
            rw [hL, ← hpi]
            refine Chk.mk (show (N : Int) - 1 ≠ 0 by omega) ?_
            have e1 : z.tmod ((N : Int) - 1) = z % ((N : Int) - 1) := Int.tmod_eq_emod_of_nonneg (by omega)
            rw [e1]
            have h3 := Int.emod_nonneg z (show (N : Int) - 1 ≠ 0 by omega)
            have h4 := Int.emod_lt_of_pos z (show (0 : Int) < (N : Int) - 1 by omega)
            obtain ⟨set, hset⟩ : ∃ set : Nat, 1 + z % ((N : Int) - 1) = set := ⟨(1 + z % ((N : Int) - 1)).toNat, by omega⟩
            have hs0 : 0 < set := by omega
            have hs1 : set < N := by omega
            refine Chk.mk ⟨by omega, by omega⟩ ?_
            rw [hset]
            have hin : ∀ i, i < n → (1 ≤ (sp i).1 ∧ (sp i).1 ≤ (sp i).2 ∧ (sp i).2 ≤ 500) := fun i hi => by
              have := (setOk_len hok).2.2.2.2 (sp i) (by rw [← hL']; exact List.mem_map.2 ⟨i, List.mem_range.2 hi, rfl⟩)
              omega
            refine loop_ok (g.ok _ _ _) (fun i : {i : Nat // i ≤ n} => ⟨[(2, ⟨[], .si .u16 x⟩), (3, ⟨[], .si .u8 y⟩), (4, ⟨[], .sp 1 0⟩), (8, ⟨[], .sb false⟩), (29, ⟨[], .si .i64 set⟩), (30, ⟨[], .sp 79 0⟩), (31, ⟨[], .si .i64 (cntB set i.1)⟩), (165, ⟨[], .sl 0⟩), (166, ⟨[], .si .i64 n⟩), (167, ⟨[], .si .i64 i.1⟩)], [],
              [(0, .ro 2 n fun i => spanC (sp i)), (1, .cells 26 [.sl 0, .si .i64 lo, .si .i64 hi]), (79, .cells 24 [.si .i64 (sumB (fun i => (sp i).1) set i.1), .si .i64 (sumB (fun i => (sp i).2) set i.1)])], 80, []⟩) (fun i => n - i.1) (fun _ j hj => hG j (by have : 80 ≤ j := hj; omega)) ⟨0, Nat.zero_le _⟩ ?_ ?_
            · refine ⟨?_, ?_, rfl, rfl, rfl⟩
              · repeat' (first | exact trivial | exact rfl | refine And.intro ?_ ?_)
              · refine ⟨⟨rfl, fun i hi => rfl, rfl⟩, ⟨⟨rfl, rfl, ⟨rfl, rfl⟩, ⟨rfl, rfl⟩, trivial⟩, rfl, rfl⟩, ⟨⟨rfl, ⟨rfl, rfl⟩, ⟨rfl, rfl⟩, trivial⟩, rfl, rfl⟩, trivial⟩
            · rintro ⟨i, hle⟩
              refine Br.mk (fun h => ?_) (fun h => ?_)
              · replace h : (i : Int) < (n : Int) := of_decide_eq_true h
                have h8 : n ≤ 8 := by omega
                have s1 := sumB_le (f := fun i => (sp i).1) set (B := 1000) (by omega) i (fun j hj => by have := hin j (by omega); omega)
                have s2 := sumB_le (f := fun i => (sp i).2) set (B := 1000) (by omega) i (fun j hj => by have := hin j (by omega); omega)
                have b1 := hin i (by omega)
                have cl := cntB_le set i
                have hk0 : 0 ≤ (set : Int).fdiv (2 ^ i) ∧ (set : Int).fdiv (2 ^ i) ≤ 1000000 := by
                  rw [Int.fdiv_eq_ediv_of_nonneg _ (Int.pow_nonneg (by omega))]
                  have := Int.ediv_le_self (a := (set : Int)) (2 ^ i) (by omega)
                  exact ⟨Int.ediv_nonneg (by omega) (Int.pow_nonneg (by omega)), by omega⟩
                have hix : (0 : Int) ≤ (i : Int) ∧ (i : Int) < (n : Int) := ⟨by omega, h⟩
                have hsh : (0 : Int) ≤ (i : Int) ∧ i ≤ 64 := ⟨by omega, by omega⟩
                have hand : 0 ≤ (set : Int).fdiv (2 ^ i) ∧ (0 : Int) ≤ 1 ∧ InK .i64 ((set : Int).fdiv (2 ^ i)) ∧ InK .i64 1 := ⟨hk0.1, by omega, ⟨by omega, by omega⟩, by omega, by omega⟩
                refine Chk.mk hix (Chk.mk hsh (Chk.mk hand ?_))
                have hin1 : InK .i64 ((i : Int) + 1) := ⟨by omega, by omega⟩
                have hin2 : InK .i64 (sumB (fun i => (sp i).1) set i + (sp i).1) := ⟨by omega, by omega⟩
                have hin3 : InK .i64 (sumB (fun i => (sp i).2) set i + (sp i).2) := ⟨by omega, by omega⟩
                have hin4 : InK .i64 ((cntB set i : Int) + 1) := ⟨by omega, by omega⟩
                refine Br.mk (fun hh => ?_) (fun hh => ?_)
                · have hh : set.testBit i = true := by rw [← shr_bit]; exact hh
                  have e1 : sumB (fun i => (sp i).1) set i + (sp i).1 = sumB (fun i => (sp i).1) set (i + 1) := by simp only [sumB, hh, if_true]
                  have e2 : sumB (fun i => (sp i).2) set i + (sp i).2 = sumB (fun i => (sp i).2) set (i + 1) := by simp only [sumB, hh, if_true]
                  have e3 : (cntB set i : Int) + 1 = (cntB set (i + 1) : Int) := by simp [cntB, hh]
                  refine Chk.mk hin2 (Chk.mk hin3 (Chk.mk hin4 (Chk.mk hin1 ?_)))
                  refine ⟨⟨i + 1, by omega⟩, ?_, (by show n - (i + 1) < n - i; omega)⟩
                  refine ⟨?_, ?_, rfl, rfl, rfl⟩
                  · repeat' (first | exact trivial | exact e3 | exact rfl | refine And.intro ?_ ?_)
                  · refine ⟨⟨rfl, fun i hi => rfl, rfl⟩, ⟨⟨rfl, rfl, ⟨rfl, rfl⟩, ⟨rfl, rfl⟩, trivial⟩, rfl, rfl⟩, ⟨⟨rfl, ⟨rfl, e1⟩, ⟨rfl, e2⟩, trivial⟩, rfl, rfl⟩, trivial⟩
                · have hh : set.testBit i = false := by rw [← shr_bit]; exact hh
                  have e1 : sumB (fun i => (sp i).1) set i = sumB (fun i => (sp i).1) set (i + 1) := by simp [sumB, hh]
                  have e2 : sumB (fun i => (sp i).2) set i = sumB (fun i => (sp i).2) set (i + 1) := by simp [sumB, hh]
                  have e3 : (cntB set i : Int) = (cntB set (i + 1) : Int) := by simp [cntB, hh]
                  refine Chk.mk hin1 ?_
                  refine ⟨⟨i + 1, by omega⟩, ?_, (by show n - (i + 1) < n - i; omega)⟩
                  refine ⟨?_, ?_, rfl, rfl, rfl⟩
                  · repeat' (first | exact trivial | exact e3 | exact rfl | refine And.intro ?_ ?_)
                  · refine ⟨⟨rfl, fun i hi => rfl, rfl⟩, ⟨⟨rfl, rfl, ⟨rfl, rfl⟩, ⟨rfl, rfl⟩, trivial⟩, rfl, rfl⟩, ⟨⟨rfl, ⟨rfl, e1⟩, ⟨rfl, e2⟩, trivial⟩, rfl, rfl⟩, trivial⟩
              · replace h : ¬ (i : Int) < (n : Int) := of_decide_eq_false h
                have hin' : i = n := by omega
                subst hin'
                have h8 : i ≤ 8 := by omega
                have s1 := sumB_le (f := fun i => (sp i).1) set (B := 1000) (by omega) i (fun j hj => by have := hin j (by omega); omega)
                have s2 := sumB_le (f := fun i => (sp i).2) set (B := 1000) (by omega) i (fun j hj => by have := hin j (by omega); omega)
                have hcs : cntB set i = sizeN set := cntB_size i set (by rw [hn, hN]; exact hs1)
                have hsz := sizeN_le set
                have hge := sizeN_ge hs0
                have hof : ofL L lo hi set = (((sizeN set : Int) - 1) * lo + sumB (fun i => (sp i).1) set i, ((sizeN set : Int) - 1) * hi + sumB (fun i => (sp i).2) set i) := by
                  rw [← hL', ofL_map]; rfl
                obtain ⟨hlo0, hlh, hhi5⟩ : 0 ≤ lo ∧ lo ≤ hi ∧ hi ≤ 5 := ⟨(setOk_len hok).2.1, (setOk_len hok).2.2.1, (setOk_len hok).2.2.2.1⟩
                have m1 := mul_le (x := (sizeN set : Int) - 1) (y := lo) (by omega) (by omega) (by omega) (by omega)
                have m2 := mul_le (x := (sizeN set : Int) - 1) (y := hi) (by omega) (by omega) (by omega) (by omega)
                have hw := want_ok (x := x) (y := y) (by omega) (by omega)
                obtain ⟨r1, _, _, _⟩ := right_spec (L := L) (lo := lo) (hi := hi) (m := set) hok hw hs0 (by rw [hN]; exact hs1)
                have hles := ofL_le hok hs0
                have hss : isSetB L.length (set : Int) = true := isSet_ok.2 ⟨by simpa using hs0, by rw [hN]; simpa using hs1, by omega⟩
                have hlg : errV L lo hi (isSetB L.length (set : Int)) = 0 := err_ok hok hss
                have hlv : longV L lo hi (set : Int) = ofL L lo hi set := by rw [longV, hlg, if_pos rfl]; rfl
                have hrw : rightW L lo hi (set : Int) (x % 5001) (min 5000 (x % 5001 + y)) = rightV (ofL L lo hi set) (x % 5001, min 5000 (x % 5001 + y)) := by rw [rightW, r1, if_pos rfl]; rfl
                have hwl := want_le hw
                rw [hcs]
                rw [hof] at hles hlv hrw
                have k1 : InK .i64 ((sizeN set : Int) - 1) := ⟨by omega, by omega⟩
                have k2 : InK .i64 (((sizeN set : Int) - 1) * lo) := ⟨by omega, by omega⟩
                have k3 : InK .i64 (sumB (fun i => (sp i).1) set i + ((sizeN set : Int) - 1) * lo) := ⟨by omega, by omega⟩
                have k4 : InK .i64 (((sizeN set : Int) - 1) * hi) := ⟨by omega, by omega⟩
                have k5 : InK .i64 (sumB (fun i => (sp i).2) set i + ((sizeN set : Int) - 1) * hi) := ⟨by omega, by omega⟩
                refine Chk.mk k1 (Chk.mk k2 (Chk.mk k3 (Chk.mk k1 (Chk.mk k4 (Chk.mk k5 ?_)))))
                refine Chk.mk ⟨hx, hy⟩ ?_
                refine Chk.mk ⟨spans_sp _ _, rfl, hl⟩ ?_
                rw [hL, hlg, hlv]
                refine Chk.mk ⟨spans_sp _ _, rfl, hl⟩ ?_
                rw [hL, r1, hrw]
                refine drawn_ok (g.ok _ _ _) fol [0,1,0,4,15,31,63,127,63,319,1023,2047,0,4096,0,16384,61440,127039,258111,520255,258111,1306687,4190271,8384575,262143,33554431] [] 26 (by kernel_rfl) ?_
                refine hR _ _ ?_ rfl
                show _ = true
                generalize x % 5001 = a at *
                generalize min 5000 (a + y) = b at *
                generalize ((sizeN set : Int) - 1) * lo = q1 at *
                generalize ((sizeN set : Int) - 1) * hi = q2 at *
                generalize sumB (fun i => (sp i).1) set i = u1 at *
                generalize sumB (fun i => (sp i).2) set i = u2 at *
                have c1 : q1 + u1 = u1 + q1 := Int.add_comm _ _
                have c2 : q2 + u2 = u2 + q2 := Int.add_comm _ _
                rw [c1, c2] at hles ⊢
                generalize u1 + q1 = A at hles ⊢
                generalize u2 + q2 = B at hles ⊢
                replace hles : A ≤ B := hles
                have key : (rightV (A, B) (a, b) = 2 ∧ (a ≤ A ∧ B ≤ b) ∧ ¬ (B < a ∨ b < A)) ∨ (rightV (A, B) (a, b) = 0 ∧ ¬ (a ≤ A ∧ B ≤ b) ∧ (B < a ∨ b < A)) ∨ (rightV (A, B) (a, b) = 1 ∧ ¬ (a ≤ A ∧ B ≤ b) ∧ ¬ (B < a ∨ b < A)) := by
                  unfold rightV
                  by_cases p1 : a ≤ A ∧ B ≤ b
                  · exact .inl ⟨if_pos p1, p1, by omega⟩
                  · by_cases p2 : B < a ∨ b < A
                    · exact .inr (.inl ⟨by rw [if_neg p1, if_pos p2], p1, p2⟩)
                    · exact .inr (.inr ⟨by rw [if_neg p1, if_neg p2], p1, p2⟩)
                have d1 : (decide (a ≤ A) && decide (B ≤ b)) = decide (a ≤ A ∧ B ≤ b) := by simp
                have d2 : (decide (B < a) || decide (b < A)) = decide (B < a ∨ b < A) := by simp
                simp only [d1, d2]
                rcases key with ⟨e, p1, p2⟩ | ⟨e, p1, p2⟩ | ⟨e, p1, p2⟩
                · rw [e, decide_eq_true p1, decide_eq_false p2]; simp
                · rw [e, decide_eq_false p1, decide_eq_true p2]; simp
                · rw [e, decide_eq_false p1, decide_eq_false p2]; simp
  · cases hk
end Go.X.S
end
