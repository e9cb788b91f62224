/- Contracts of functions of the package stack and of its document, continued, and that both come to the same. -/
import Derived.Test.YtacaohoiekglfaaNA
import Derived.Test.YtacaohoiekglfaaMC

section
set_option linter.unusedVariables false
set_option linter.unusedSimpArgs false
set_option linter.unusedSectionVars false
/- Stack: what is found of all lengths is what is found of all stacks (plain law). -/
set_option linter.unusedVariables false
set_option linter.unusedSimpArgs false
set_option linter.unusedSectionVars false
namespace Go.X.S
open Go Go.Proofs Go.X

def one (x : Nat) : Fd := ⟨1, x, x, x⟩
def keyN (film : Span) (sp : Nat → Span) (n x : Nat) : Lg := ⟨wS (fun i => (sp i).1) film.1 x n, wS (fun i => (sp i).2) film.2 x n, (cntB x n : Int)⟩

theorem wS_bits {f : Nat → Int} {film : Int} {x y : Nat} : ∀ n, (∀ i, i < n → x.testBit i = y.testBit i) → wS f film x n = wS f film y n ∧ cntB x n = cntB y n
  | 0, _ => ⟨rfl, rfl⟩
  | n + 1, h => by
    obtain ⟨h1, h2⟩ := wS_bits (f := f) (film := film) n (fun i hi => h i (by omega))
    simp only [wS, cntB, h1, h2, h n (by omega), and_self]
theorem keyN_low {film : Span} {sp : Nat → Span} {n x : Nat} (h : x < 2 ^ n) : keyN film sp (n + 1) x = keyN film sp n x := by
  have hb : x.testBit n = false := Nat.testBit_lt_two_pow h
  simp only [keyN, wS, cntB, hb, if_false, Bool.false_eq_true, Nat.add_zero]
theorem keyN_high {film : Span} {sp : Nat → Span} {n x : Nat} (h : x < 2 ^ n) : keyN film sp (n + 1) (x ||| 2 ^ n) = withL film (sp n) (keyN film sp n x) := by
  have hb : (x ||| 2 ^ n).testBit n = true := by simp [Nat.testBit_or, Nat.testBit_two_pow_self]
  have hl : ∀ i, i < n → (x ||| 2 ^ n).testBit i = x.testBit i := fun i hi => by
    rw [Nat.testBit_or, Nat.testBit_two_pow_of_ne (by omega)]; simp
  have h1 := wS_bits (f := fun i => (sp i).1) (film := film.1) n hl
  have h2 := wS_bits (f := fun i => (sp i).2) (film := film.2) n hl
  simp only [keyN, wS, cntB, hb, if_true, h1.1, h1.2, h2.1, withL]
  have e : (0 < cntB x n) = (0 < (cntB x n : Int)) := by apply propext; omega
  simp only [e]
  congr 1
theorem range_double (n : Nat) : List.range (2 ^ (n + 1)) = List.range (2 ^ n) ++ (List.range (2 ^ n)).map (fun x => x ||| 2 ^ n) := by
  rw [show 2 ^ (n + 1) = 2 ^ n + 2 ^ n by rw [Nat.pow_succ]; omega, List.range_add]
  congr 1
  refine List.map_congr_left fun x hx => ?_
  rw [or_add (List.mem_range.1 hx)]; omega
theorem flat_perm {α β : Type} (f g : α → β) : ∀ l : List α, (l.flatMap fun p => [f p, g p]).Perm (l.map f ++ l.map g)
  | [] => List.Perm.refl _
  | a :: l => by
    have ih := flat_perm f g l
    simp only [List.flatMap_cons, List.map_cons, List.cons_append, List.nil_append]
    refine List.Perm.cons _ ?_
    exact (List.Perm.cons _ ih).trans List.perm_middle.symm
theorem listS_perm (film : Span) (sp : Nat → Span) : ∀ n, (listS film sp n).Perm ((List.range (2 ^ n)).map fun x => (keyN film sp n x, one x))
  | 0 => by
    refine .of_eq ?_
    simp [listS, keyN, wS, cntB, zeroL, one]
  | n + 1 => by
    have ih := listS_perm film sp n
    simp only [listS]
    refine (ih.flatMap_right _).trans ?_
    rw [range_double, List.map_append, List.map_map]
    refine (flat_perm (fun p : Lg × Fd => p) (fun p : Lg × Fd => (withL film (sp n) p.1, withF n p.2)) _).trans (.of_eq ?_)
    rw [List.map_map, List.map_map]
    congr 1
    · refine List.map_congr_left fun x hx => ?_
      simp only [Function.comp, keyN_low (List.mem_range.1 hx)]
    · refine List.map_congr_left fun x hx => ?_
      simp only [Function.comp, keyN_high (List.mem_range.1 hx)]
      rfl

theorem jo_jj1 (o : Option Fd) (x : Fd) : jo o x = jj o (some x) := by cases o <;> rfl
theorem J_upd (p : Lg → Bool) (k : Lg) (f : Fd) : ∀ m : List (Lg × Fd), J (((putA m k f).filter fun e => p e.1).map (·.2)) = if p k = true then jo (J ((m.filter fun e => p e.1).map (·.2))) f else J ((m.filter fun e => p e.1).map (·.2))
  | [] => by
    simp only [putA, lookA, updA, List.filter_cons, List.filter_nil]
    split <;> rfl
  | (k', v) :: m => by
    have ih := J_upd p k f m
    by_cases hk : k' = k
    · subst hk
      simp only [putA, lookA, updA, if_true, List.filter_cons]
      cases hp : p k' with
      | false => simp
      | true =>
        simp only [if_true, List.map_cons, J_cons, jo_jj1]
        rw [show (some (join v f)) = jj (some v) (some f) from rfl, jj_assoc, jj_comm (some f), jj_assoc]
    · have e : putA ((k', v) :: m) k f = (k', v) :: putA m k f := by
        simp only [putA, lookA, updA, if_neg hk]
      rw [e]
      simp only [List.filter_cons]
      cases hp : p k' with
      | false => simpa [hp] using ih
      | true =>
        simp only [if_true, List.map_cons, J_cons, ih]
        split
        · rw [jo_jj1, jo_jj1, jj_assoc]
        · rfl
theorem J_group (p : Lg → Bool) (S : List (Lg × Fd)) : J (((group S).filter fun e => p e.1).map (·.2)) = J ((S.filter fun e => p e.1).map (·.2)) := by
  have key : ∀ (S m : List (Lg × Fd)), J (((S.foldl (fun m p => putA m p.1 p.2) m).filter fun e => p e.1).map (·.2)) = jj (J ((m.filter fun e => p e.1).map (·.2))) (J ((S.filter fun e => p e.1).map (·.2))) := by
    intro S
    induction S with
    | nil => intro m; rfl
    | cons q r ih =>
      intro m
      simp only [List.foldl_cons]
      rw [ih, J_upd]
      simp only [List.filter_cons]
      split
      · simp only [List.map_cons, J_cons, jo_jj1, jj_assoc]
      · rfl
  have := key S []
  simp only [List.filter_nil, List.map_nil] at this
  rw [show J [] = none from rfl, jj_none] at this
  exact this

/-- The stacks of n blocks of which something is so. -/
def stacksW (n : Nat) (q : Nat → Bool) : List Nat := (List.range (2 ^ n)).filter fun x => decide (0 < x) && q x
def foundX (n : Nat) (q : Nat → Bool) : Option Fd := J ((stacksW n q).map one)
theorem keyN_zero {film : Span} {sp : Nat → Span} {n x : Nat} (h : x < 2 ^ n) : decide (keyN film sp n x ≠ zeroL) = decide (0 < x) := by
  rw [decide_eq_decide]
  rcases Nat.eq_zero_or_pos x with h0 | h0
  · subst h0
    have e : keyN film sp n 0 = zeroL := by
      have : ∀ (f : Nat → Int) (film : Int) n, wS f film 0 n = 0 ∧ cntB 0 n = 0 := by
        intro f film n
        induction n with
        | zero => exact ⟨rfl, rfl⟩
        | succ n ih => simp [wS, cntB, ih.1, ih.2]
      simp [keyN, zeroL, (this _ film.1 n).1, (this _ film.2 n).1, (this (fun i => (sp i).1) film.1 n).2]
    simp [e]
  · have := cntB_size n x h
    have h2 := sizeN_ge h0
    refine ⟨fun _ => h0, fun _ e => ?_⟩
    have e2 := congrArg Lg.many e
    simp only [keyN, zeroL] at e2
    omega
theorem allL_found (film : Span) (n : Nat) (sp : Nat → Span) (p : Lg → Bool) : J (allL film n sp p) = foundX n fun x => p (keyN film sp n x) := by
  unfold allL lenM
  rw [J_group]
  rw [List.filter_filter]
  have h := listS_perm film sp n
  rw [J_perm ((h.filter (fun e => p e.1 && decide (e.1 ≠ zeroL))).map (·.2))]
  unfold foundX stacksW
  rw [List.filter_map, List.map_map]
  congr 1
  have e : List.filter ((fun e : Lg × Fd => p e.1 && decide (e.1 ≠ zeroL)) ∘ fun x => (keyN film sp n x, one x)) (List.range (2 ^ n)) = List.filter (fun x => decide (0 < x) && p (keyN film sp n x)) (List.range (2 ^ n)) := by
    refine List.filter_congr fun x hx => ?_
    simp only [Function.comp]
    rw [keyN_zero (List.mem_range.1 hx), Bool.and_comm]
  rw [e]
  rfl
theorem allL_nil {film : Span} {n : Nat} {sp : Nat → Span} {p : Lg → Bool} : decide (0 < (allL film n sp p).length) = (foundX n fun x => p (keyN film sp n x)).isSome := by
  rw [← allL_found]
  cases h : allL film n sp p with
  | nil => rfl
  | cons x r =>
    cases hj : J (x :: r) with
    | none => exact absurd (J_none.1 hj) (by simp)
    | some f => simp
theorem keyN_ofW {film : Span} {sp : Nat → Span} {n x : Nat} : (⟨(ofW ((List.range n).map sp) film.1 film.2 x).1, (ofW ((List.range n).map sp) film.1 film.2 x).2.1, (ofW ((List.range n).map sp) film.1 film.2 x).2.2⟩ : Lg) = keyN film sp n x := by
  rw [ofW_map]; rfl
end Go.X.S
end

section
set_option linter.unusedVariables false
set_option linter.unusedSimpArgs false
set_option linter.unusedSectionVars false
/- Stack: Fewest, Count, Needed. -/
set_option linter.unusedVariables false
set_option linter.unusedSimpArgs false
set_option linter.unusedSectionVars false
set_option maxRecDepth 10000
set_option maxHeartbeats 1000000
namespace Go.X.S
open Go Go.Proofs Go.X

theorem J_all (P : Fd → Prop) (hP : ∀ f x, P f → P x → P (join f x)) {l : List Fd} (h : ∀ x ∈ l, P x) {f : Fd} (hj : J l = some f) : P f := by
  have key : ∀ (l : List Fd) (o : Option Fd), (∀ g, o = some g → P g) → (∀ x ∈ l, P x) → ∀ g, l.foldl jo o = some g → P g := by
    intro l
    induction l with
    | nil => intro o ho _ g hg; exact ho g hg
    | cons x r ih =>
      intro o ho hl g hg
      refine ih (jo o x) (fun g hg => ?_) (fun y hy => hl y (List.mem_cons_of_mem _ hy)) g hg
      have hx := hl x List.mem_cons_self
      cases o with
      | none => cases hg; exact hx
      | some o' => cases hg; exact hP _ _ (ho o' rfl) hx
  exact key l none (fun g hg => by cases hg) h f hj
theorem foundX_lt {n : Nat} {q : Nat → Bool} {f : Fd} (h : foundX n q = some f) : f.least < 2 ^ n ∧ f.each < 2 ^ n ∧ f.some < 2 ^ n := by
  refine J_all (fun f => f.least < 2 ^ n ∧ f.each < 2 ^ n ∧ f.some < 2 ^ n) (fun f x hf hx => ?_) (fun x hx => ?_) h
  · refine ⟨?_, Nat.lt_of_le_of_lt Nat.and_le_left hf.2.1, Nat.or_lt_two_pow hf.2.2 hx.2.2⟩
    simp only [join]
    split
    · exact hx.1
    · exact hf.1
  · obtain ⟨y, hy, rfl⟩ := List.mem_map.1 hx
    have := List.mem_range.1 (List.mem_filter.1 hy).1
    exact ⟨this, this, this⟩
def qIn (L : List Span) (lo hi : Int) (w : Span) (x : Nat) : Bool := insideB w ((ofL L lo hi x).1, (ofL L lo hi x).2, 0)
def qMe (L : List Span) (lo hi : Int) (w : Span) (x : Nat) : Bool := meetsB w ((ofL L lo hi x).1, (ofL L lo hi x).2, 0)
theorem foundX_congr {n : Nat} {q q' : Nat → Bool} (h : ∀ x, 0 < x → x < 2 ^ n → q x = q' x) : foundX n q = foundX n q' := by
  unfold foundX stacksW
  congr 2
  refine List.filter_congr fun x hx => ?_
  cases h0 : decide (0 < x) with
  | false => rfl
  | true => rw [h x (of_decide_eq_true h0) (List.mem_range.1 hx)]
theorem all_in {n : Nat} {sp : Nat → Span} {lo hi a b : Int} : (foundX n fun x => isP 74 (a, b) (keyN (lo, hi) sp n x)) = foundX n (qIn ((List.range n).map sp) lo hi (a, b)) := by
  refine foundX_congr fun x h0 hx => ?_
  have h := ofW_ofL (L := (List.range n).map sp) (lo := lo) (hi := hi) h0 (by simpa using hx)
  have hk := keyN_ofW (film := (lo, hi)) (sp := sp) (n := n) (x := x)
  rw [← hk, h]
  rfl
theorem all_me {n : Nat} {sp : Nat → Span} {lo hi a b : Int} : (foundX n fun x => isP 73 (a, b) (keyN (lo, hi) sp n x)) = foundX n (qMe ((List.range n).map sp) lo hi (a, b)) := by
  refine foundX_congr fun x h0 hx => ?_
  have h := ofW_ofL (L := (List.range n).map sp) (lo := lo) (hi := hi) h0 (by simpa using hx)
  have hk := keyN_ofW (film := (lo, hi)) (sp := sp) (n := n) (x := x)
  rw [← hk, h]
  rfl
def fewW (L : List Span) (lo hi a b : Int) : Int × Int :=
  if errV L lo hi (isWantB a b) = 0 then (match foundX L.length (qIn L lo hi (a, b)) with | some f => ((f.least : Int), 0) | none => (0, 4)) else (0, errV L lo hi (isWantB a b))
def c21 : Ct := stCt fun L lo hi r => match r with
  | [.agg [.si .i64 a, .si .i64 b]] => some (some (L.length ≤ 40), .tup [.si .i64 (fewW L lo hi a b).1, .si .i64 (fewW L lo hi a b).2])
  | _ => none
theorem k21 {l : List (Nat × Ct)} (g0 : Good P T l) : COk P 21 c21 := by
  have g := g53 (g50 (g41 (g47 g0)))
  refine cokD (C := tabC _) g.ok answer_ok Try.func21 (c := code Try.f21) rfl fun fr args H out h hp => stWalkD h hp fun n sp lo hi r p v Rv hk hp hR => ?_
  split at hk
  · rename_i a b
    cases hk
    have hp : ((List.range n).map sp).length ≤ 40 := hp
    have hp' : n ≤ 40 := by simpa using hp
    refine ⟨Nat.le_of_ble_eq_true rfl, fun G hG => ?_⟩
    refine fb_defer (g.ok _ _ _) rfl cont_std rfl rfl rfl rfl ?_
    refine drawn_ok (g.ok _ _ _) fol [0,0,2,7,0,16,48,127,255,511,511,0,3071,8191] [(12, 48)] 14 (by kernel_rfl) ?_
    refine Chk.mk (spans_sp _ _) ?_
    generalize hE : errV ((List.range n).map sp) lo hi (isWantB a b) = E at hR
    have hall := all_in (n := n) (sp := sp) (lo := lo) (hi := hi) (a := a) (b := b)
    refine Br.mk (fun h => ?_) (fun h => ?_)
    · have h : (!decide (errV ((List.range n).map sp) lo hi (isWantB a b) = 0)) = true := h
      rw [hE] at h
      have h : ¬ E = 0 := by simpa using h
      have hw : fewW ((List.range n).map sp) lo hi a b = (0, E) := by rw [fewW, hE, if_neg h]
      exact hR _ _ ⟨⟨rfl, by rw [hw]⟩, ⟨rfl, by rw [hw]; exact hE⟩, trivial⟩ rfl
    · have h : (!decide (errV ((List.range n).map sp) lo hi (isWantB a b) = 0)) = false := h
      rw [hE] at h
      have h : E = 0 := by simpa using h
      obtain ⟨q1, q2⟩ := errV_zero (hE.trans h)
      refine Chk.mk ⟨.inr rfl, spans_sp _ _, okSet_of q1⟩ ?_
      refine Br.mk (fun hb => ?_) (fun hb => ?_)
      · have hb : (!decide (0 < (allL (lo, hi) n sp (isP 74 (a, b))).length)) = true := hb
        rw [allL_nil, hall] at hb
        cases hf : foundX n (qIn ((List.range n).map sp) lo hi (a, b)) with
        | some f => rw [hf] at hb; cases hb
        | none =>
          have hw : fewW ((List.range n).map sp) lo hi a b = (0, 4) := by rw [fewW, hE, if_pos h, List.length_map, List.length_range, hf]
          exact hR _ _ ⟨⟨rfl, by rw [hw]⟩, ⟨rfl, by rw [hw]⟩, trivial⟩ rfl
      · have hb : (!decide (0 < (allL (lo, hi) n sp (isP 74 (a, b))).length)) = false := hb
        rw [allL_nil, hall] at hb
        cases hf : foundX n (qIn ((List.range n).map sp) lo hi (a, b)) with
        | none => rw [hf] at hb; cases hb
        | some f =>
          have hw : fewW ((List.range n).map sp) lo hi a b = ((f.least : Int), 0) := by rw [fewW, hE, if_pos h, List.length_map, List.length_range, hf]
          have hJ : J (allL (lo, hi) n sp (isP 74 (a, b))) = some f := (allL_found _ _ _ _).trans (hall.trans hf)
          have hlt := (foundX_lt hf).1
          have h256 := pow_le8 (n := n) (by have := (okSet_of q1).1; simpa using this)
          have hl : ((J (allL (lo, hi) n sp (isP 74 (a, b)))).getD zeroF).least = f.least := by rw [hJ]; rfl
          refine Chk.mk ?_ (hR _ _ ⟨⟨rfl, ?_⟩, ⟨rfl, by rw [hw]⟩, trivial⟩ rfl)
          · show InK .i64 ((((J (allL (lo, hi) n sp (isP 74 (a, b)))).getD zeroF).least : Nat) : Int)
            rw [hl]
            exact ⟨by omega, by omega⟩
          · show ((((J (allL (lo, hi) n sp (isP 74 (a, b)))).getD zeroF).least : Nat) : Int) = _
            rw [hl, hw]
  · cases hk
theorem g21 {l : List (Nat × Ct)} (g : Good P T l) : Good P T ((21, c21) :: l) := g.add (k21 g) (stCt_mono _) (body_of Try.func21 (c := code Try.f21) rfl (by decide))

def needW (L : List Span) (lo hi a b : Int) : Int × Int × Int :=
  if errV L lo hi (isWantB a b) = 0 then (match foundX L.length (qIn L lo hi (a, b)) with | some f => ((f.each : Int), (f.some : Int), 0) | none => (0, 0, 4)) else (0, 0, errV L lo hi (isWantB a b))
def c23 : Ct := stCt fun L lo hi r => match r with
  | [.agg [.si .i64 a, .si .i64 b]] => some (some (L.length ≤ 40), .tup [.si .i64 (needW L lo hi a b).1, .si .i64 (needW L lo hi a b).2.1, .si .i64 (needW L lo hi a b).2.2])
  | _ => none
theorem k23 {l : List (Nat × Ct)} (g0 : Good P T l) : COk P 23 c23 := by
  have g := g53 (g50 (g41 (g47 g0)))
  refine cokD (C := tabC _) g.ok answer_ok Try.func23 (c := code Try.f23) rfl fun fr args H out h hp => stWalkD h hp fun n sp lo hi r p v Rv hk hp hR => ?_
  split at hk
  · rename_i a b
    cases hk
    have hp : ((List.range n).map sp).length ≤ 40 := hp
    have hp' : n ≤ 40 := by simpa using hp
    refine ⟨Nat.le_of_ble_eq_true rfl, fun G hG => ?_⟩
    refine fb_defer (g.ok _ _ _) rfl cont_std rfl rfl rfl rfl ?_
    refine drawn_ok (g.ok _ _ _) fol [0,0,2,7,0,16,48,127,255,511,511,0,3071,8191] [(12, 48)] 14 (by kernel_rfl) ?_
    refine Chk.mk (spans_sp _ _) ?_
    generalize hE : errV ((List.range n).map sp) lo hi (isWantB a b) = E at hR
    have hall := all_in (n := n) (sp := sp) (lo := lo) (hi := hi) (a := a) (b := b)
    refine Br.mk (fun h => ?_) (fun h => ?_)
    · have h : (!decide (errV ((List.range n).map sp) lo hi (isWantB a b) = 0)) = true := h
      rw [hE] at h
      have h : ¬ E = 0 := by simpa using h
      have hw : needW ((List.range n).map sp) lo hi a b = (0, 0, E) := by rw [needW, hE, if_neg h]
      exact hR _ _ ⟨⟨rfl, by rw [hw]⟩, ⟨rfl, by rw [hw]⟩, ⟨rfl, by rw [hw]; exact hE⟩, trivial⟩ rfl
    · have h : (!decide (errV ((List.range n).map sp) lo hi (isWantB a b) = 0)) = false := h
      rw [hE] at h
      have h : E = 0 := by simpa using h
      obtain ⟨q1, q2⟩ := errV_zero (hE.trans h)
      refine Chk.mk ⟨.inr rfl, spans_sp _ _, okSet_of q1⟩ ?_
      refine Br.mk (fun hb => ?_) (fun hb => ?_)
      · have hb : (!decide (0 < (allL (lo, hi) n sp (isP 74 (a, b))).length)) = true := hb
        rw [allL_nil, hall] at hb
        cases hf : foundX n (qIn ((List.range n).map sp) lo hi (a, b)) with
        | some f => rw [hf] at hb; cases hb
        | none =>
          have hw : needW ((List.range n).map sp) lo hi a b = (0, 0, 4) := by rw [needW, hE, if_pos h, List.length_map, List.length_range, hf]
          exact hR _ _ ⟨⟨rfl, by rw [hw]⟩, ⟨rfl, by rw [hw]⟩, ⟨rfl, by rw [hw]⟩, trivial⟩ rfl
      · have hb : (!decide (0 < (allL (lo, hi) n sp (isP 74 (a, b))).length)) = false := hb
        rw [allL_nil, hall] at hb
        cases hf : foundX n (qIn ((List.range n).map sp) lo hi (a, b)) with
        | none => rw [hf] at hb; cases hb
        | some f =>
          have hw : needW ((List.range n).map sp) lo hi a b = ((f.each : Int), (f.some : Int), 0) := by rw [needW, hE, if_pos h, List.length_map, List.length_range, hf]
          have hJ : J (allL (lo, hi) n sp (isP 74 (a, b))) = some f := (allL_found _ _ _ _).trans (hall.trans hf)
          have hlt := (foundX_lt hf).2
          have h256 := pow_le8 (n := n) (by have := (okSet_of q1).1; simpa using this)
          have hl : ((J (allL (lo, hi) n sp (isP 74 (a, b)))).getD zeroF).each = f.each ∧ ((J (allL (lo, hi) n sp (isP 74 (a, b)))).getD zeroF).some = f.some := by rw [hJ]; exact ⟨rfl, rfl⟩
          refine drawn_ok (g.ok _ _ _) fol [0,1,3,0,8,24,7,127,255] [(8, 3)] 9 (by kernel_rfl) ?_
          refine Chk.mk ?_ (Chk.mk ?_ (hR _ _ ⟨⟨rfl, ?_⟩, ⟨rfl, ?_⟩, ⟨rfl, by rw [hw]⟩, trivial⟩ rfl))
          · show InK .i64 ((((J (allL (lo, hi) n sp (isP 74 (a, b)))).getD zeroF).each : Nat) : Int)
            rw [hl.1]
            exact ⟨by omega, by omega⟩
          · show InK .i64 ((((J (allL (lo, hi) n sp (isP 74 (a, b)))).getD zeroF).some : Nat) : Int)
            rw [hl.2]
            exact ⟨by omega, by omega⟩
          · show ((((J (allL (lo, hi) n sp (isP 74 (a, b)))).getD zeroF).each : Nat) : Int) = _
            rw [hl.1, hw]
          · show ((((J (allL (lo, hi) n sp (isP 74 (a, b)))).getD zeroF).some : Nat) : Int) = _
            rw [hl.2, hw]
  · cases hk
theorem g23 {l : List (Nat × Ct)} (g : Good P T l) : Good P T ((23, c23) :: l) := g.add (k23 g) (stCt_mono _) (body_of Try.func23 (c := code Try.f23) rfl (by decide))

def cntW (L : List Span) (lo hi a b : Int) : Int × Int × Int :=
  if errV L lo hi (isWantB a b) = 0 then ((((foundX L.length (qIn L lo hi (a, b))).getD zeroF).many : Int), (((foundX L.length (qMe L lo hi (a, b))).getD zeroF).many : Int), 0) else (0, 0, errV L lo hi (isWantB a b))
def c19 : Ct := stCt fun L lo hi r => match r with
  | [.agg [.si .i64 a, .si .i64 b]] => some (some (L.length ≤ 40), .tup [.si .i64 (cntW L lo hi a b).1, .si .i64 (cntW L lo hi a b).2.1, .si .i64 (cntW L lo hi a b).2.2])
  | _ => none
theorem k19 {l : List (Nat × Ct)} (g0 : Good P T l) : COk P 19 c19 := by
  have g := g50 (g41 (g47 g0))
  refine cokD (C := tabC _) g.ok answer_ok Try.func19 (c := code Try.f19) rfl fun fr args H out h hp => stWalkD h hp fun n sp lo hi r p v Rv hk hp hR => ?_
  split at hk
  · rename_i a b
    cases hk
    have hp : ((List.range n).map sp).length ≤ 40 := hp
    have hp' : n ≤ 40 := by simpa using hp
    refine ⟨Nat.le_of_ble_eq_true rfl, fun G hG => ?_⟩
    refine fb_defer (g.ok _ _ _) rfl cont_std rfl rfl rfl rfl ?_
    refine drawn_ok (g.ok _ _ _) fol [0,0,2,7,15] [] 5 (by kernel_rfl) ?_
    refine Chk.mk (spans_sp _ _) ?_
    generalize hE : errV ((List.range n).map sp) lo hi (isWantB a b) = E at hR
    have hin := all_in (n := n) (sp := sp) (lo := lo) (hi := hi) (a := a) (b := b)
    have hme := all_me (n := n) (sp := sp) (lo := lo) (hi := hi) (a := a) (b := b)
    refine Br.mk (fun h => ?_) (fun h => ?_)
    · have h : (!decide (errV ((List.range n).map sp) lo hi (isWantB a b) = 0)) = true := h
      rw [hE] at h
      have h : ¬ E = 0 := by simpa using h
      have hw : cntW ((List.range n).map sp) lo hi a b = (0, 0, E) := by rw [cntW, hE, if_neg h]
      exact hR _ _ ⟨⟨rfl, by rw [hw]⟩, ⟨rfl, by rw [hw]⟩, ⟨rfl, by rw [hw]; exact hE⟩, trivial⟩ rfl
    · have h : (!decide (errV ((List.range n).map sp) lo hi (isWantB a b) = 0)) = false := h
      rw [hE] at h
      have h : E = 0 := by simpa using h
      obtain ⟨q1, q2⟩ := errV_zero (hE.trans h)
      have hw : cntW ((List.range n).map sp) lo hi a b = ((((foundX n (qIn ((List.range n).map sp) lo hi (a, b))).getD zeroF).many : Int), (((foundX n (qMe ((List.range n).map sp) lo hi (a, b))).getD zeroF).many : Int), 0) := by rw [cntW, hE, if_pos h, List.length_map, List.length_range]
      refine Chk.mk ⟨.inr rfl, spans_sp _ _, okSet_of q1⟩ ?_
      refine Chk.mk ⟨.inl rfl, spans_sp _ _, okSet_of q1⟩ ?_
      refine drawn_ok (g.ok _ _ _) fol [0,1,0,4,3,31,63] [(6, 3)] 7 (by kernel_rfl) ?_
      refine hR _ _ ⟨⟨rfl, ?_⟩, ⟨rfl, ?_⟩, ⟨rfl, by rw [hw]⟩, trivial⟩ rfl
      · show ((((J (allL (lo, hi) n sp (isP 74 (a, b)))).getD zeroF).many : Nat) : Int) = _
        rw [allL_found, hin, hw]
      · show ((((J (allL (lo, hi) n sp (isP 73 (a, b)))).getD zeroF).many : Nat) : Int) = _
        rw [allL_found, hme, hw]
  · cases hk
theorem g19 {l : List (Nat × Ct)} (g : Good P T l) : Good P T ((19, c19) :: l) := g.add (k19 g) (stCt_mono _) (body_of Try.func19 (c := code Try.f19) rfl (by decide))
end Go.X.S
end

section
set_option linter.unusedVariables false
set_option linter.unusedSimpArgs false
set_option linter.unusedSectionVars false
/- Stack: functions of a set of blocks and the map of its lengths; the row of best stacks. -/
set_option linter.unusedVariables false
set_option linter.unusedSimpArgs false
set_option linter.unusedSectionVars false
set_option maxRecDepth 10000
set_option maxHeartbeats 1000000
namespace Go.X.S
open Go Go.Proofs Go.X

def decL : SV → Lg
  | .agg [.si _ a, .si _ b, .si _ c] => ⟨a, b, c⟩
  | _ => zeroL
def decF : SV → Fd
  | .agg [.si _ a, .si _ b, .si _ c, .si _ d] => ⟨a.toNat, b.toNat, c.toNat, d.toNat⟩
  | _ => zeroF
def decS (es : List (SV × SV × Nat)) : List ((Lg × Fd) × Nat) := es.map fun e => ((decL e.1, decF e.2.1), e.2.2)
theorem decS_enc (ts : List ((Lg × Fd) × Nat)) : decS (encS encL encF ts) = ts := by
  simp only [decS, encS, List.map_map]
  conv => rhs; rw [← List.map_id ts]
  refine List.map_congr_left fun x _ => ?_
  obtain ⟨⟨⟨a, b, c⟩, ⟨d, e, f, g⟩⟩, m⟩ := x
  simp [decL, decF, encL, encF]
def mapCt (k : List ((Lg × Fd) × Nat) → Int → Option (Option Prop × SV)) : Ct := fun fr args H =>
  match args with
  | [.sp sid 0, .sm mid, .si .i64 len] => (match H sid with
    | some (.cells 97 [.sl id, .si .i64 lo, .si .i64 hi]) => (match sliceOf 2 H id with
      | some (n, get) => (match H mid with
        | some (.map es clk) => (match k (decS es) len with
          | some (p, v) => some ⟨some (Spans n get ∧ es = encS encL encF (decS es) ∧ PreH p), none, v, []⟩
          | none => none)
        | _ => none)
      | none => none)
    | _ => none)
  | _ => none
theorem mapCt_mono (k : List ((Lg × Fd) × Nat) → Int → Option (Option Prop × SV)) : CtMono (mapCt k) := by
  intro fr args H H' out hH h
  unfold mapCt at h ⊢
  split at h
  · split at h
    · rename_i e1
      rw [hH _ _ e1]
      split at h
      · rename_i e
        simp only [sliceOf_mono hH e]
        split at h
        · rename_i e2
          rw [hH _ _ e2]
          exact h
        · cases h
      · cases h
    · cases h
  · cases h
def mapP (sid id mid n : Nat) (lo hi : Int) (sp : Nat → Span) (es : List (SV × SV × Nat)) (clk : Nat) : List (Nat × HB) := [(sid, .cells 97 [.sl 1, .si .i64 lo, .si .i64 hi]), (id, .ro 2 n fun i => spanC (sp i)), (mid, .map es clk)]
theorem mapHand {H : LH} {sid id mid n : Nat} {lo hi : Int} {get : Nat → List SV} {es : List (SV × SV × Nat)} {clk : Nat} (h1 : H sid = some (.cells 97 [.sl id, .si .i64 lo, .si .i64 hi])) (h2 : sliceOf 2 H id = some (n, get)) (hs : Spans n get)
    (h3 : H mid = some (.map es clk)) : Hand H (mapP sid id mid n lo hi (spanAt get) es clk) where
  ok j c hb h := by
    match j, h with
    | 0, h => simp [mapP] at h; obtain ⟨rfl, rfl⟩ := h; exact h1
    | 1, h =>
      simp [mapP] at h; obtain ⟨rfl, rfl⟩ := h
      exact sliceOf_piece h2 fun i hi => by rw [hs i hi]; rfl
    | 2, h => simp [mapP] at h; obtain ⟨rfl, rfl⟩ := h; exact h3
    | j + 3, h => simp [mapP] at h
  ids j c hb h := by
    match j, h with
    | 0, h => simp [mapP] at h; obtain ⟨rfl, rfl⟩ := h; exact ⟨by show 1 < 3; decide, trivial, trivial, trivial⟩
    | 1, h => simp [mapP] at h; obtain ⟨rfl, rfl⟩ := h; exact fun i hi => ⟨trivial, trivial, trivial⟩
    | 2, h => simp [mapP] at h; obtain ⟨rfl, rfl⟩ := h; exact trivial
    | j + 3, h => simp [mapP] at h
  inj i j c hb hb' g1 g2 o1 o2 := by
    match i, j, g1, g2 with
    | 0, 0, _, _ => rfl
    | 1, 1, _, _ => rfl
    | 2, 2, _, _ => rfl
    | 0, 1, g1, g2 => simp [mapP] at g2; obtain ⟨_, rfl⟩ := g2; cases o2
    | 1, 0, g1, g2 => simp [mapP] at g1; obtain ⟨_, rfl⟩ := g1; cases o1
    | 2, 1, g1, g2 => simp [mapP] at g2; obtain ⟨_, rfl⟩ := g2; cases o2
    | 1, 2, g1, g2 => simp [mapP] at g1; obtain ⟨_, rfl⟩ := g1; cases o1
    | 0, 2, g1, g2 => simp [mapP] at g1 g2; obtain ⟨rfl, _⟩ := g1; obtain ⟨e, _⟩ := g2; rw [e] at h3; rw [h3] at h1; cases h1
    | 2, 0, g1, g2 => simp [mapP] at g1 g2; obtain ⟨rfl, _⟩ := g1; obtain ⟨e, _⟩ := g2; rw [← e] at h3; rw [h3] at h1; cases h1
    | i + 3, _, h, _ => simp [mapP] at h
    | _, j + 3, _, h => simp [mapP] at h
def mapH (n : Nat) (lo hi : Int) (sp : Nat → Span) (ts : List ((Lg × Fd) × Nat)) (clk : Nat) : List (Nat × HB) := [(0, .cells 97 [.sl 1, .si .i64 lo, .si .i64 hi]), (1, .ro 2 n fun i => spanC (sp i)), (2, .map (encS encL encF ts) clk)]
/-- Its walk. -/
theorem mapWalk {C : Nat → Option Ct} {fn : Func} {c : Code} {k : List ((Lg × Fd) × Nat) → Int → Option (Option Prop × SV)} {fr : Nat} {args : List SV} {H : LH} {out : COut} (ho : mapCt k fr args H = some out) (hp : PreH out.pre)
    (h : ∀ (n : Nat) (sp : Nat → Span) (lo hi : Int) (ts : List ((Lg × Fd) × Nat)) (clk : Nat) (len : Int) (p : Option Prop) (v : SV) (Rv : SV → St → Prop) (Rp : List PanicEntry → St → Prop), k ts len = some (p, v) → PreH p →
      (∀ v' st, SVeq v' v → knSV 0 [] v' = true → keepP st.H (mapH n lo hi sp ts clk) → Rv v' st) → 3 ≤ fn.ntmps ∧
      ∀ G : Base, (∀ j, 3 ≤ j → G.ρ j = none) → exec ⟨P, T, C, G, none, fn.ntmps⟩ c (start [.sp 0 0, .sm 2, .si .i64 len] (mapH n lo hi sp ts clk) 3) (Fin ⟨P, T, C, G, none, fn.ntmps⟩ fn.results.toList Rv Rp)) :
    Walk P T C fn c H args fr out := by
  unfold mapCt at ho
  split at ho
  · rename_i sid mid len
    split at ho
    · rename_i id lo hi e1
      split at ho
      · rename_i n get e
        split at ho
        · rename_i es clk e2
          split at ho
          · rename_i p v hk
            cases ho
            obtain ⟨hs, hes, hp⟩ : Spans n get ∧ es = encS encL encF (decS es) ∧ PreH p := hp
            have hh := mapHand e1 e hs e2
            have h0 := h n (spanAt get) lo hi (decS es) clk len p v (fun v' st => ((none : Option (Bool × List PanicEntry)) = none ∨ ∃ ch, (none : Option (Bool × List PanicEntry)) = some (false, ch)) ∧ EndOk (mapP sid id mid n lo hi (spanAt get) es clk) [] fr ⟨some (Spans n get ∧ es = encS encL encF (decS es) ∧ PreH p), none, v, []⟩ v' st)
              (fun ch st => (none : Option (Bool × List PanicEntry)) = some (true, ch) ∧ keepP st.H (mapH n lo hi (spanAt get) (decS es) clk)) hk hp
              (fun v' st h1 h2 h3 => ⟨.inl rfl, end_noid h1 h2 rfl (by
                have e3 : mapH n lo hi (spanAt get) (decS es) clk = numb 0 (mapP sid id mid n lo hi (spanAt get) es clk) := by
                  simp only [mapH, mapP, numb, ← hes]
                rw [← e3]; exact h3)⟩)
            have e3 : mapH n lo hi (spanAt get) (decS es) clk = numb 0 (mapP sid id mid n lo hi (spanAt get) es clk) := by
              simp only [mapH, mapP, numb, ← hes]
            refine ⟨mapP sid id mid n lo hi (spanAt get) es clk, [.sp 0 0, .sm 2, .si .i64 len], mapH n lo hi (spanAt get) (decS es) clk, 3, [], rfl, rfl, h0.1, hh, e3, rfl, h0.2⟩
          · cases ho
        · cases ho
      · cases ho
    · cases ho
  · cases ho
end Go.X.S
end

section
set_option linter.unusedVariables false
set_option linter.unusedSimpArgs false
set_option linter.unusedSectionVars false
/- Stack: the row of the best stacks. -/
set_option linter.unusedVariables false
set_option linter.unusedSimpArgs false
set_option linter.unusedSectionVars false
set_option maxRecDepth 10000
set_option maxHeartbeats 2000000
namespace Go.X.S
open Go Go.Proofs Go.X

def ltC (c b : Int × Nat) : Bool := decide (c.1 < b.1) || (decide (c.1 = b.1) && lessN c.2 b.2)
def bestO : Option (Int × Nat) → Int × Nat → Option (Int × Nat)
  | none, c => some c
  | some b, c => if ltC c b = true then some c else some b
def offK (len : Int) (k : Lg) : Int := max (len - k.lo) (k.hi - len)
def stepR (len : Int) (m : Nat) (o : Option (Int × Nat)) (e : Lg × Fd) : Option (Int × Nat) := if e.1.many = (m : Int) then bestO o (offK len e.1, e.2.least) else o
def rowR (len : Int) (l : List (Lg × Fd)) (m : Nat) : Option (Int × Nat) := l.foldl (stepR len m) none
def c0 : Option (Int × Nat) → Int
  | none => 0
  | some c => c.2
def c1 : Option (Int × Nat) → Int
  | none => 0
  | some c => c.1
def c2 : Option (Int × Nat) → Bool
  | none => false
  | some c => true
def rowCells (R : Nat → Option (Int × Nat)) : List SV :=
  [.si .u64 (c0 (R 0)), .si .i64 (c1 (R 0)), .sb (c2 (R 0)), .si .u64 (c0 (R 1)), .si .i64 (c1 (R 1)), .sb (c2 (R 1)), .si .u64 (c0 (R 2)), .si .i64 (c1 (R 2)), .sb (c2 (R 2)),
   .si .u64 (c0 (R 3)), .si .i64 (c1 (R 3)), .sb (c2 (R 3)), .si .u64 (c0 (R 4)), .si .i64 (c1 (R 4)), .sb (c2 (R 4)), .si .u64 (c0 (R 5)), .si .i64 (c1 (R 5)), .sb (c2 (R 5)),
   .si .u64 (c0 (R 6)), .si .i64 (c1 (R 6)), .sb (c2 (R 6)), .si .u64 (c0 (R 7)), .si .i64 (c1 (R 7)), .sb (c2 (R 7)), .si .u64 (c0 (R 8)), .si .i64 (c1 (R 8)), .sb (c2 (R 8))]
theorem SVeqL_refl : ∀ l : List SV, (∀ x ∈ l, SVeq x x) → SVeqL l l
  | [], _ => trivial
  | x :: r, h => ⟨h x List.mem_cons_self, SVeqL_refl r fun y hy => h y (List.mem_cons_of_mem _ hy)⟩
theorem rowCells_refl (R : Nat → Option (Int × Nat)) : SVeq (.agg (rowCells R)) (.agg (rowCells R)) := by
  show SVeqL (rowCells R) (rowCells R)
  repeat' (first | exact trivial | exact rfl | refine And.intro ?_ ?_)

/-! ### the least of several, whatever their order -/
theorem ltC_trans {a b c : Int × Nat} (h1 : ltC a b = true) (h2 : ltC b c = true) : ltC a c = true := by
  simp only [ltC, Bool.or_eq_true, Bool.and_eq_true, decide_eq_true_eq, lessN_iff] at *
  omega
theorem ltC_tot {a b : Int × Nat} (h1 : ¬ ltC a b = true) (h2 : ¬ ltC b a = true) : a = b := by
  simp only [ltC, Bool.or_eq_true, Bool.and_eq_true, decide_eq_true_eq, lessN_iff] at *
  have e1 : a.1 = b.1 := by omega
  have e2 : a.2 = b.2 := by omega
  exact Prod.ext e1 e2
theorem ltC_not {a b c : Int × Nat} (h1 : ¬ ltC a b = true) (h2 : ltC a c = true) : ltC b c = true := by
  simp only [ltC, Bool.or_eq_true, Bool.and_eq_true, decide_eq_true_eq, lessN_iff] at *
  omega
theorem ltC_irr (a : Int × Nat) : ¬ ltC a a = true := by
  simp only [ltC, Bool.or_eq_true, Bool.and_eq_true, decide_eq_true_eq, lessN_iff]
  omega
/-- The least of what is in a set. -/
def Best (S : Int × Nat → Prop) : Option (Int × Nat) → Prop
  | none => ∀ c, ¬ S c
  | some b => S b ∧ ∀ c, S c → ¬ ltC c b = true
theorem Best.uniq {S : Int × Nat → Prop} {o o' : Option (Int × Nat)} (h : Best S o) (h' : Best S o') : o = o' := by
  cases o with
  | none => cases o' with
    | none => rfl
    | some b => exact absurd h'.1 (h b)
  | some a => cases o' with
    | none => exact absurd h.1 (h' a)
    | some b => rw [ltC_tot (h'.2 a h.1) (h.2 b h'.1)]
theorem Best.add {S : Int × Nat → Prop} {o : Option (Int × Nat)} (h : Best S o) (c : Int × Nat) : Best (fun x => S x ∨ x = c) (bestO o c) := by
  cases o with
  | none => exact ⟨.inr rfl, fun x hx => by rcases hx with hx | rfl; exact absurd hx (h x); exact ltC_irr _⟩
  | some b =>
    simp only [bestO]
    split
    · rename_i hl
      refine ⟨.inr rfl, fun x hx => ?_⟩
      rcases hx with hx | rfl
      · exact fun hc => h.2 x hx (ltC_trans hc hl)
      · exact ltC_irr _
    · rename_i hl
      exact ⟨.inl h.1, fun x hx => by rcases hx with hx | rfl; exact h.2 x hx; exact hl⟩
theorem Best.congr {S S' : Int × Nat → Prop} {o : Option (Int × Nat)} (h : Best S o) (e : ∀ c, S c ↔ S' c) : Best S' o := by
  have : S = S' := funext fun c => propext (e c)
  rw [← this]; exact h
def inRow (len : Int) (l : List (Lg × Fd)) (m : Nat) (c : Int × Nat) : Prop := ∃ e ∈ l, e.1.many = (m : Int) ∧ c = (offK len e.1, e.2.least)
theorem rowR_snoc (len : Int) (l : List (Lg × Fd)) (e : Lg × Fd) (m : Nat) : rowR len (l ++ [e]) m = stepR len m (rowR len l m) e := by
  simp only [rowR, List.foldl_append, List.foldl_cons, List.foldl_nil]
theorem rowR_best (len : Int) (m : Nat) : ∀ l : List (Lg × Fd), Best (inRow len l m) (rowR len l m) := by
  have key : ∀ (l : List (Lg × Fd)) (S : Int × Nat → Prop) (o : Option (Int × Nat)), Best S o → Best (fun c => S c ∨ inRow len l m c) (l.foldl (stepR len m) o) := by
    intro l
    induction l with
    | nil => intro S o h; exact h.congr fun c => ⟨.inl, fun hc => hc.elim id fun ⟨e, he, _⟩ => by cases he⟩
    | cons e r ih =>
      intro S o h
      simp only [List.foldl_cons]
      by_cases hm : e.1.many = (m : Int)
      · have h2 := ih _ _ (h.add (offK len e.1, e.2.least))
        simp only [stepR, if_pos hm]
        refine h2.congr fun c => ⟨?_, ?_⟩
        · rintro ((h | rfl) | ⟨e', he', h1, h2⟩)
          · exact .inl h
          · exact .inr ⟨e, List.mem_cons_self, hm, rfl⟩
          · exact .inr ⟨e', List.mem_cons_of_mem _ he', h1, h2⟩
        · rintro (h | ⟨e', he', h3, h4⟩)
          · exact .inl (.inl h)
          · rcases List.mem_cons.1 he' with rfl | he'
            · exact .inl (.inr h4)
            · exact .inr ⟨e', he', h3, h4⟩
      · have h2 := ih _ _ h
        simp only [stepR, if_neg hm]
        refine h2.congr fun c => ⟨?_, ?_⟩
        · rintro (h | ⟨e', he', h1, h2⟩)
          · exact .inl h
          · exact .inr ⟨e', List.mem_cons_of_mem _ he', h1, h2⟩
        · rintro (h | ⟨e', he', h1, h2⟩)
          · exact .inl h
          · rcases List.mem_cons.1 he' with rfl | he'
            · exact absurd h1 hm
            · exact .inr ⟨e', he', h1, h2⟩
  intro l
  exact (key l (fun _ => False) none (fun c h => h)).congr fun c => ⟨fun h => h.elim False.elim id, .inr⟩
theorem rowR_perm {len : Int} {l l' : List (Lg × Fd)} (h : l.Perm l') : rowR len l = rowR len l' := by
  funext m
  refine (rowR_best len m l).uniq ((rowR_best len m l').congr fun c => ?_)
  exact ⟨fun ⟨e, he, h1⟩ => ⟨e, h.mem_iff.2 he, h1⟩, fun ⟨e, he, h1⟩ => ⟨e, h.mem_iff.1 he, h1⟩⟩

def okTs (ts : List ((Lg × Fd) × Nat)) : Prop := ∀ e ∈ ts, (0 ≤ e.1.1.lo ∧ e.1.1.lo ≤ 100000) ∧ (0 ≤ e.1.1.hi ∧ e.1.1.hi ≤ 100000) ∧ (1 ≤ e.1.1.many ∧ e.1.1.many ≤ 8) ∧ e.1.2.least < 256
def c67 : Ct := mapCt fun ts len => some (some (okTs ts ∧ 0 ≤ len ∧ len ≤ 100000), .agg (rowCells (rowR len (ts.map (·.1)))))
theorem row_yes {o : Option (Int × Nat)} {off : Int} {fl : Nat} (h : ((!c2 o || decide (off < c1 o)) || (decide (off = c1 o) && lessB fl (c0 o))) = true) : bestO o (off, fl) = some (off, fl) := by
  cases o with
  | none => rfl
  | some b =>
    simp only [c0, c1, c2, lessB_nat, Bool.not_true, Bool.false_or] at h
    have h' : ltC (off, fl) b = true := h
    simp only [bestO]
    rw [if_pos h']
theorem row_no {o : Option (Int × Nat)} {off : Int} {fl : Nat} (h : ((!c2 o || decide (off < c1 o)) || (decide (off = c1 o) && lessB fl (c0 o))) = false) : bestO o (off, fl) = o := by
  cases o with
  | none => simp [c2] at h
  | some b =>
    simp only [c0, c1, c2, lessB_nat, Bool.not_true, Bool.false_or] at h
    have h' : ltC (off, fl) b = false := h
    simp only [bestO]
    rw [if_neg (by rw [h']; exact Bool.false_ne_true)]
theorem rowR_small {len : Int} {l : List (Lg × Fd)} (h : ∀ e ∈ l, e.2.least < 256) (m : Nat) : 0 ≤ c0 (rowR len l m) ∧ c0 (rowR len l m) < 256 := by
  have hb := rowR_best len m l
  cases hr : rowR len l m with
  | none => exact ⟨by decide, by decide⟩
  | some c =>
    rw [hr] at hb
    obtain ⟨e, he, _, rfl⟩ := hb.1
    have := h e he
    simp only [c0]
    omega
theorem rowR_new {len : Int} {l : List (Lg × Fd)} {e : Lg × Fd} {R : Nat → Option (Int × Nat)} {X : Option (Int × Nat)} {k : Nat} (hR : rowR len l = R) (hk : e.1.many = (k : Int)) (hX : bestO (R k) (offK len e.1, e.2.least) = X) :
    rowR len (l ++ [e]) = fun m => if k = m then X else R m := by
  funext m
  rw [rowR_snoc, stepR, hk, hR]
  by_cases h : k = m
  · subst h; rw [if_pos rfl, if_pos rfl, hX]
  · rw [if_neg (by omega), if_neg h]
theorem k67 {l : List (Nat × Ct)} (g0 : Good P T l) : COk P 67 c67 := by
  have g := g74 g0
  refine cok (C := tabC _) g.ok Try.func67 (c := code Try.f67) rfl fun fr args H out h hp => mapWalk h hp fun n sp lo hi ts clk len p v Rv Rp hk hp hR => ?_
  cases hk
  obtain ⟨hts, hl0, hl1⟩ : okTs ts ∧ 0 ≤ len ∧ len ≤ 100000 := hp
  refine ⟨Nat.le_of_ble_eq_true rfl, fun G hG => ?_⟩
  refine fb_rangeM encL encF ts clk 2 (g.ok _ _ _) cont_std rfl rfl rfl rfl rfl rfl rfl encL_key encF_cl rfl rfl ?_
  refine loop_ok (g.ok _ _ _) (fun x : {p : List ((Lg × Fd) × Nat) × List ((Lg × Fd) × Nat) // ts.Perm (p.1 ++ p.2)} => ⟨[(1, ⟨[], .sm 2⟩), (2, ⟨[], .si .i64 len⟩), (6, ⟨[], .sp 3 0⟩), (12, ⟨[], .sp 4 0⟩)], [],
    (4, .it 2 clk (x.1.1.map (·.2)) clk) :: (3, .cells 106 (rowCells (rowR len (x.1.1.map (·.1))))) :: mapH n lo hi sp ts clk, 5, []⟩) (fun x => x.1.2.length) (fun _ j hj => hG j (by have : 5 ≤ j := hj; omega)) ⟨([], ts), by simp⟩ ?_ ?_
  · refine ⟨?_, ?_, rfl, rfl, rfl⟩
    · repeat' (first | exact trivial | exact rfl | refine And.intro ?_ ?_)
    · refine ⟨⟨rfl, (show (2 : Nat) < 5 by decide), rfl⟩, ⟨⟨rfl, ?_⟩, rfl, rfl⟩, ⟨⟨rfl, rfl, ⟨rfl, rfl⟩, ⟨rfl, rfl⟩, trivial⟩, rfl, rfl⟩, ⟨rfl, fun i hi => rfl, rfl⟩, ⟨rfl, trivial, rfl⟩, trivial⟩
      repeat' (first | exact trivial | exact rfl | refine And.intro ?_ ?_)
  · rintro ⟨⟨vis, rest⟩, hp⟩
    refine fb_next encL encF 2 4 clk ts vis rest (g.ok _ _ _) cont_std rfl rfl rfl rfl rfl encL_key encF_cl rfl rfl rfl hp ⟨fun hr => ?_, ?_⟩
    · replace hr : rest = [] := hr
      subst hr
      have hv : ts.Perm vis := by simpa using hp
      have hrow : rowR len (ts.map (·.1)) = rowR len (vis.map (·.1)) := rowR_perm (hv.map _)
      refine Br.mk (fun h => by cases h) (fun _ => ?_)
      refine hR _ _ ?_ rfl ?_
      · rw [hrow]; exact rowCells_refl _
      · exact ⟨⟨rfl, rfl, ⟨rfl, rfl⟩, ⟨rfl, rfl⟩, trivial⟩, trivial, rfl, trivial⟩
    · rintro ⟨⟨⟨ka, kb, kc⟩, ⟨fm, fl, fe, fs⟩⟩, b'⟩ rest' hrest
      refine Br.mk (fun _ => ?_) (fun h => by cases h)
      have hmem : (((⟨ka, kb, kc⟩ : Lg), (⟨fm, fl, fe, fs⟩ : Fd)), b') ∈ ts := hp.mem_iff.2 (List.mem_append_right _ (hrest.mem_iff.2 List.mem_cons_self))
      refine fb_entry encL encF 2 4 clk ts vis ⟨⟨⟨ka, kb, kc⟩, ⟨fm, fl, fe, fs⟩⟩, b'⟩ (g.ok _ _ _) cont_std rfl rfl rfl rfl rfl encL_key encF_cl rfl rfl rfl hmem ?_
      obtain ⟨h1, h2, h3, h4⟩ := hts _ hmem
      generalize hRr : rowR len (vis.map (·.1)) = R
      simp only at h1 h2 h3 h4
      have hRs : ∀ m, 0 ≤ c0 (R m) ∧ c0 (R m) < 256 := fun m => by
        rw [← hRr]
        refine rowR_small (fun e he => ?_) m
        obtain ⟨q, hq, rfl⟩ := List.mem_map.1 he
        exact (hts q (hp.mem_iff.2 (List.mem_append_left _ hq))).2.2.2
      have hpm : ts.Perm ((vis ++ [(((⟨ka, kb, kc⟩ : Lg), (⟨fm, fl, fe, fs⟩ : Fd)), b')]) ++ rest') := by
        rw [List.append_assoc]
        exact hp.trans (List.Perm.append_left _ hrest)
      have hless : rest'.length < rest.length := by rw [hrest.length_eq]; simp
      have hmap : (vis ++ [(((⟨ka, kb, kc⟩ : Lg), (⟨fm, fl, fe, fs⟩ : Fd)), b')]).map (fun x : (Lg × Fd) × Nat => x.1) = vis.map (fun x : (Lg × Fd) × Nat => x.1) ++ [((⟨ka, kb, kc⟩ : Lg), (⟨fm, fl, fe, fs⟩ : Fd))] := by
        rw [List.map_append]; rfl
      have hnew : ∀ (X : Option (Int × Nat)) (k : Nat), kc = (k : Int) → bestO (R k) (max (len - ka) (kb - len), fl) = X → rowR len ((vis ++ [(((⟨ka, kb, kc⟩ : Lg), (⟨fm, fl, fe, fs⟩ : Fd)), b')]).map (fun x : (Lg × Fd) × Nat => x.1)) = fun m => if k = m then X else R m := by
        intro X k hk hX
        rw [hmap]
        exact rowR_new hRr hk hX
      obtain ⟨k, rfl⟩ : ∃ k : Nat, kc = (k : Int) := ⟨kc.toNat, by omega⟩
      have hk9 : (0 : Int) ≤ (k : Int) ∧ (k : Int) < ((9 : Nat) : Int) := by omega
      rcases (show k = 1 ∨ k = 2 ∨ k = 3 ∨ k = 4 ∨ k = 5 ∨ k = 6 ∨ k = 7 ∨ k = 8 by omega) with rfl | rfl | rfl | rfl | rfl | rfl | rfl | rfl
      all_goals
        refine Chk.mk (show InK .i64 (len - ka) from ⟨by omega, by omega⟩) ?_
        refine Chk.mk (show InK .i64 (kb - len) from ⟨by omega, by omega⟩) ?_
        refine Chk.mk hk9 ?_
        refine drawn_ok (g.ok _ _ _) fol [0,1,3,7,15,31,63,63,191,447,959,2047,4095,8191,16383,16383,49151,114687,245759,524287,1048575,2097151,4194303,2097151,10485759,27262975,60817407,134217727,268435455,536870911] [] 30 (by kernel_rfl) ?_
        refine Chk.mk ?_ ?_
        · refine fun _ _ => ?_
          exact ⟨Int.natCast_nonneg _, (by omega : (fl : Int) < 256), hRs _⟩
        · refine Br.mk (fun h => ?_) (fun h => ?_)
          · have hX := hnew _ _ rfl (row_yes h)
            refine ⟨⟨(vis ++ [(((⟨ka, kb, _⟩ : Lg), (⟨fm, fl, fe, fs⟩ : Fd)), b')], rest'), hpm⟩, ?_, hless⟩
            refine ⟨?_, ?_, rfl, rfl, rfl⟩
            · repeat' (first | exact trivial | exact rfl | refine And.intro ?_ ?_)
            · refine ⟨⟨rfl, (show (2 : Nat) < 5 by decide), rfl⟩, ⟨⟨rfl, ?_⟩, rfl, rfl⟩, ⟨⟨rfl, rfl, ⟨rfl, rfl⟩, ⟨rfl, rfl⟩, trivial⟩, rfl, rfl⟩, ⟨rfl, fun i hi => rfl, rfl⟩, ⟨rfl, trivial, rfl⟩, trivial⟩
              show SVeqL _ (rowCells (rowR len ((vis ++ [(((⟨ka, kb, _⟩ : Lg), (⟨fm, fl, fe, fs⟩ : Fd)), b')]).map (fun x : (Lg × Fd) × Nat => x.1))))
              rw [hX]
              repeat' (first | exact trivial | exact rfl | refine And.intro ?_ ?_)
          · have hX := hnew _ _ rfl (row_no h)
            refine ⟨⟨(vis ++ [(((⟨ka, kb, _⟩ : Lg), (⟨fm, fl, fe, fs⟩ : Fd)), b')], rest'), hpm⟩, ?_, hless⟩
            refine ⟨?_, ?_, rfl, rfl, rfl⟩
            · repeat' (first | exact trivial | exact rfl | refine And.intro ?_ ?_)
            · refine ⟨⟨rfl, (show (2 : Nat) < 5 by decide), rfl⟩, ⟨⟨rfl, ?_⟩, rfl, rfl⟩, ⟨⟨rfl, rfl, ⟨rfl, rfl⟩, ⟨rfl, rfl⟩, trivial⟩, rfl, rfl⟩, ⟨rfl, fun i hi => rfl, rfl⟩, ⟨rfl, trivial, rfl⟩, trivial⟩
              show SVeqL _ (rowCells (rowR len ((vis ++ [(((⟨ka, kb, _⟩ : Lg), (⟨fm, fl, fe, fs⟩ : Fd)), b')]).map (fun x : (Lg × Fd) × Nat => x.1))))
              rw [hX]
              repeat' (first | exact trivial | exact rfl | refine And.intro ?_ ?_)
theorem g67 {l : List (Nat × Ct)} (g : Good P T l) : Good P T ((67, c67) :: l) := g.add (k67 g) (mapCt_mono _) (body_of Try.func67 (c := code Try.f67) rfl (by decide))
end Go.X.S
end

section
set_option linter.unusedVariables false
set_option linter.unusedSimpArgs false
set_option linter.unusedSectionVars false
/- Stack: the closures of nearest. -/
set_option linter.unusedVariables false
set_option linter.unusedSimpArgs false
set_option linter.unusedSectionVars false
set_option maxRecDepth 10000
set_option maxHeartbeats 2000000
namespace Go.X.S
open Go Go.Proofs Go.X

def getI (cs : List SV) (i : Nat) : Int := match cs.getD i (.tup []) with
  | .si _ n => n
  | _ => 0
def c69 : Ct := fun fr args H =>
  match args with
  | [.si .i64 y, .sp id 0] => (match H id with
    | some (.cells 106 cs) => some ⟨some ((∃ R, cs = rowCells R) ∧ 0 ≤ y ∧ y ≤ 8), none, .si .i64 (getI cs (3 * y.toNat + 1)), []⟩
    | _ => none)
  | _ => none
theorem c69_mono : CtMono c69 := by
  intro fr args H H' out hH h
  unfold c69 at h ⊢
  split at h
  · split at h
    · rename_i e1
      rw [hH _ _ e1]
      exact h
    · cases h
  · cases h
theorem rowCells_kn (R : Nat → Option (Int × Nat)) : knL 0 [] (rowCells R) = true := rfl
theorem hand_cells {H : LH} {id T : Nat} {cs : List SV} (h : H id = some (.cells T cs)) (hk : knL 0 [] cs = true) (hi : InL (fun i => i < 1) cs) : Hand H [(id, .cells T cs)] where
  ok j c hb hj := by
    match j, hj with
    | 0, hj =>
      simp at hj; obtain ⟨rfl, rfl⟩ := hj
      show H id = some (.cells T (renL _ cs))
      rw [renL_none _ hk]; exact h
    | j + 1, hj => simp at hj
  ids j c hb hj := by
    match j, hj with
    | 0, hj => simp at hj; obtain ⟨rfl, rfl⟩ := hj; exact hi
    | j + 1, hj => simp at hj
  inj i j c hb hb' h1 h2 _ _ := by
    match i, j, h1, h2 with
    | 0, 0, _, _ => rfl
    | i + 1, _, h, _ => simp at h
    | _, j + 1, _, h => simp at h
theorem rowCells_in (R : Nat → Option (Int × Nat)) (p : Nat → Prop) : InL p (rowCells R) := by
  unfold rowCells
  repeat' (first | exact trivial | refine And.intro ?_ ?_)
theorem k69 {l : List (Nat × Ct)} (g : Good P T l) : COk P 69 c69 := by
  refine cok (C := tabC _) g.ok Try.func69 (c := code Try.f69) rfl fun fr args H out h hp => ?_
  unfold c69 at h
  split at h
  · rename_i y id
    split at h
    · rename_i cs e1
      cases h
      obtain ⟨⟨R, rfl⟩, h0, h8⟩ : (∃ R, cs = rowCells R) ∧ 0 ≤ y ∧ y ≤ 8 := hp
      refine ⟨[(id, .cells 106 (rowCells R))], [.si .i64 y, .sp 0 0], [(0, .cells 106 (rowCells R))], 1, [], rfl, rfl, Nat.le_of_ble_eq_true rfl, hand_cells e1 (rowCells_kn R) (rowCells_in R _), rfl, rfl, fun G hG => ?_⟩
      rcases (show y = 0 ∨ y = 1 ∨ y = 2 ∨ y = 3 ∨ y = 4 ∨ y = 5 ∨ y = 6 ∨ y = 7 ∨ y = 8 by omega) with rfl | rfl | rfl | rfl | rfl | rfl | rfl | rfl | rfl
      all_goals
        refine Chk.mk (by omega) ?_
        refine ⟨.inl rfl, end_noid ⟨rfl, rfl⟩ rfl rfl ⟨⟨rfl, ?_⟩, trivial⟩⟩
        repeat' (first | exact trivial | exact rfl | refine And.intro ?_ ?_)
    · cases h
  · cases h
theorem g69 {l : List (Nat × Ct)} (g : Good P T l) : Good P T ((69, c69) :: l) := g.add (k69 g) c69_mono (body_of Try.func69 (c := code Try.f69) rfl (by decide))
def c70 : Ct := plainCt fun
  | [.si .i64 a, .si .i64 b] => some ⟨none, none, .sb (decide (a < b)), []⟩
  | _ => none
theorem k70 {l : List (Nat × Ct)} (g : Good P T l) : COk P 70 c70 := by
  refine cok (C := tabC _) g.ok Try.func70 (c := code Try.f70) rfl fun fr args H out h hp => ?_
  simp only [c70, plainCt] at h
  split at h
  · cases h
    refine walk_plain rfl (Nat.le_of_ble_eq_true rfl) fun G hG => ?_
    exact ⟨.inl rfl, end_plain rfl rfl rfl⟩
  · cases h
theorem g70 {l : List (Nat × Ct)} (g : Good P T l) : Good P T ((70, c70) :: l) := g.add (k70 g) (plainCt_mono _) (body_of Try.func70 (c := code Try.f70) rfl (by decide))
end Go.X.S
end

section
set_option linter.unusedVariables false
set_option linter.unusedSimpArgs false
set_option linter.unusedSectionVars false
/- Stack: nearest. -/
set_option linter.unusedVariables false
set_option linter.unusedSimpArgs false
set_option linter.unusedSectionVars false
set_option maxRecDepth 10000
set_option maxHeartbeats 2000000
namespace Go.X.S
open Go Go.Proofs Go.X

def msL (R : Nat → Option (Int × Nat)) (i : Nat) : List Nat := (List.range i).filter fun m => c2 (R m)
def bstI (R : Nat → Option (Int × Nat)) (ms : List Nat) : Nat → Nat × Int
  | 0 => (0, 0)
  | i + 1 => if i = 0 ∨ c1 (R (ms.getD i 0)) < (bstI R ms i).2 then (ms.getD i 0, c1 (R (ms.getD i 0))) else bstI R ms i
theorem msL_succ (R : Nat → Option (Int × Nat)) (i : Nat) : msL R (i + 1) = if c2 (R i) = true then msL R i ++ [i] else msL R i := by
  simp only [msL, List.range_succ, List.filter_append, List.filter_cons, List.filter_nil]
  split <;> simp
theorem msL_le {R : Nat → Option (Int × Nat)} {i x : Nat} (h : x ∈ msL R i) : x < i := List.mem_range.1 (List.mem_filter.1 h).1
theorem msL_len (R : Nat → Option (Int × Nat)) (i : Nat) : (msL R i).length ≤ i := by
  have := List.length_filter_le (fun m => c2 (R m)) (List.range i)
  simpa [msL] using this
theorem msL_getD {R : Nat → Option (Int × Nat)} {i j : Nat} (h : j < (msL R i).length) : (msL R i).getD j 0 < i := by
  rw [List.getD_eq_getElem?_getD, List.getElem?_eq_getElem h]
  exact msL_le (List.getElem_mem h)
theorem bstI_mem (R : Nat → Option (Int × Nat)) (ms : List Nat) : ∀ i, bstI R ms (i + 1) = bstI R ms (i + 1) ∧ ∃ j, j ≤ i ∧ (bstI R ms (i + 1)).1 = ms.getD j 0
  | 0 => ⟨rfl, 0, Nat.le_refl _, by simp [bstI]⟩
  | i + 1 => by
    refine ⟨rfl, ?_⟩
    rw [bstI]
    split
    · exact ⟨i + 1, Nat.le_refl _, rfl⟩
    · obtain ⟨j, hj, e⟩ := (bstI_mem R ms i).2
      exact ⟨j, by omega, e⟩
theorem msL_sorted (R : Nat → Option (Int × Nat)) (n : Nat) {i j : Nat} (h : i < j) (hj : j < (msL R n).length) : (msL R n).getD i 0 < (msL R n).getD j 0 := by
  have hp : (msL R n).Pairwise (· < ·) := List.Pairwise.filter _ List.pairwise_lt_range
  rw [List.getD_eq_getElem?_getD, List.getElem?_eq_getElem (by omega : i < (msL R n).length), List.getD_eq_getElem?_getD, List.getElem?_eq_getElem hj]
  exact List.pairwise_iff_getElem.1 hp i j _ _ h
/-- The condition of best. -/
theorem best_cond {R : Nat → Option (Int × Nat)} {n i : Nat} (hi : i < (msL R n).length) : ((decide ((i : Int) = 0) || decide (c1 (R ((msL R n).getD i 0)) < (bstI R (msL R n) i).2)) || (decide (c1 (R ((msL R n).getD i 0)) = (bstI R (msL R n) i).2) && decide (((msL R n).getD i 0 : Int) < ((bstI R (msL R n) i).1 : Int)))) =
    decide (i = 0 ∨ c1 (R ((msL R n).getD i 0)) < (bstI R (msL R n) i).2) := by
  rw [Bool.eq_iff_iff]
  simp only [Bool.or_eq_true, Bool.and_eq_true, decide_eq_true_eq]
  constructor
  · rintro ((h | h) | ⟨h1, h2⟩)
    · exact .inl (by omega)
    · exact .inr h
    · rcases Nat.eq_zero_or_pos i with h0 | h0
      · exact .inl h0
      · exfalso
        obtain ⟨k, rfl⟩ : ∃ k, i = k + 1 := ⟨i - 1, by omega⟩
        obtain ⟨j, hj, e⟩ := (bstI_mem R (msL R n) k).2
        have := msL_sorted R n (i := j) (j := k + 1) (by omega) hi
        omega
  · rintro (h | h)
    · exact .inl (.inl (by omega))
    · exact .inl (.inr h)
theorem getI_row (R : Nat → Option (Int × Nat)) {y : Nat} (h : y ≤ 8) : getI (rowCells R) (3 * ((y : Int)).toNat + 1) = c1 (R y) := by
  rcases (show y = 0 ∨ y = 1 ∨ y = 2 ∨ y = 3 ∨ y = 4 ∨ y = 5 ∨ y = 6 ∨ y = 7 ∨ y = 8 by omega) with rfl | rfl | rfl | rfl | rfl | rfl | rfl | rfl | rfl <;> rfl

def nearV (R : Nat → Option (Int × Nat)) : SV :=
  .tup [.si .u64 (c0 (R (bstI R (msL R 9) (msL R 9).length).1)), .si .i64 (bstI R (msL R 9) (msL R 9).length).2, .sb (decide (0 < (msL R 9).length))]
def c56 : Ct := mapCt fun ts len => some (some (okTs ts ∧ 0 ≤ len ∧ len ≤ 100000), nearV (rowR len (ts.map (·.1))))
theorem b68 : Body P 68 := body_of Try.func68 (c := code Try.f68) rfl (by decide)
theorem k56 : COk P 56 c56 := by
  have g := g70 (g69 (g67 (g74 good0)))
  refine cok (C := tabC _) g.ok Try.func56 (c := code Try.f56) rfl fun fr args H out h hp => mapWalk h hp fun n sp lo hi ts clk len p v Rv Rp hk hp hR => ?_
  cases hk
  obtain ⟨hts, hl0, hl1⟩ : okTs ts ∧ 0 ≤ len ∧ len ≤ 100000 := hp
  refine ⟨Nat.le_of_ble_eq_true rfl, fun G hG => ?_⟩
  refine Chk.mk ⟨spans_sp _ _, by rw [decS_enc], by rw [decS_enc]; exact ⟨hts, hl0, hl1⟩⟩ ?_
  rw [decS_enc]
  generalize rowR len (ts.map (·.1)) = R at hR ⊢
  refine nil_slot 10 3 1 (fun j => [.si .i64 ((msL R 0).getD j 0 : Nat)]) rfl ?_
  refine loop_okR (g.ok _ _ _) 3 (fun x : {i : Nat // i ≤ 9} => ⟨[(9, ⟨[], .sp 3 0⟩), (10, ⟨[], .sl 4⟩), (19, ⟨[], .agg (rowCells R)⟩), (20, ⟨[], .si .i64 x.1⟩)], [],
    (3, .cells 106 (rowCells R)) :: (4, .vec 3 1 (msL R x.1).length (fun j => [.si .i64 ((msL R x.1).getD j 0 : Nat)])) :: mapH n lo hi sp ts clk, 5, []⟩)
    (fun x => 9 - x.1) (fun j hj => hG j (by omega)) ⟨0, by omega⟩ (fun j => j) ?_ ?_
  · refine ⟨?_, ?_, rfl, rfl, rfl, rfl, trivial⟩
    · repeat' (first | exact trivial | exact rfl | refine And.intro ?_ ?_)
    · refine ⟨⟨⟨rfl, ?_, rfl⟩, rfl⟩, ⟨⟨rfl, rfl, rfl, fun i hi => ⟨rfl, rfl⟩⟩, rfl⟩, ⟨⟨rfl, ⟨rfl, ⟨rfl, rfl⟩, ⟨rfl, rfl⟩, trivial⟩, rfl⟩, rfl⟩, ⟨⟨rfl, rfl, fun i hi => ⟨rfl, rfl⟩⟩, rfl⟩, ⟨⟨rfl, rfl⟩, rfl⟩, trivial⟩
      repeat' (first | exact trivial | exact rfl | refine And.intro ?_ ?_)
  · rintro ⟨i, hib⟩
    refine Br.mk (fun h => ?_) (fun h => ?_)
    · have h : (i : Int) < 9 := of_decide_eq_true h
      have hs := msL_succ R i
      obtain ⟨L', hL'⟩ : ∃ L', msL R (i + 1) = L' := ⟨_, rfl⟩
      obtain ⟨L, hL⟩ : ∃ L, msL R i = L := ⟨_, rfl⟩
      rw [hL', hL] at hs
      have hlen := msL_len R i
      rw [hL] at hlen
      have hk9 : (0 : Int) ≤ (i : Int) ∧ (i : Int) < ((9 : Nat) : Int) := by omega
      have hk10 : InK .i64 ((i : Int) + 1) := ⟨by omega, by omega⟩
      have hi9 : i + 1 ≤ 9 := by omega
      have hless : 9 - (i + 1) < 9 - i := by omega
      have hl2 : ∀ {A B : List Nat}, B = A ++ [i] → A.length + 1 = B.length := fun h => by rw [h, List.length_append]; rfl
      have hl3 : ∀ {A B : List Nat}, B = A → A.length = B.length := fun h => by rw [h]
      have hl4 : ∀ {A B : List Nat}, B = A → ∀ q : Nat, [SV.si .i64 ((A.getD q 0 : Nat) : Int)] = renL (fun j => j) [SV.si .i64 ((B.getD q 0 : Nat) : Int)] := fun h q => by rw [h]; rfl
      rcases (show i = 0 ∨ i = 1 ∨ i = 2 ∨ i = 3 ∨ i = 4 ∨ i = 5 ∨ i = 6 ∨ i = 7 ∨ i = 8 by omega) with rfl | rfl | rfl | rfl | rfl | rfl | rfl | rfl | rfl
      all_goals
        refine Chk.mk hk9 ?_
        refine Br.mk (fun hc => ?_) (fun hc => ?_)
        · rw [if_pos hc] at hs
          refine fb_append (Te := 0) 4 6 L.length 1 (fun j => [.si .i64 (L.getD j 0 : Nat)]) _ (fun j => [.si .i64 (L'.getD j 0 : Nat)]) (g.ok _ _ _) cont_std rfl rfl rfl rfl rfl rfl rfl rfl rfl rfl rfl rfl (by decide) (by decide) rfl rfl (by subst hL; rfl) rfl ?_ ?_ ?_
          · omega
          · intro j hj
            show [SV.si .i64 _] = _
            rw [hs, List.getD_eq_getElem?_getD, List.getElem?_append]
            split
            · rw [List.getD_eq_getElem?_getD]
            · rename_i h'
              have : j - L.length = 0 := by omega
              rw [this]
              rfl
          · refine Chk.mk hk10 ?_
            subst hL' hL
            refine ⟨⟨_, hi9⟩, (fun j => if j = 4 then 7 else j), ?_, hless⟩
            refine ⟨?_, ?_, rfl, rfl, rfl, rfl, trivial⟩
            · repeat' (first | exact trivial | exact rfl | refine And.intro ?_ ?_)
            · refine ⟨⟨⟨rfl, ?_, rfl⟩, rfl⟩, ⟨⟨rfl, rfl, ?_, fun i hi => ⟨rfl, rfl⟩⟩, rfl⟩, ⟨⟨rfl, ⟨rfl, ⟨rfl, rfl⟩, ⟨rfl, rfl⟩, trivial⟩, rfl⟩, rfl⟩, ⟨⟨rfl, rfl, fun i hi => ⟨rfl, rfl⟩⟩, rfl⟩, ⟨⟨rfl, rfl⟩, rfl⟩, trivial⟩
              · repeat' (first | exact trivial | exact rfl | refine And.intro ?_ ?_)
              · exact hl2 hs
        · rw [if_neg (by rw [hc]; exact Bool.false_ne_true)] at hs
          refine Chk.mk hk10 ?_
          subst hL' hL
          refine ⟨⟨_, hi9⟩, (fun j => j), ?_, hless⟩
          refine ⟨?_, ?_, rfl, rfl, rfl, rfl, trivial⟩
          · repeat' (first | exact trivial | exact rfl | refine And.intro ?_ ?_)
          · refine ⟨⟨⟨rfl, ?_, rfl⟩, rfl⟩, ⟨⟨rfl, rfl, hl3 hs, fun i hi => ⟨hl4 hs i, rfl⟩⟩, rfl⟩, ⟨⟨rfl, ⟨rfl, ⟨rfl, rfl⟩, ⟨rfl, rfl⟩, trivial⟩, rfl⟩, rfl⟩, ⟨⟨rfl, rfl, fun i hi => ⟨rfl, rfl⟩⟩, rfl⟩, ⟨⟨rfl, rfl⟩, rfl⟩, trivial⟩
            repeat' (first | exact trivial | exact rfl | refine And.intro ?_ ?_)
    · have h : ¬ (i : Int) < 9 := of_decide_eq_false h
      have hi9 : i = 9 := by omega
      subst hi9
      have hle : ∀ j, j < (msL R 9).length → (msL R 9).getD j 0 ≤ 8 := fun j hj => Nat.le_of_lt_succ (msL_getD hj)
      have hl9 := msL_len R 9
      refine fb_call (g.ok _ _ _) cont_std rfl rfl rfl rfl ?_
      refine ⟨b68, callS_to g.ok Try.func68 (c := code Try.f68) rfl (Nat.le_of_ble_eq_true rfl) (.tup [.si .i64 ((bstI R (msL R 9) (msL R 9).length).1 : Nat), .si .i64 (bstI R (msL R 9) (msL R 9).length).2])
        ((5, .cells 111 [.fn (.func 69) [] [.sp 3 0], .fn (.func 70) [] []]) :: (3, .cells 106 (rowCells R)) :: (4, .vec 3 1 (msL R 9).length (fun j => [.si .i64 ((msL R 9).getD j 0 : Nat)])) :: mapH n lo hi sp ts clk) 6 (fun G1 hG1 => ?_) ?_⟩
      · refine loop_ok (g.ok _ _ _) (fun x : {i : Nat // i ≤ (msL R 9).length} => ⟨[(3, ⟨[], .sp 5 0⟩), (4, ⟨[], .si .i64 ((bstI R (msL R 9) x.1).1 : Nat)⟩), (5, ⟨[], .si .i64 (bstI R (msL R 9) x.1).2⟩), (9, ⟨[], .sl 4⟩), (10, ⟨[], .si .i64 ((msL R 9).length : Nat)⟩), (11, ⟨[], .si .i64 (x.1 : Nat)⟩)], [],
          (5, .cells 111 [.fn (.func 69) [] [.sp 3 0], .fn (.func 70) [] []]) :: (3, .cells 106 (rowCells R)) :: (4, .vec 3 1 (msL R 9).length (fun j => [.si .i64 ((msL R 9).getD j 0 : Nat)])) :: mapH n lo hi sp ts clk, 6, []⟩)
          (fun x => (msL R 9).length - x.1) (fun _ j hj => hG1 j (by have : 6 ≤ j := hj; show 5 ≤ j; omega)) ⟨0, Nat.zero_le _⟩ ?_ ?_
        · refine ⟨?_, ?_, rfl, rfl, rfl⟩
          · repeat' (first | exact trivial | exact rfl | refine And.intro ?_ ?_)
          · refine ⟨⟨⟨rfl, ⟨rfl, rfl, trivial⟩⟩, rfl, rfl⟩, ⟨⟨rfl, ?_⟩, rfl, rfl⟩, ⟨rfl, ?_, rfl⟩, ⟨⟨rfl, rfl, ⟨rfl, rfl⟩, ⟨rfl, rfl⟩, trivial⟩, rfl, rfl⟩, ⟨rfl, fun i hi => rfl, rfl⟩, ⟨rfl, trivial, rfl⟩, trivial⟩
            · repeat' (first | exact trivial | exact rfl | refine And.intro ?_ ?_)
            · exact fun i hi => rfl
        · rintro ⟨q, hq⟩
          refine Br.mk (fun h => ?_) (fun h => ?_)
          · have h : (q : Int) < ((msL R 9).length : Int) := of_decide_eq_true h
            have hq' : q < (msL R 9).length := by omega
            have hy8 := hle q hq'
            refine Chk.mk (show (0 : Int) ≤ (q : Int) ∧ (q : Int) < ((msL R 9).length : Int) by omega) ?_
            refine Chk.mk ⟨⟨R, rfl⟩, Int.natCast_nonneg _, (by omega : (((msL R 9).getD q 0 : Nat) : Int) ≤ 8)⟩ ?_
            have hg := getI_row R hy8
            have hbc := best_cond (R := R) (n := 9) hq'
            have hq9 : q + 1 ≤ (msL R 9).length := by omega
            have hqi : InK .i64 ((q : Int) + 1) := ⟨by omega, by omega⟩
            refine Br.mk (fun h => ?_) (fun h => ?_)
            · have h : ((decide ((q : Int) = 0) || decide (getI (rowCells R) (3 * (((msL R 9).getD q 0 : Nat) : Int).toNat + 1) < (bstI R (msL R 9) q).2)) || (decide (getI (rowCells R) (3 * (((msL R 9).getD q 0 : Nat) : Int).toNat + 1) = (bstI R (msL R 9) q).2) && decide ((((msL R 9).getD q 0 : Nat) : Int) < ((bstI R (msL R 9) q).1 : Int)))) = true := h
              rw [hg, hbc] at h
              have h := of_decide_eq_true h
              have hb : bstI R (msL R 9) (q + 1) = ((msL R 9).getD q 0, c1 (R ((msL R 9).getD q 0))) := by rw [bstI, if_pos h]
              refine Chk.mk hqi ⟨⟨q + 1, hq9⟩, ?_, (by show (msL R 9).length - (q + 1) < (msL R 9).length - q; omega)⟩
              have hs1 : (((msL R 9).getD q 0 : Nat) : Int) = ((bstI R (msL R 9) (q + 1)).1 : Int) := by rw [hb]
              have hs2 : getI (rowCells R) (3 * (((msL R 9).getD q 0 : Nat) : Int).toNat + 1) = (bstI R (msL R 9) (q + 1)).2 := by rw [hg, hb]
              refine ⟨?_, ?_, rfl, rfl, rfl⟩
              · repeat' (first | exact trivial | exact hs1 | exact hs2 | exact rfl | refine And.intro ?_ ?_)
              · refine ⟨⟨⟨rfl, ⟨rfl, rfl, trivial⟩⟩, rfl, rfl⟩, ⟨⟨rfl, ?_⟩, rfl, rfl⟩, ⟨rfl, ?_, rfl⟩, ⟨⟨rfl, rfl, ⟨rfl, rfl⟩, ⟨rfl, rfl⟩, trivial⟩, rfl, rfl⟩, ⟨rfl, fun i hi => rfl, rfl⟩, ⟨rfl, trivial, rfl⟩, trivial⟩
                · repeat' (first | exact trivial | exact rfl | refine And.intro ?_ ?_)
                · exact fun i hi => rfl
            · have h : ((decide ((q : Int) = 0) || decide (getI (rowCells R) (3 * (((msL R 9).getD q 0 : Nat) : Int).toNat + 1) < (bstI R (msL R 9) q).2)) || (decide (getI (rowCells R) (3 * (((msL R 9).getD q 0 : Nat) : Int).toNat + 1) = (bstI R (msL R 9) q).2) && decide ((((msL R 9).getD q 0 : Nat) : Int) < ((bstI R (msL R 9) q).1 : Int)))) = false := h
              rw [hg, hbc] at h
              have h := of_decide_eq_false h
              have hb : bstI R (msL R 9) (q + 1) = bstI R (msL R 9) q := by rw [bstI, if_neg h]
              refine Chk.mk hqi ⟨⟨q + 1, hq9⟩, ?_, (by show (msL R 9).length - (q + 1) < (msL R 9).length - q; omega)⟩
              have hs1 : ((bstI R (msL R 9) q).1 : Int) = ((bstI R (msL R 9) (q + 1)).1 : Int) := by rw [hb]
              have hs2 : (bstI R (msL R 9) q).2 = (bstI R (msL R 9) (q + 1)).2 := by rw [hb]
              refine ⟨?_, ?_, rfl, rfl, rfl⟩
              · repeat' (first | exact trivial | exact hs1 | exact hs2 | exact rfl | refine And.intro ?_ ?_)
              · refine ⟨⟨⟨rfl, ⟨rfl, rfl, trivial⟩⟩, rfl, rfl⟩, ⟨⟨rfl, ?_⟩, rfl, rfl⟩, ⟨rfl, ?_, rfl⟩, ⟨⟨rfl, rfl, ⟨rfl, rfl⟩, ⟨rfl, rfl⟩, trivial⟩, rfl, rfl⟩, ⟨rfl, fun i hi => rfl, rfl⟩, ⟨rfl, trivial, rfl⟩, trivial⟩
                · repeat' (first | exact trivial | exact rfl | refine And.intro ?_ ?_)
                · exact fun i hi => rfl
          · have h : ¬ (q : Int) < ((msL R 9).length : Int) := of_decide_eq_false h
            have hqe : q = (msL R 9).length := by omega
            subst hqe
            refine ⟨fun j => j, ?_⟩
            refine ⟨?_, ⟨⟨rfl, rfl⟩, ⟨rfl, rfl⟩, trivial⟩, rfl, rfl, rfl, rfl⟩
            refine ⟨⟨⟨rfl, ⟨rfl, rfl, trivial⟩, rfl⟩, rfl⟩, ⟨⟨rfl, ?_, rfl⟩, rfl⟩, ⟨⟨rfl, rfl, rfl, fun i hi => ⟨rfl, rfl⟩⟩, rfl⟩, ⟨⟨rfl, ⟨rfl, ⟨rfl, rfl⟩, ⟨rfl, rfl⟩, trivial⟩, rfl⟩, rfl⟩, ⟨⟨rfl, rfl, fun i hi => ⟨rfl, rfl⟩⟩, rfl⟩, ⟨⟨rfl, rfl⟩, rfl⟩, trivial⟩
            repeat' (first | exact trivial | exact rfl | refine And.intro ?_ ?_)
      · have hb8 : (bstI R (msL R 9) (msL R 9).length).1 ≤ 8 := by
          cases hl : (msL R 9).length with
          | zero => exact Nat.zero_le _
          | succ k =>
            obtain ⟨j, hj, e⟩ := (bstI_mem R (msL R 9) k).2
            rw [e]
            exact hle j (by omega)
        have hn : nearV R = .tup [.si .u64 (c0 (R (bstI R (msL R 9) (msL R 9).length).1)), .si .i64 (bstI R (msL R 9) (msL R 9).length).2, .sb (decide (0 < (msL R 9).length))] := rfl
        rw [hn] at hR
        generalize bstI R (msL R 9) (msL R 9).length = b at hR hb8 ⊢
        obtain ⟨b1, b2⟩ := b
        have hb8 : b1 ≤ 8 := hb8
        have hbk : (0 : Int) ≤ (b1 : Int) ∧ (b1 : Int) < ((9 : Nat) : Int) := by omega
        have hdec : decide ((0 : Int) < ((msL R 9).length : Int)) = decide (0 < (msL R 9).length) := by rw [decide_eq_decide]; omega
        rcases (show b1 = 0 ∨ b1 = 1 ∨ b1 = 2 ∨ b1 = 3 ∨ b1 = 4 ∨ b1 = 5 ∨ b1 = 6 ∨ b1 = 7 ∨ b1 = 8 by omega) with rfl | rfl | rfl | rfl | rfl | rfl | rfl | rfl | rfl
        all_goals
          refine Chk.mk hbk ?_
          exact hR _ _ ⟨⟨rfl, rfl⟩, ⟨rfl, rfl⟩, hdec, trivial⟩ rfl ⟨⟨rfl, rfl, ⟨rfl, rfl⟩, ⟨rfl, rfl⟩, trivial⟩, trivial, rfl, trivial⟩
theorem g56 {l : List (Nat × Ct)} (g : Good P T l) : Good P T ((56, c56) :: l) := g.add k56 (mapCt_mono _) (body_of Try.func56 (c := code Try.f56) rfl (by decide))
end Go.X.S
end

section
set_option linter.unusedVariables false
set_option linter.unusedSimpArgs false
set_option linter.unusedSectionVars false
/- Stack: the nearest of all lengths is the nearest of all stacks (plain law). -/
set_option linter.unusedVariables false
set_option linter.unusedSimpArgs false
set_option linter.unusedSectionVars false
namespace Go.X.S
open Go Go.Proofs Go.X

theorem J_least : ∀ (l : List Fd) (o : Option Fd) (f : Fd), l.foldl jo o = some f →
    ((∃ g, o = some g ∧ g.least = f.least) ∨ ∃ x ∈ l, x.least = f.least) ∧ (∀ g, o = some g → ¬ lessN g.least f.least = true) ∧ ∀ x ∈ l, ¬ lessN x.least f.least = true
  | [], o, f, h => by
    simp only [List.foldl_nil] at h
    refine ⟨.inl ⟨f, h, rfl⟩, fun g hg => ?_, fun x hx => by cases hx⟩
    rw [h] at hg; cases hg
    simp only [lessN_iff]; omega
  | x :: r, o, f, h => by
    simp only [List.foldl_cons] at h
    obtain ⟨h1, h2, h3⟩ := J_least r (jo o x) f h
    cases o with
    | none =>
      have h2 := h2 x rfl
      refine ⟨.inr ?_, (fun g hg => by cases hg), fun y hy => ?_⟩
      · rcases h1 with ⟨g, hg, e⟩ | ⟨y, hy, e⟩
        · cases hg; exact ⟨x, List.mem_cons_self, e⟩
        · exact ⟨y, List.mem_cons_of_mem _ hy, e⟩
      · rcases List.mem_cons.1 hy with rfl | hy
        · exact h2
        · exact h3 y hy
    | some g =>
      have h2 := h2 (join g x) rfl
      have hj : (join g x).least = if lessN x.least g.least = true then x.least else g.least := rfl
      rw [hj] at h2
      refine ⟨?_, ?_, fun y hy => ?_⟩
      · rcases h1 with ⟨g', hg, e⟩ | ⟨y, hy, e⟩
        · cases hg
          rw [hj] at e
          split at e
          · exact .inr ⟨x, List.mem_cons_self, e⟩
          · exact .inl ⟨g, rfl, e⟩
        · exact .inr ⟨y, List.mem_cons_of_mem _ hy, e⟩
      · intro g' hg; cases hg
        split at h2
        · rename_i hl
          simp only [lessN_iff] at *; omega
        · exact h2
      · rcases List.mem_cons.1 hy with rfl | hy
        · split at h2
          · exact h2
          · rename_i hl
            simp only [lessN_iff] at *; omega
        · exact h3 y hy
variable {film : Span} {n : Nat} {sp : Nat → Span}
theorem entry_ok {k : Lg} {f : Fd} (h : (k, f) ∈ lenM film n sp) :
    (∃ x, 0 < x ∧ x < 2 ^ n ∧ keyN film sp n x = k ∧ f.least = x) ∧ ∀ y, 0 < y → y < 2 ^ n → keyN film sp n y = k → ¬ lessN y f.least = true := by
  have h1 := lookA_of_mem (k := k) (v := f) (group_keys _) h
  rw [group_look, Gk_filter] at h1
  split at h1
  · cases h1
  · rename_i hk
    rw [Gk_perm (listS_perm film sp n)] at h1
    obtain ⟨h2, _, h3⟩ := J_least _ _ _ h1
    refine ⟨?_, fun y h0 hy e => h3 (one y) ?_⟩
    · rcases h2 with ⟨g, hg, _⟩ | ⟨x, hx, e⟩
      · cases hg
      · obtain ⟨q, hq, rfl⟩ := List.mem_map.1 hx
        obtain ⟨hq1, hq2⟩ := List.mem_filter.1 hq
        obtain ⟨y, hy, rfl⟩ := List.mem_map.1 hq1
        have hy := List.mem_range.1 hy
        have e2 : keyN film sp n y = k := by simpa using hq2
        refine ⟨y, ?_, hy, e2, e.symm⟩
        have := keyN_zero (film := film) (sp := sp) hy
        rw [e2, decide_eq_true hk] at this
        exact of_decide_eq_true this.symm
    · refine List.mem_map.2 ⟨(k, one y), List.mem_filter.2 ⟨List.mem_map.2 ⟨y, List.mem_range.2 hy, by rw [e]⟩, by simp⟩, rfl⟩
theorem entry_ex {x : Nat} (h0 : 0 < x) (hx : x < 2 ^ n) : ∃ f, (keyN film sp n x, f) ∈ lenM film n sp := by
  have hk := keyN_zero (film := film) (sp := sp) hx
  rw [decide_eq_true h0] at hk
  have hk := of_decide_eq_true hk
  have h1 : lookA (lenM film n sp) (keyN film sp n x) = Gk (listS film sp n) (keyN film sp n x) := by
    rw [lenM, group_look, Gk_filter, if_neg hk]
  rw [Gk_perm (listS_perm film sp n)] at h1
  cases hG : Gk ((List.range (2 ^ n)).map fun x => (keyN film sp n x, one x)) (keyN film sp n x) with
  | none =>
    have := J_none.1 hG
    have hm : one x ∈ ((((List.range (2 ^ n)).map fun x => (keyN film sp n x, one x)).filter fun p => decide (p.1 = keyN film sp n x)).map (·.2)) :=
      List.mem_map.2 ⟨(keyN film sp n x, one x), List.mem_filter.2 ⟨List.mem_map.2 ⟨x, List.mem_range.2 hx, rfl⟩, by simp⟩, rfl⟩
    rw [this] at hm; cases hm
  | some f => rw [hG] at h1; exact ⟨f, lookA_mem h1⟩
theorem keyN_ofL {x : Nat} (h0 : 0 < x) (hx : x < 2 ^ n) : keyN film sp n x = ⟨(ofL ((List.range n).map sp) film.1 film.2 x).1, (ofL ((List.range n).map sp) film.1 film.2 x).2, (sizeN x : Int)⟩ := by
  have h := ofW_ofL (L := (List.range n).map sp) (lo := film.1) (hi := film.2) h0 (by simpa using hx)
  have hk := keyN_ofW (film := film) (sp := sp) (n := n) (x := x)
  rw [← hk, h]

/-- The nearest of all stacks. -/
def stepX (L : List Span) (lo hi len : Int) (o : Option (Int × Nat)) (x : Nat) : Option (Int × Nat) := if 0 < x then bestO o (offV (ofL L lo hi x) len, x) else o
def nearX (L : List Span) (lo hi len : Int) : Option (Int × Nat) := (List.range (2 ^ L.length)).foldl (stepX L lo hi len) none
def isX (L : List Span) (lo hi len : Int) (l : List Nat) (c : Int × Nat) : Prop := ∃ x ∈ l, 0 < x ∧ c = (offV (ofL L lo hi x) len, x)
theorem foldX_best (L : List Span) (lo hi len : Int) : ∀ (l : List Nat) (S : Int × Nat → Prop) (o : Option (Int × Nat)), Best S o → Best (fun c => S c ∨ isX L lo hi len l c) (l.foldl (stepX L lo hi len) o)
  | [], S, o, h => h.congr fun c => ⟨.inl, fun hc => hc.elim id fun ⟨e, he, _⟩ => by cases he⟩
  | x :: r, S, o, h => by
    simp only [List.foldl_cons]
    by_cases h0 : 0 < x
    · have h2 := foldX_best L lo hi len r _ _ (h.add (offV (ofL L lo hi x) len, x))
      simp only [stepX, if_pos h0]
      refine h2.congr fun c => ⟨?_, ?_⟩
      · rintro ((h | rfl) | ⟨e', he', h3, h4⟩)
        · exact .inl h
        · exact .inr ⟨x, List.mem_cons_self, h0, rfl⟩
        · exact .inr ⟨e', List.mem_cons_of_mem _ he', h3, h4⟩
      · rintro (h | ⟨e', he', h3, h4⟩)
        · exact .inl (.inl h)
        · rcases List.mem_cons.1 he' with rfl | he'
          · exact .inl (.inr h4)
          · exact .inr ⟨e', he', h3, h4⟩
    · have h2 := foldX_best L lo hi len r _ _ h
      simp only [stepX, if_neg h0]
      refine h2.congr fun c => ⟨?_, ?_⟩
      · rintro (h | ⟨e', he', h3, h4⟩)
        · exact .inl h
        · exact .inr ⟨e', List.mem_cons_of_mem _ he', h3, h4⟩
      · rintro (h | ⟨e', he', h3, h4⟩)
        · exact .inl h
        · rcases List.mem_cons.1 he' with rfl | he'
          · exact absurd h3 h0
          · exact .inr ⟨e', he', h3, h4⟩
theorem nearX_best (L : List Span) (lo hi len : Int) : Best (isX L lo hi len (List.range (2 ^ L.length))) (nearX L lo hi len) :=
  (foldX_best L lo hi len _ (fun _ => False) none (fun c h => h)).congr fun c => ⟨fun h => h.elim False.elim id, .inr⟩

/-- The best of the rows. -/
theorem bst_ok (R : Nat → Option (Int × Nat)) (ms : List Nat) (hs : ∀ i j, i < j → j < ms.length → ms.getD i 0 < ms.getD j 0) : ∀ i, i < ms.length → ∃ j, j ≤ i ∧ bstI R ms (i + 1) = (ms.getD j 0, c1 (R (ms.getD j 0))) ∧
    ∀ k, k ≤ i → c1 (R (ms.getD j 0)) < c1 (R (ms.getD k 0)) ∨ (c1 (R (ms.getD j 0)) = c1 (R (ms.getD k 0)) ∧ ms.getD j 0 ≤ ms.getD k 0)
  | 0, h => ⟨0, Nat.le_refl _, by simp [bstI], fun k hk => .inr (by obtain rfl : k = 0 := by omega
                                                                    exact ⟨rfl, Nat.le_refl _⟩)⟩
  | i + 1, h => by
    obtain ⟨j, hj, e, hm⟩ := bst_ok R ms hs i (by omega)
    rw [bstI]
    split
    · rename_i hc
      have hc : c1 (R (ms.getD (i + 1) 0)) < (bstI R ms (i + 1)).2 := hc.resolve_left (by omega)
      rw [e] at hc
      refine ⟨i + 1, Nat.le_refl _, rfl, fun k hk => ?_⟩
      rcases Nat.lt_or_ge k (i + 1) with h1 | h1
      · have := hm k (by omega)
        simp only at hc
        left; omega
      · obtain rfl : k = i + 1 := by omega
        exact .inr ⟨rfl, Nat.le_refl _⟩
    · rename_i hc
      have hc : ¬ c1 (R (ms.getD (i + 1) 0)) < (bstI R ms (i + 1)).2 := fun h => hc (.inr h)
      rw [e] at hc
      simp only at hc
      refine ⟨j, by omega, e, fun k hk => ?_⟩
      rcases Nat.lt_or_ge k (i + 1) with h1 | h1
      · exact hm k (by omega)
      · obtain rfl : k = i + 1 := by omega
        have := hs j (i + 1) (by omega) h
        omega
def tupO : Option (Int × Nat) → SV
  | none => .tup [.si .u64 0, .si .i64 0, .sb false]
  | some c => .tup [.si .u64 c.2, .si .i64 c.1, .sb true]
theorem nearV_best {R : Nat → Option (Int × Nat)} (hR : ∀ m c, R m = some c → sizeN c.2 = m) : ∃ o, nearV R = tupO o ∧ Best (fun c => ∃ m, m < 9 ∧ R m = some c) o := by
  have hmem : ∀ m, m ∈ msL R 9 ↔ m < 9 ∧ ∃ c, R m = some c := by
    intro m
    simp only [msL, List.mem_filter, List.mem_range]
    cases h : R m <;> simp [c2]
  cases hl : (msL R 9).length with
  | zero =>
    refine ⟨none, ?_, ?_⟩
    · have h0 : R 0 = none := by
        cases h : R 0 with
        | none => rfl
        | some c =>
          have := (hmem 0).2 ⟨by omega, c, h⟩
          rw [List.length_eq_zero_iff.1 hl] at this; cases this
      simp only [nearV, hl, bstI, h0, c0, tupO]
      rfl
    · rintro c ⟨m, hm, h⟩
      have := (hmem m).2 ⟨hm, c, h⟩
      rw [List.length_eq_zero_iff.1 hl] at this; cases this
  | succ i =>
    obtain ⟨j, hj, e, hm⟩ := bst_ok R (msL R 9) (fun i j h hj => msL_sorted R 9 h hj) i (by omega)
    have hgm : ∀ k, k ≤ i → (msL R 9).getD k 0 ∈ msL R 9 := fun k hk => by
      rw [List.getD_eq_getElem?_getD, List.getElem?_eq_getElem (by omega : k < (msL R 9).length)]
      exact List.getElem_mem _
    obtain ⟨hj9, c, hc⟩ := (hmem _).1 (hgm j hj)
    refine ⟨some c, ?_, ⟨_, hj9, hc⟩, ?_⟩
    · simp only [nearV, hl, e, hc, c0, c1, tupO]
      simp
    · rintro d ⟨m, hm9, hd⟩
      have hmm := (hmem m).2 ⟨hm9, d, hd⟩
      obtain ⟨k, hk, ek⟩ := List.getElem_of_mem hmm
      have h1 := hm k (by omega)
      have ek' : (msL R 9).getD k 0 = m := by rw [List.getD_eq_getElem?_getD, List.getElem?_eq_getElem hk, ek]; rfl
      rw [ek', hd, hc] at h1
      have s1 := hR _ _ hc
      have s2 := hR _ _ hd
      simp only [c1] at h1
      simp only [ltC, Bool.or_eq_true, Bool.and_eq_true, decide_eq_true_eq, lessN_iff]
      intro h2
      rcases h1 with h1 | ⟨h1, h3⟩
      · omega
      · rcases Nat.lt_or_ge ((msL R 9).getD j 0) m with h4 | h4
        · omega
        · have : (msL R 9).getD j 0 = m := by omega
          rw [this, hd] at hc; cases hc
          omega
theorem near_law {len : Int} {l : List (Lg × Fd)} (hn : n ≤ 8) (hl : l.Perm (lenM film n sp)) : nearV (rowR len l) = tupO (nearX ((List.range n).map sp) film.1 film.2 len) := by
  have hsz : ∀ m c, rowR len l m = some c → sizeN c.2 = m := by
    intro m c h
    have hb := rowR_best len m l
    rw [h] at hb
    obtain ⟨e, he, hm, rfl⟩ := hb.1
    obtain ⟨⟨x, h0, hx, hk, hf⟩, _⟩ := entry_ok (hl.mem_iff.1 he)
    rw [keyN_ofL h0 hx] at hk
    have := congrArg Lg.many hk
    simp only [hm] at this
    simp only [hf]
    omega
  obtain ⟨o, h1, h2⟩ := nearV_best hsz
  rw [h1]
  congr 1
  refine Best.uniq (S := isX ((List.range n).map sp) film.1 film.2 len (List.range (2 ^ n))) ?_ (by have := nearX_best ((List.range n).map sp) film.1 film.2 len; simpa only [List.length_map, List.length_range] using this)
  -- each entry is a stack
  have hent : ∀ e ∈ l, ∃ x, 0 < x ∧ x < 2 ^ n ∧ e.2.least = x ∧ offK len e.1 = offV (ofL ((List.range n).map sp) film.1 film.2 x) len ∧ e.1.many = (sizeN x : Int) ∧ sizeN x < 9 := by
    intro e he
    obtain ⟨⟨x, h0, hx, hk, hf⟩, _⟩ := entry_ok (hl.mem_iff.1 he)
    have hk2 := hk
    rw [keyN_ofL h0 hx] at hk2
    refine ⟨x, h0, hx, hf, by rw [← hk2]; rfl, by rw [← hk2], ?_⟩
    have h3 := cntB_size n x hx
    have h4 := cntB_le x n
    omega
  cases o with
  | none =>
    rintro c ⟨x, hx, h0, rfl⟩
    have hx := List.mem_range.1 hx
    obtain ⟨f, hf⟩ := entry_ex (film := film) (sp := sp) h0 hx
    have hf := hl.mem_iff.2 hf
    obtain ⟨y, _, _, _, _, hm, hy9⟩ := hent _ hf
    have hb := rowR_best len (sizeN y) l
    cases hr : rowR len l (sizeN y) with
    | none => rw [hr] at hb; exact hb _ ⟨_, hf, hm, rfl⟩
    | some c => exact h2 c ⟨_, hy9, hr⟩
  | some b =>
    obtain ⟨⟨m, hm9, hb⟩, hmin⟩ := h2
    have hbm := rowR_best len m l
    rw [hb] at hbm
    obtain ⟨e, he, hem, rfl⟩ := hbm.1
    obtain ⟨x, h0, hx, hf, ho, _, _⟩ := hent e he
    refine ⟨⟨x, List.mem_range.2 hx, h0, by rw [hf, ho]⟩, ?_⟩
    rintro c ⟨y, hy, hy0, rfl⟩ hlt
    have hy := List.mem_range.1 hy
    obtain ⟨f, hf'⟩ := entry_ex (film := film) (sp := sp) hy0 hy
    have hle := (entry_ok hf').2 y hy0 hy rfl
    have hf' := hl.mem_iff.2 hf'
    obtain ⟨z, hz0, hz, hzf, hzo, hzm, hz9⟩ := hent _ hf'
    have hko : offK len (keyN film sp n y) = offV (ofL ((List.range n).map sp) film.1 film.2 y) len := by rw [keyN_ofL hy0 hy]; rfl
    -- the entry's own best is not worse than y
    have hbz := rowR_best len (sizeN z) l
    cases hr : rowR len l (sizeN z) with
    | none => rw [hr] at hbz; exact hbz _ ⟨_, hf', hzm, rfl⟩
    | some d =>
      rw [hr] at hbz
      have h5 := hbz.2 _ ⟨_, hf', hzm, rfl⟩
      have h6 := hmin d ⟨_, hz9, hr⟩
      have h7 : ¬ ltC (offV (ofL ((List.range n).map sp) film.1 film.2 y) len, y) (offK len (keyN film sp n y), f.least) = true := by
        simp only [ltC, Bool.or_eq_true, Bool.and_eq_true, decide_eq_true_eq, hko]
        intro h
        rcases h with h | ⟨_, h⟩
        · omega
        · exact hle h
      exact h6 (ltC_not h5 (ltC_not h7 hlt))
theorem okTs_of {L : List Span} {ts : List ((Lg × Fd) × Nat)} (hL : okSet ((List.range n).map sp) film.1 film.2) (h : (ts.map fun x => x.1).Perm (lenM film n sp)) : okTs ts := by
  obtain ⟨h8, hlo, hhi, hb⟩ := hL
  have h8 : n ≤ 8 := by simpa using h8
  intro e he
  have hm : (e.1.1, e.1.2) ∈ lenM film n sp := h.mem_iff.1 (List.mem_map_of_mem he)
  obtain ⟨⟨x, h0, hx, hk, hf⟩, _⟩ := entry_ok hm
  have hb' : ∀ i, i < n → (0 ≤ (sp i).1 ∧ (sp i).1 ≤ 1000) ∧ (0 ≤ (sp i).2 ∧ (sp i).2 ≤ 1000) := fun i hi => hb (sp i) (List.mem_map.2 ⟨i, List.mem_range.2 hi, rfl⟩)
  have h1 := group_fst (fun k => 0 ≤ k.lo ∧ k.lo ≤ n * 2000 ∧ 0 ≤ k.hi ∧ k.hi ≤ n * 2000 ∧ 0 ≤ k.many ∧ k.many ≤ n) (S := (listS film sp n).filter fun p => decide (p.1 ≠ zeroL))
    (fun p hp => listS_keys ⟨hlo, hhi⟩ hb' n (Nat.le_refl _) p (List.mem_filter.1 hp).1) e.1 hm
  have h2 := keyN_ofL (film := film) (sp := sp) h0 hx
  rw [hk] at h2
  have h3 := congrArg Lg.many h2
  simp only at h3
  have h4 := sizeN_ge h0
  have h5 := pow_le8 h8
  refine ⟨⟨h1.1, by omega⟩, ⟨h1.2.2.1, by omega⟩, ⟨by omega, by omega⟩, by omega⟩
end Go.X.S
end

section
set_option linter.unusedVariables false
set_option linter.unusedSimpArgs false
set_option linter.unusedSectionVars false
/- Stack: Nearest, Gap. -/
set_option linter.unusedVariables false
set_option linter.unusedSimpArgs false
set_option linter.unusedSectionVars false
set_option maxRecDepth 10000
set_option maxHeartbeats 1000000
namespace Go.X.S
open Go Go.Proofs Go.X

def isLenB (m : Int) : Bool := decide (0 ≤ m) && decide (m ≤ 5000)
def nrW (L : List Span) (lo hi len : Int) : Int × Int × Int :=
  if errV L lo hi (isLenB len) = 0 then (match nearX L lo hi len with | some c => ((c.2 : Int), c.1, 0) | none => (0, 0, 4)) else (0, 0, errV L lo hi (isLenB len))
theorem nearX_lt {L : List Span} {lo hi len : Int} {c : Int × Nat} (h : nearX L lo hi len = some c) : 0 < c.2 ∧ c.2 < 2 ^ L.length ∧ c.1 = offV (ofL L lo hi c.2) len := by
  have hb := nearX_best L lo hi len
  rw [h] at hb
  obtain ⟨x, hx, h0, rfl⟩ := hb.1
  exact ⟨h0, List.mem_range.1 hx, rfl⟩
def c25 : Ct := stCt fun L lo hi r => match r with
  | [.si .i64 len] => some (some (L.length ≤ 40), .tup [.si .i64 (nrW L lo hi len).1, .si .i64 (nrW L lo hi len).2.1, .si .i64 (nrW L lo hi len).2.2])
  | _ => none
theorem k25 {l : List (Nat × Ct)} (g0 : Good P T l) : COk P 25 c25 := by
  have g := g53 (g56 (g57 (g41 (g55 g0))))
  refine cokD (C := tabC _) g.ok answer_ok Try.func25 (c := code Try.f25) rfl fun fr args H out h hp => stWalkD h hp fun n sp lo hi r p v Rv hk hp hR => ?_
  split at hk
  · rename_i len
    cases hk
    have hp : ((List.range n).map sp).length ≤ 40 := hp
    have hp' : n ≤ 40 := by simpa using hp
    refine ⟨Nat.le_of_ble_eq_true rfl, fun G hG => ?_⟩
    refine fb_defer (g.ok _ _ _) rfl cont_std rfl rfl rfl rfl ?_
    refine drawn_ok (g.ok _ _ _) fol [0,0,2,7,15] [] 5 (by kernel_rfl) ?_
    refine Chk.mk (spans_sp _ _) ?_
    generalize hE : errV ((List.range n).map sp) lo hi (isLenB len) = E at hR
    refine Br.mk (fun h => ?_) (fun h => ?_)
    · have h : (!decide (errV ((List.range n).map sp) lo hi (isLenB len) = 0)) = true := h
      rw [hE] at h
      have h : ¬ E = 0 := by simpa using h
      have hw : nrW ((List.range n).map sp) lo hi len = (0, 0, E) := by rw [nrW, hE, if_neg h]
      exact hR _ _ ⟨⟨rfl, by rw [hw]⟩, ⟨rfl, by rw [hw]⟩, ⟨rfl, by rw [hw]; exact hE⟩, trivial⟩ rfl
    · have h : (!decide (errV ((List.range n).map sp) lo hi (isLenB len) = 0)) = false := h
      rw [hE] at h
      have h : E = 0 := by simpa using h
      obtain ⟨q1, q2⟩ := errV_zero (hE.trans h)
      have q2 : 0 ≤ len ∧ len ≤ 5000 := by simpa [isLenB] using q2
      have hset := okSet_of q1
      have h8 : n ≤ 8 := by have := hset.1; simpa using this
      refine Chk.mk ⟨spans_sp _ _, hset⟩ ?_
      refine fb_open encL encF (lenM (lo, hi) n sp) 23 (g.ok _ _ _) cont_std rfl encL_key encF_cl rfl ?_
      intro hnd ts clk hts
      refine Chk.mk ⟨spans_sp _ _, by rw [decS_enc], by rw [decS_enc]; exact ⟨okTs_of (film := (lo, hi)) (L := []) hset hts, q2.1, by omega⟩⟩ ?_
      rw [decS_enc, near_law (film := (lo, hi)) (sp := sp) h8 hts]
      have hw : nrW ((List.range n).map sp) lo hi len = (match nearX ((List.range n).map sp) lo hi len with | some c => ((c.2 : Int), c.1, 0) | none => (0, 0, 4)) := by rw [nrW, hE, if_pos h]
      cases hX : nearX ((List.range n).map sp) lo hi len with
      | none =>
        rw [hX] at hw
        refine Br.mk (fun _ => ?_) (fun h => by cases h)
        exact hR _ _ ⟨⟨rfl, by rw [hw]⟩, ⟨rfl, by rw [hw]⟩, ⟨rfl, by rw [hw]⟩, trivial⟩ rfl
      | some c =>
        rw [hX] at hw
        obtain ⟨h1, h2, h3⟩ := nearX_lt hX
        rw [List.length_map, List.length_range] at h2
        have h256 := pow_le8 h8
        refine Br.mk (fun h => by cases h) (fun _ => ?_)
        refine Chk.mk (show InK .i64 ((c.2 : Nat) : Int) from ⟨by omega, by omega⟩) ?_
        exact hR _ _ ⟨⟨rfl, by rw [hw]⟩, ⟨rfl, by rw [hw]⟩, ⟨rfl, by rw [hw]⟩, trivial⟩ rfl
  · cases hk
theorem g25 {l : List (Nat × Ct)} (g : Good P T l) : Good P T ((25, c25) :: l) := g.add (k25 g) (stCt_mono _) (body_of Try.func25 (c := code Try.f25) rfl (by decide))
end Go.X.S
end

section
set_option linter.unusedVariables false
set_option linter.unusedSimpArgs false
set_option linter.unusedSectionVars false
/- Stack: Gap. -/
set_option linter.unusedVariables false
set_option linter.unusedSimpArgs false
set_option linter.unusedSectionVars false
set_option maxRecDepth 10000
set_option maxHeartbeats 2000000
namespace Go.X.S
open Go Go.Proofs Go.X

def gapB (a b c : Int) : Bool := isLenB a && isLenB b && (decide (0 ≤ b - a) && decide (b - a ≤ 60)) && isLenB c
def badG (L : List Span) (lo hi c n : Int) : Bool := match nearX L lo hi n with
  | none => true
  | some d => decide (c < d.1)
def gapS (L : List Span) (lo hi c : Int) : Nat → Int → Option Int
  | 0, _ => none
  | k + 1, n => if badG L lo hi c n = true then some n else gapS L lo hi c k (n + 1)
def gapW (L : List Span) (lo hi a b c : Int) : Int × Int :=
  if errV L lo hi (gapB a b c) = 0 then (match gapS L lo hi c (b - a + 1).toNat a with | some m => (m, 0) | none => (0, 4)) else (0, errV L lo hi (gapB a b c))
def c27 : Ct := stCt fun L lo hi r => match r with
  | [.si .i64 a, .si .i64 b, .si .i64 c] => some (some (L.length ≤ 40), .tup [.si .i64 (gapW L lo hi a b c).1, .si .i64 (gapW L lo hi a b c).2])
  | _ => none
theorem encS_perm {ts : List ((Lg × Fd) × Nat)} {l : List (Lg × Fd)} (h : (ts.map fun x => x.1).Perm l) : ((encS encL encF ts).map fun e => (e.1, e.2.1)).Perm (encM encL encF l) := by
  have := h.map (fun p : Lg × Fd => (encL p.1, encF p.2))
  rw [List.map_map] at this
  show (List.map _ (List.map _ ts)).Perm (List.map _ l)
  rw [List.map_map]
  exact this

theorem k27 {l : List (Nat × Ct)} (g0 : Good P T l) : COk P 27 c27 := by
  have g := g56 (g57 (g41 (g55 (g61 g0))))
  refine cokD (C := tabC _) g.ok answer_ok Try.func27 (c := code Try.f27) rfl fun fr args H out h hp => stWalkD h hp fun n sp lo hi r p v Rv hk hp hR => ?_
  split at hk
  · rename_i a b c
    cases hk
    have hp : ((List.range n).map sp).length ≤ 40 := hp
    have hp' : n ≤ 40 := by simpa using hp
    refine ⟨Nat.le_of_ble_eq_true rfl, fun G hG => ?_⟩
    refine fb_defer (g.ok _ _ _) rfl cont_std rfl rfl rfl rfl ?_
    refine drawn_ok (g.ok _ _ _) fol [0,0,2,6,14,30,62,126,254,254,1022,2046,4094,8190,16382,32766,65534,131071,262143] [] 19 (by kernel_rfl) ?_
    refine Chk.mk ?_ ?_
    · refine fun h => ?_
      have h : (isLenB a && isLenB b) = true := h
      simp only [isLenB, Bool.and_eq_true, decide_eq_true_eq] at h
      exact (⟨by omega, by omega⟩ : InK .i64 (b - a))
    · refine Chk.mk (spans_sp _ _) ?_
      generalize hE : errV ((List.range n).map sp) lo hi (gapB a b c) = E at hR
      refine Br.mk (fun h => ?_) (fun h => ?_)
      · have h : (!decide (errV ((List.range n).map sp) lo hi (gapB a b c) = 0)) = true := h
        rw [hE] at h
        have h : ¬ E = 0 := by simpa using h
        have hw : gapW ((List.range n).map sp) lo hi a b c = (0, E) := by rw [gapW, hE, if_neg h]
        exact hR _ _ ⟨⟨rfl, by rw [hw]⟩, ⟨rfl, by rw [hw]; exact hE⟩, trivial⟩ rfl
      · have h : (!decide (errV ((List.range n).map sp) lo hi (gapB a b c) = 0)) = false := h
        rw [hE] at h
        have h : E = 0 := by simpa using h
        obtain ⟨q1, q2⟩ := errV_zero (hE.trans h)
        have q2 : (0 ≤ a ∧ a ≤ 5000) ∧ (0 ≤ b ∧ b ≤ 5000) ∧ (0 ≤ b - a ∧ b - a ≤ 60) ∧ (0 ≤ c ∧ c ≤ 5000) := by
          simp only [gapB, isLenB, Bool.and_eq_true, decide_eq_true_eq] at q2; omega
        have hset := okSet_of q1
        have h8 : n ≤ 8 := by have := hset.1; simpa using this
        refine Chk.mk ⟨spans_sp _ _, hset⟩ ?_
        refine loop_okR (g.ok _ _ _) 1 (fun x : {k : Nat // a + (k : Int) ≤ b + 1 ∧ gapS ((List.range n).map sp) lo hi c (b - a + 1).toNat a = gapS ((List.range n).map sp) lo hi c (b - a + 1 - (k : Int)).toNat (a + (k : Int))} => ⟨[(2, ⟨[], .si .i64 b⟩), (3, ⟨[], .si .i64 c⟩), (9, ⟨[], .sp 2 0⟩), (11, ⟨[], .sm 79⟩), (12, ⟨[], .fn (.func 56) [.sp 71 0] []⟩), (13, ⟨[], .si .i64 (a + (x.1 : Int))⟩)], [],
          [(2, .cells 29 [.si .i64 0]), (71, .cells 97 [.sl 72, .si .i64 lo, .si .i64 hi]), (72, .ro 2 n fun i => spanC (sp i)), (79, .mp (encM encL encF (lenM (lo, hi) n sp)))], 83, [(40, [.sp 2 0])]⟩)
          (fun x => (b + 1 - (a + (x.1 : Int))).toNat) hG ⟨0, by omega, by simp⟩ (fun j => j) ?_ ?_
        · have hs1 : a = a + ((0 : Nat) : Int) := by omega
          refine ⟨?_, ?_, rfl, rfl, rfl, rfl, ⟨rfl, ⟨⟨rfl, rfl⟩, trivial⟩, rfl, trivial⟩⟩
          · repeat' (first | exact trivial | exact hs1 | exact rfl | refine And.intro ?_ ?_)
          · refine ⟨⟨⟨rfl, ⟨⟨rfl, rfl⟩, trivial⟩, rfl⟩, rfl⟩, ⟨⟨rfl, ⟨rfl, ⟨rfl, rfl⟩, ⟨rfl, rfl⟩, trivial⟩, rfl⟩, rfl⟩, ⟨⟨rfl, rfl, fun i hi => ⟨rfl, rfl⟩⟩, rfl⟩, ⟨List.Perm.refl _, rfl⟩, trivial⟩
        · rintro ⟨k, hk1, hk2⟩
          refine Br.mk (fun h => ?_) (fun h => ?_)
          · have h : a + (k : Int) ≤ b := of_decide_eq_true h
            obtain ⟨f, hf⟩ : ∃ f, (b - a + 1 - (k : Int)).toNat = f + 1 := ⟨(b - a - (k : Int)).toNat, by omega⟩
            have hf2 : (b - a + 1 - ((k + 1 : Nat) : Int)).toNat = f := by omega
            have hstep : gapS ((List.range n).map sp) lo hi c (b - a + 1 - (k : Int)).toNat (a + (k : Int)) = if badG ((List.range n).map sp) lo hi c (a + (k : Int)) = true then some (a + (k : Int)) else gapS ((List.range n).map sp) lo hi c f (a + (k : Int) + 1) := by
              rw [hf, gapS]
            refine fb_open encL encF (lenM (lo, hi) n sp) 79 (g.ok _ _ _) cont_std rfl encL_key encF_cl rfl ?_
            intro hnd ts clk hts
            refine Chk.mk ⟨spans_sp _ _, by rw [decS_enc], by rw [decS_enc]; exact ⟨okTs_of (film := (lo, hi)) (L := []) hset hts, by show (0 : Int) ≤ a + (k : Int); omega, by show a + (k : Int) ≤ _; omega⟩⟩ ?_
            rw [decS_enc, near_law (film := (lo, hi)) (sp := sp) h8 hts]
            have hgo : badG ((List.range n).map sp) lo hi c (a + (k : Int)) = false → a + ((k + 1 : Nat) : Int) ≤ b + 1 ∧ gapS ((List.range n).map sp) lo hi c (b - a + 1).toNat a = gapS ((List.range n).map sp) lo hi c (b - a + 1 - ((k + 1 : Nat) : Int)).toNat (a + ((k + 1 : Nat) : Int)) := by
              intro hb
              refine ⟨by omega, ?_⟩
              rw [hk2, hstep, if_neg (by rw [hb]; exact Bool.false_ne_true), hf2]
              congr 1
              omega
            have hret : badG ((List.range n).map sp) lo hi c (a + (k : Int)) = true → gapW ((List.range n).map sp) lo hi a b c = (a + (k : Int), 0) := by
              intro hb
              rw [gapW, hE, if_pos (by assumption), hk2, hstep, if_pos hb]
            cases hX : nearX ((List.range n).map sp) lo hi (a + (k : Int)) with
            | none =>
              have hw := hret (by rw [badG, hX])
              refine Br.mk (fun _ => ?_) (fun h => by cases h)
              exact hR _ _ ⟨⟨rfl, by rw [hw]⟩, ⟨rfl, by rw [hw]⟩, trivial⟩ rfl
            | some d =>
              refine Br.mk (fun hb => ?_) (fun hb => ?_)
              · have hb : decide (c < d.1) = true := hb
                have hw := hret (by rw [badG, hX]; exact hb)
                exact hR _ _ ⟨⟨rfl, by rw [hw]⟩, ⟨rfl, by rw [hw]⟩, trivial⟩ rfl
              · have hb : decide (c < d.1) = false := hb
                have hgo := hgo (by rw [badG, hX]; exact hb)
                refine Chk.mk (show InK .i64 (a + (k : Int) + 1) from ⟨by omega, by omega⟩) ?_
                refine ⟨⟨k + 1, hgo⟩, (fun j => j), ?_, (by show (b + 1 - (a + ((k + 1 : Nat) : Int))).toNat < (b + 1 - (a + (k : Int))).toNat; omega)⟩
                have hs1 : a + (k : Int) + 1 = a + ((k + 1 : Nat) : Int) := by omega
                refine ⟨?_, ?_, rfl, rfl, rfl, rfl, ⟨rfl, ⟨⟨rfl, rfl⟩, trivial⟩, rfl, trivial⟩⟩
                · repeat' (first | exact trivial | exact hs1 | exact rfl | refine And.intro ?_ ?_)
                · refine ⟨⟨⟨rfl, ⟨⟨rfl, rfl⟩, trivial⟩, rfl⟩, rfl⟩, ⟨⟨rfl, ⟨rfl, ⟨rfl, rfl⟩, ⟨rfl, rfl⟩, trivial⟩, rfl⟩, rfl⟩, ⟨⟨rfl, rfl, fun i hi => ⟨rfl, rfl⟩⟩, rfl⟩, ⟨encS_perm hts, rfl⟩, trivial⟩
          · have h : ¬ a + (k : Int) ≤ b := of_decide_eq_false h
            have hf : (b - a + 1 - (k : Int)).toNat = 0 := by omega
            have hw : gapW ((List.range n).map sp) lo hi a b c = (0, 4) := by
              rw [gapW, hE, if_pos (by assumption), hk2, hf, gapS]
            exact hR _ _ ⟨⟨rfl, by rw [hw]⟩, ⟨rfl, by rw [hw]⟩, trivial⟩ rfl
  · cases hk
theorem g27 {l : List (Nat × Ct)} (g : Good P T l) : Good P T ((27, c27) :: l) := g.add (k27 g) (stCt_mono _) (body_of Try.func27 (c := code Try.f27) rfl (by decide))
end Go.X.S
end

section
set_option linter.unusedVariables false
set_option linter.unusedSimpArgs false
set_option linter.unusedSectionVars false
/- Stack: the document's nearest, Nearest. -/
set_option linter.unusedVariables false
set_option linter.unusedSimpArgs false
set_option linter.unusedSectionVars false
set_option maxRecDepth 10000
set_option maxHeartbeats 1000000
namespace Go.X.S
open Go Go.Proofs Go.X

def bestV (o : Option (Int × Nat)) : Int := match o with
  | none => 0
  | some c => c.2
def nearI (L : List Span) (lo hi len : Int) (s : Nat) : Option (Int × Nat) := (List.range s).foldl (stepX L lo hi len) none
theorem nearI_succ (L : List Span) (lo hi len : Int) (s : Nat) : nearI L lo hi len (s + 1) = stepX L lo hi len (nearI L lo hi len s) s := by
  simp only [nearI, List.range_succ, List.foldl_append, List.foldl_cons, List.foldl_nil]
theorem nearI_ok {L : List Span} {lo hi len : Int} : ∀ {s : Nat} {c : Int × Nat}, nearI L lo hi len s = some c → 0 < c.2 ∧ c.2 < s ∧ c.1 = offV (ofL L lo hi c.2) len
  | 0, c, h => by cases h
  | s + 1, c, h => by
    rw [nearI_succ, stepX] at h
    split at h
    · rename_i h0
      cases ho : nearI L lo hi len s with
      | none => rw [ho] at h; cases h; exact ⟨h0, Nat.lt_succ_self _, rfl⟩
      | some b =>
        rw [ho] at h
        have hb := nearI_ok ho
        simp only [bestO] at h
        split at h
        · cases h; exact ⟨h0, Nat.lt_succ_self _, rfl⟩
        · cases h; exact ⟨hb.1, by omega, hb.2.2⟩
    · have hb := nearI_ok h
      exact ⟨hb.1, by omega, hb.2.2⟩
theorem nearI_yes {L : List Span} {lo hi len : Int} {s : Nat} {o : Option (Int × Nat)} (ho : nearI L lo hi len s = o) (h0 : 0 < s)
    (h : o = none ∨ ∃ c, o = some c ∧ ((decide (offV (ofL L lo hi s) len < c.1) || (decide (offV (ofL L lo hi s) len = c.1) && decide ((sizeN s : Int) < sizeN c.2))) = true)) : nearI L lo hi len (s + 1) = some (offV (ofL L lo hi s) len, s) := by
  rw [nearI_succ, ho, stepX, if_pos h0]
  rcases h with rfl | ⟨c, rfl, h⟩
  · rfl
  · simp only [bestO]
    rw [if_pos]
    simp only [ltC, Bool.or_eq_true, Bool.and_eq_true, decide_eq_true_eq, lessN_iff] at h ⊢
    omega
theorem nearI_no {L : List Span} {lo hi len : Int} {s : Nat} {c : Int × Nat} (ho : nearI L lo hi len s = some c) (h0 : 0 < s)
    (h : (decide (offV (ofL L lo hi s) len < c.1) || (decide (offV (ofL L lo hi s) len = c.1) && decide ((sizeN s : Int) < sizeN c.2))) = false) : nearI L lo hi len (s + 1) = some c := by
  have hc := nearI_ok ho
  rw [nearI_succ, ho, stepX, if_pos h0]
  simp only [bestO]
  rw [if_neg]
  simp only [Bool.or_eq_false_iff, Bool.and_eq_false_iff, decide_eq_false_iff_not] at h
  simp only [ltC, Bool.or_eq_true, Bool.and_eq_true, decide_eq_true_eq, lessN_iff]
  omega
theorem preOf_set {L : List Span} {lo hi : Int} {s : Nat} (h : setOk L lo hi = true) (h0 : 0 < s) (hs : s < 2 ^ L.length) : preOf L lo hi (s : Int) := by
  refine preOf_ok ?_
  have h3 : ((2 ^ L.length : Nat) : Int) = (2 : Int) ^ L.length := by push_cast; rfl
  have : isSetB L.length (s : Int) = true := by
    simp only [isSetB, Bool.and_eq_true, decide_eq_true_eq]
    rw [← h3]
    omega
  simp only [errV, h, this, if_true]
def c59 : Ct := stCt fun L lo hi r => match r with
  | [.si .i64 m] => some (some (setOk L lo hi = true ∧ 0 ≤ m ∧ m ≤ 5000), .si .i64 (bestV (nearX L lo hi m)))
  | _ => none
theorem k59 {l : List (Nat × Ct)} (g0 : Good P T l) : COk P 59 c59 := by
  have g := g36 (g60 (g51 g0))
  refine cok (C := tabC _) g.ok Try.func59 (c := code Try.f59) rfl fun fr args H out h hp => stWalk h hp fun n sp lo hi r p v Rv Rp hk hp hR => ?_
  split at hk
  · rename_i m
    cases hk
    obtain ⟨hset, hm0, hm1⟩ : setOk ((List.range n).map sp) lo hi = true ∧ 0 ≤ m ∧ m ≤ 5000 := hp
    have h8 : n ≤ 8 := by have := (okSet_of hset).1; simpa using this
    have h256 := pow_le8 h8
    have hlen : ((List.range n).map sp).length = n := by simp
    have hpw : ((2 ^ n : Nat) : Int) = (2 : Int) ^ n := by push_cast; rfl
    refine ⟨Nat.le_of_ble_eq_true rfl, fun G hG => ?_⟩
    refine loop_ok (g.ok _ _ _) (fun x : {s : Nat // 1 ≤ s ∧ s ≤ 2 ^ n} => ⟨[(1, ⟨[], .si .i64 m⟩), (2, ⟨[], .sp 1 0⟩), (5, ⟨[], .si .i64 (bestV (nearI ((List.range n).map sp) lo hi m x.1))⟩), (6, ⟨[], .si .i64 (x.1 : Int)⟩)], [],
      [(0, .ro 2 n fun i => spanC (sp i)), (1, .cells 26 [.sl 0, .si .i64 lo, .si .i64 hi])], 2, []⟩) (fun x => 2 ^ n - x.1) (fun _ j hj => hG j (by have : 2 ≤ j := hj; omega)) ⟨1, Nat.le_refl _, Nat.one_le_two_pow⟩ ?_ ?_
    · refine ⟨?_, ?_, rfl, rfl, rfl⟩
      · repeat' (first | exact trivial | exact rfl | refine And.intro ?_ ?_)
      · refine ⟨⟨rfl, fun i hi => rfl, rfl⟩, ⟨⟨rfl, rfl, ⟨rfl, rfl⟩, ⟨rfl, rfl⟩, trivial⟩, rfl, rfl⟩, trivial⟩
    · rintro ⟨s, hs1, hs2⟩
      refine Chk.mk (show (n : Int) ≤ 62 by omega) ?_
      refine Br.mk (fun h => ?_) (fun h => ?_)
      · have h : (s : Int) < (2 : Int) ^ n := of_decide_eq_true h
        have hs : s < 2 ^ n := by omega
        have hin : InK .i64 ((s : Int) + 1) := ⟨by omega, by omega⟩
        have hpre := preOf_set hset hs1 (by rw [hlen]; exact hs)
        cases ho : nearI ((List.range n).map sp) lo hi m s with
        | none =>
          refine Br.mk (fun h => absurd (show decide ((0 : Int) < 0) = true from h) (by decide)) (fun _ => ?_)
          have hs36 : (s : Int) < 4611686018427387904 := by omega
          refine Chk.mk (by repeat refine fun _ => ?_
                            exact hs36) ?_
          refine Chk.mk (by repeat refine fun _ => ?_
                            exact (by decide : (0 : Int) < 4611686018427387904)) ?_
          refine Br.mk (fun h => ?_) (fun h => ?_)
          · have hn := nearI_yes ho hs1 (.inl rfl)
            have hs1 : (s : Int) = bestV (nearI ((List.range n).map sp) lo hi m (s + 1)) := by rw [hn]; rfl
            refine Chk.mk hin ⟨⟨s + 1, by omega, by omega⟩, ?_, (by show 2 ^ n - (s + 1) < 2 ^ n - s; omega)⟩
            refine ⟨?_, ?_, rfl, rfl, rfl⟩
            · repeat' (first | exact trivial | exact hs1 | exact rfl | refine And.intro ?_ ?_)
            · refine ⟨⟨rfl, fun i hi => rfl, rfl⟩, ⟨⟨rfl, rfl, ⟨rfl, rfl⟩, ⟨rfl, rfl⟩, trivial⟩, rfl, rfl⟩, trivial⟩
          · exact absurd (show true = false from h) (by decide)
        | some c =>
          obtain ⟨hc1, hc2, hc3⟩ := nearI_ok ho
          have hprec := preOf_set hset hc1 (by rw [hlen]; omega)
          have hs36 : (s : Int) < 4611686018427387904 := by omega
          have hc36 : (c.2 : Int) < 4611686018427387904 := by omega
          refine Br.mk (fun _ => ?_) (fun h => absurd (of_decide_eq_false (show decide ((0 : Int) < (c.2 : Int)) = false from h)) (by omega))
          refine drawn_ok (g.ok _ _ _) fol [0,0,0,7,0,0,0,127,255,511] [] 10 (by kernel_rfl) ?_
          refine Chk.mk ⟨spans_sp _ _, rfl, hpre, by omega, by omega⟩ ?_
          refine Chk.mk ⟨spans_sp _ _, rfl, hprec, by omega, by omega⟩ ?_
          refine Chk.mk (by repeat refine fun _ => ?_
                            exact hs36) ?_
          refine Chk.mk (by repeat refine fun _ => ?_
                            exact hc36) ?_
          have hc0 : decide ((c.2 : Int) = 0) = false := decide_eq_false (by omega)
          refine Br.mk (fun h => ?_) (fun h => ?_)
          · have h : ((decide ((c.2 : Int) = 0) || decide (offV (ofL ((List.range n).map sp) lo hi s) m < offV (ofL ((List.range n).map sp) lo hi c.2) m)) || (decide (offV (ofL ((List.range n).map sp) lo hi s) m = offV (ofL ((List.range n).map sp) lo hi c.2) m) && decide ((sizeN s : Int) < sizeN c.2))) = true := h
            rw [hc0, ← hc3, Bool.false_or] at h
            have hn := nearI_yes ho hs1 (.inr ⟨c, rfl, h⟩)
            have hs1 : (s : Int) = bestV (nearI ((List.range n).map sp) lo hi m (s + 1)) := by rw [hn]; rfl
            refine Chk.mk hin ⟨⟨s + 1, by omega, by omega⟩, ?_, (by show 2 ^ n - (s + 1) < 2 ^ n - s; omega)⟩
            refine ⟨?_, ?_, rfl, rfl, rfl⟩
            · repeat' (first | exact trivial | exact hs1 | exact rfl | refine And.intro ?_ ?_)
            · refine ⟨⟨rfl, fun i hi => rfl, rfl⟩, ⟨⟨rfl, rfl, ⟨rfl, rfl⟩, ⟨rfl, rfl⟩, trivial⟩, rfl, rfl⟩, trivial⟩
          · have h : ((decide ((c.2 : Int) = 0) || decide (offV (ofL ((List.range n).map sp) lo hi s) m < offV (ofL ((List.range n).map sp) lo hi c.2) m)) || (decide (offV (ofL ((List.range n).map sp) lo hi s) m = offV (ofL ((List.range n).map sp) lo hi c.2) m) && decide ((sizeN s : Int) < sizeN c.2))) = false := h
            rw [hc0, ← hc3, Bool.false_or] at h
            have hn := nearI_no ho hs1 h
            have hs1 : (c.2 : Int) = bestV (nearI ((List.range n).map sp) lo hi m (s + 1)) := by rw [hn]; rfl
            refine Chk.mk hin ⟨⟨s + 1, by omega, by omega⟩, ?_, (by show 2 ^ n - (s + 1) < 2 ^ n - s; omega)⟩
            refine ⟨?_, ?_, rfl, rfl, rfl⟩
            · repeat' (first | exact trivial | exact hs1 | exact rfl | refine And.intro ?_ ?_)
            · refine ⟨⟨rfl, fun i hi => rfl, rfl⟩, ⟨⟨rfl, rfl, ⟨rfl, rfl⟩, ⟨rfl, rfl⟩, trivial⟩, rfl, rfl⟩, trivial⟩
      · have h : ¬ (s : Int) < (2 : Int) ^ n := of_decide_eq_false h
        have hse : s = 2 ^ n := by omega
        have hX : nearX ((List.range n).map sp) lo hi m = nearI ((List.range n).map sp) lo hi m s := by rw [nearX, nearI, hlen, hse]
        exact hR _ _ ⟨rfl, by rw [hX]⟩ rfl
  · cases hk
end Go.X.S
end

section
set_option linter.unusedVariables false
set_option linter.unusedSimpArgs false
set_option linter.unusedSectionVars false
/- Stack: the document's Nearest and Gap. -/
set_option linter.unusedVariables false
set_option linter.unusedSimpArgs false
set_option linter.unusedSectionVars false
set_option maxRecDepth 10000
set_option maxHeartbeats 1000000
namespace Go.X.S
open Go Go.Proofs Go.X

theorem g59 {l : List (Nat × Ct)} (g : Good P T l) : Good P T ((59, c59) :: l) := g.add (k59 g) (stCt_mono _) (body_of Try.func59 (c := code Try.f59) rfl (by decide))
theorem k26 {l : List (Nat × Ct)} (g0 : Good P T l) : COk P 26 c25 := by
  have g := g60 (g59 (g58 (g44 g0)))
  refine cok (C := tabC _) g.ok Try.func26 (c := code Try.f26) rfl fun fr args H out h hp => stWalk h hp fun n sp lo hi r p v Rv Rp hk hp hR => ?_
  split at hk
  · rename_i len
    cases hk
    have hp : ((List.range n).map sp).length ≤ 40 := hp
    refine ⟨Nat.le_of_ble_eq_true rfl, fun G hG => ?_⟩
    generalize hE : errV ((List.range n).map sp) lo hi (isLenB len) = E at hR
    refine drawn_ok (g.ok _ _ _) fol [0,0,2,7,15] [] 5 (by kernel_rfl) ?_
    refine Chk.mk ⟨spans_sp _ _, rfl, trivial⟩ ?_
    refine Br.mk (fun h => ?_) (fun h => ?_)
    · have h : (!decide (errV ((List.range n).map sp) lo hi (isLenB len) = 0)) = true := h
      rw [hE] at h
      have h : ¬ E = 0 := by simpa using h
      have hw : nrW ((List.range n).map sp) lo hi len = (0, 0, E) := by rw [nrW, hE, if_neg h]
      exact hR _ _ ⟨⟨rfl, by rw [hw]⟩, ⟨rfl, by rw [hw]⟩, ⟨rfl, by rw [hw]; exact hE⟩, trivial⟩ rfl
    · have h : (!decide (errV ((List.range n).map sp) lo hi (isLenB len) = 0)) = false := h
      rw [hE] at h
      have h : E = 0 := by simpa using h
      obtain ⟨q1, q2⟩ := errV_zero (hE.trans h)
      have q2 : 0 ≤ len ∧ len ≤ 5000 := by simpa [isLenB] using q2
      refine Chk.mk ⟨spans_sp _ _, rfl, q1, q2.1, q2.2⟩ ?_
      have hw : nrW ((List.range n).map sp) lo hi len = (match nearX ((List.range n).map sp) lo hi len with | some c => ((c.2 : Int), c.1, 0) | none => (0, 0, 4)) := by rw [nrW, hE, if_pos h] <;> rfl
      cases hX : nearX ((List.range n).map sp) lo hi len with
      | none =>
        rw [hX] at hw
        refine Br.mk (fun _ => ?_) (fun hb => absurd (show decide (bestV (nearX ((List.range n).map sp) lo hi len) = 0) = false from hb) (by rw [hX]; decide))
        exact hR _ _ ⟨⟨rfl, by rw [hw]⟩, ⟨rfl, by rw [hw]⟩, ⟨rfl, by rw [hw]⟩, trivial⟩ rfl
      | some c =>
        rw [hX] at hw
        obtain ⟨h1, h2, h3⟩ := nearX_lt hX
        have hbv : bestV (nearX ((List.range n).map sp) lo hi len) = (c.2 : Int) := by rw [hX]; rfl
        have hpre := preOf_set q1 h1 h2
        refine Br.mk (fun hb => absurd (of_decide_eq_true (show decide (bestV (nearX ((List.range n).map sp) lo hi len) = 0) = true from hb)) (by rw [hbv]; omega)) (fun _ => ?_)
        refine Chk.mk ⟨spans_sp _ _, rfl, ?_, by omega, by omega⟩ ?_
        · show preOf _ lo hi (bestV (nearX ((List.range n).map sp) lo hi len))
          rw [hbv]; exact hpre
        · refine hR _ _ ⟨⟨rfl, ?_⟩, ⟨rfl, ?_⟩, ⟨rfl, by rw [hw]⟩, trivial⟩ rfl
          · show bestV (nearX ((List.range n).map sp) lo hi len) = _
            rw [hbv, hw]
          · show offV (ofL ((List.range n).map sp) lo hi (bestV (nearX ((List.range n).map sp) lo hi len)).toNat) len = _
            rw [hbv, hw]
            exact h3.symm
  · cases hk
theorem g26 {l : List (Nat × Ct)} (g : Good P T l) : Good P T ((26, c25) :: l) := g.add (k26 g) (stCt_mono _) (body_of Try.func26 (c := code Try.f26) rfl (by decide))

theorem gapB_doc (a b c : Int) : ((((isLenB a && isLenB b) && decide (a ≤ b)) && decide (b - a ≤ 60)) && isLenB c) = gapB a b c := by
  unfold gapB
  rw [show decide (a ≤ b) = decide (0 ≤ b - a) by rw [decide_eq_decide]; omega]
  simp only [Bool.and_assoc]
theorem k28 {l : List (Nat × Ct)} (g0 : Good P T l) : COk P 28 c27 := by
  have g := g60 (g59 (g58 (g44 g0)))
  refine cok (C := tabC _) g.ok Try.func28 (c := code Try.f28) rfl fun fr args H out h hp => stWalk h hp fun n sp lo hi r p v Rv Rp hk hp hR => ?_
  split at hk
  · rename_i a b c
    cases hk
    have hp : ((List.range n).map sp).length ≤ 40 := hp
    refine ⟨Nat.le_of_ble_eq_true rfl, fun G hG => ?_⟩
    refine drawn_ok (g.ok _ _ _) fol [0,0,2,6,14,30,62,126,254,254,1022,2046,4094,8190,8190,32766,65534,131070,262142,524286,1048574,2097150,4194303,8388607] [] 24 (by kernel_rfl) ?_
    refine Chk.mk ?_ ?_
    · refine fun h => ?_
      have h : ((isLenB a && isLenB b) && decide (a ≤ b)) = true := h
      simp only [isLenB, Bool.and_eq_true, decide_eq_true_eq] at h
      exact (⟨by omega, by omega⟩ : InK .i64 (b - a))
    · refine Chk.mk ⟨spans_sp _ _, rfl, trivial⟩ ?_
      have hgd := gapB_doc a b c
      generalize hE : errV ((List.range n).map sp) lo hi (gapB a b c) = E at hR
      refine Br.mk (fun h => ?_) (fun h => ?_)
      · have h : (!decide (errV ((List.range n).map sp) lo hi ((((isLenB a && isLenB b) && decide (a ≤ b)) && decide (b - a ≤ 60)) && isLenB c) = 0)) = true := h
        rw [hgd, hE] at h
        have h : ¬ E = 0 := by simpa using h
        have hw : gapW ((List.range n).map sp) lo hi a b c = (0, E) := by rw [gapW, hE, if_neg h]
        refine hR _ _ ⟨⟨rfl, by rw [hw]⟩, ⟨rfl, ?_⟩, trivial⟩ rfl
        show errV ((List.range n).map sp) lo hi ((((isLenB a && isLenB b) && decide (a ≤ b)) && decide (b - a ≤ 60)) && isLenB c) = _
        rw [hgd, hw]; exact hE
      · have h : (!decide (errV ((List.range n).map sp) lo hi ((((isLenB a && isLenB b) && decide (a ≤ b)) && decide (b - a ≤ 60)) && isLenB c) = 0)) = false := h
        rw [hgd, hE] at h
        have h : E = 0 := by simpa using h
        obtain ⟨q1, q2⟩ := errV_zero (hE.trans h)
        have q2 : (0 ≤ a ∧ a ≤ 5000) ∧ (0 ≤ b ∧ b ≤ 5000) ∧ (0 ≤ b - a ∧ b - a ≤ 60) ∧ (0 ≤ c ∧ c ≤ 5000) := by
          simp only [gapB, isLenB, Bool.and_eq_true, decide_eq_true_eq] at q2; omega
        refine loop_ok (g.ok _ _ _) (fun x : {k : Nat // a + (k : Int) ≤ b + 1 ∧ gapS ((List.range n).map sp) lo hi c (b - a + 1).toNat a = gapS ((List.range n).map sp) lo hi c (b - a + 1 - (k : Int)).toNat (a + (k : Int))} => ⟨[(2, ⟨[], .si .i64 b⟩), (3, ⟨[], .si .i64 c⟩), (4, ⟨[], .sp 1 0⟩), (11, ⟨[], .si .i64 (a + (x.1 : Int))⟩)], [],
          [(0, .ro 2 n fun i => spanC (sp i)), (1, .cells 26 [.sl 0, .si .i64 lo, .si .i64 hi])], 2, []⟩)
          (fun x => (b + 1 - (a + (x.1 : Int))).toNat) (fun _ j hj => hG j (by have : 2 ≤ j := hj; omega)) ⟨0, by omega, by simp⟩ ?_ ?_
        · have hs1 : a = a + ((0 : Nat) : Int) := by omega
          refine ⟨?_, ?_, rfl, rfl, rfl⟩
          · repeat' (first | exact trivial | exact hs1 | exact rfl | refine And.intro ?_ ?_)
          · refine ⟨⟨rfl, fun i hi => rfl, rfl⟩, ⟨⟨rfl, rfl, ⟨rfl, rfl⟩, ⟨rfl, rfl⟩, trivial⟩, rfl, rfl⟩, trivial⟩
        · rintro ⟨k, hk1, hk2⟩
          refine Br.mk (fun h => ?_) (fun h => ?_)
          · have h : a + (k : Int) ≤ b := of_decide_eq_true h
            obtain ⟨f, hf⟩ : ∃ f, (b - a + 1 - (k : Int)).toNat = f + 1 := ⟨(b - a - (k : Int)).toNat, by omega⟩
            have hf2 : (b - a + 1 - ((k + 1 : Nat) : Int)).toNat = f := by omega
            have hstep : gapS ((List.range n).map sp) lo hi c (b - a + 1 - (k : Int)).toNat (a + (k : Int)) = if badG ((List.range n).map sp) lo hi c (a + (k : Int)) = true then some (a + (k : Int)) else gapS ((List.range n).map sp) lo hi c f (a + (k : Int) + 1) := by
              rw [hf, gapS]
            have hgo : badG ((List.range n).map sp) lo hi c (a + (k : Int)) = false → a + ((k + 1 : Nat) : Int) ≤ b + 1 ∧ gapS ((List.range n).map sp) lo hi c (b - a + 1).toNat a = gapS ((List.range n).map sp) lo hi c (b - a + 1 - ((k + 1 : Nat) : Int)).toNat (a + ((k + 1 : Nat) : Int)) := by
              intro hb
              refine ⟨by omega, ?_⟩
              rw [hk2, hstep, if_neg (by rw [hb]; exact Bool.false_ne_true), hf2]
              congr 1
              omega
            have hret : badG ((List.range n).map sp) lo hi c (a + (k : Int)) = true → gapW ((List.range n).map sp) lo hi a b c = (a + (k : Int), 0) := by
              intro hb
              rw [gapW, hE, if_pos (by assumption), hk2, hstep, if_pos hb]
            refine Chk.mk ⟨spans_sp _ _, rfl, q1, by show 0 ≤ a + (k : Int); omega, by show a + (k : Int) ≤ _; omega⟩ ?_
            have hB : 0 ≤ bestV (nearX ((List.range n).map sp) lo hi (a + (k : Int))) ∧ badG ((List.range n).map sp) lo hi c (a + (k : Int)) = (decide (bestV (nearX ((List.range n).map sp) lo hi (a + (k : Int))) = 0) || decide (c < offV (ofL ((List.range n).map sp) lo hi (bestV (nearX ((List.range n).map sp) lo hi (a + (k : Int)))).toNat) (a + (k : Int)))) ∧
                (decide (bestV (nearX ((List.range n).map sp) lo hi (a + (k : Int))) = 0) = false → preOf ((List.range n).map sp) lo hi (bestV (nearX ((List.range n).map sp) lo hi (a + (k : Int))))) := by
              cases hX : nearX ((List.range n).map sp) lo hi (a + (k : Int)) with
              | none => exact ⟨Int.le_refl _, by rw [badG, hX]; rfl, fun h => absurd (show true = false from h) (by decide)⟩
              | some d =>
                obtain ⟨h1, h2, h3⟩ := nearX_lt hX
                refine ⟨Int.natCast_nonneg _, ?_, fun _ => preOf_set q1 h1 h2⟩
                rw [badG, hX]
                show decide (c < d.1) = (decide ((d.2 : Int) = 0) || decide (c < offV (ofL ((List.range n).map sp) lo hi d.2) (a + (k : Int))))
                rw [show decide ((d.2 : Int) = 0) = false from decide_eq_false (by omega), ← h3, Bool.false_or]
            obtain ⟨hB0, hB1, hB2⟩ := hB
            refine Chk.mk ?_ ?_
            · refine fun h => ?_
              exact ⟨spans_sp _ _, rfl, hB2 h, by show _ ≤ a + (k : Int); omega, by show a + (k : Int) ≤ _; omega⟩
            · refine Br.mk (fun hb => ?_) (fun hb => ?_)
              · have hw := hret (hB1.trans hb)
                exact hR _ _ ⟨⟨rfl, by rw [hw]⟩, ⟨rfl, by rw [hw]⟩, trivial⟩ rfl
              · have hgo := hgo (hB1.trans hb)
                refine Chk.mk (show InK .i64 (a + (k : Int) + 1) from ⟨by omega, by omega⟩) ?_
                refine ⟨⟨k + 1, hgo⟩, ?_, (by show (b + 1 - (a + ((k + 1 : Nat) : Int))).toNat < (b + 1 - (a + (k : Int))).toNat; omega)⟩
                have hs1 : a + (k : Int) + 1 = a + ((k + 1 : Nat) : Int) := by omega
                refine ⟨?_, ?_, rfl, rfl, rfl⟩
                · repeat' (first | exact trivial | exact hs1 | exact rfl | refine And.intro ?_ ?_)
                · refine ⟨⟨rfl, fun i hi => rfl, rfl⟩, ⟨⟨rfl, rfl, ⟨rfl, rfl⟩, ⟨rfl, rfl⟩, trivial⟩, rfl, rfl⟩, trivial⟩
          · have h : ¬ a + (k : Int) ≤ b := of_decide_eq_false h
            have hf : (b - a + 1 - (k : Int)).toNat = 0 := by omega
            have hw : gapW ((List.range n).map sp) lo hi a b c = (0, 4) := by
              rw [gapW, hE, if_pos (by assumption), hk2, hf, gapS]
            exact hR _ _ ⟨⟨rfl, by rw [hw]⟩, ⟨rfl, by rw [hw]⟩, trivial⟩ rfl
  · cases hk
theorem g28 {l : List (Nat × Ct)} (g : Good P T l) : Good P T ((28, c27) :: l) := g.add (k28 g) (stCt_mono _) (body_of Try.func28 (c := code Try.f28) rfl (by decide))
end Go.X.S
end

section
set_option linter.unusedVariables false
set_option linter.unusedSimpArgs false
set_option linter.unusedSectionVars false
/- Stack: the document's sure. -/
set_option linter.unusedVariables false
set_option linter.unusedSimpArgs false
set_option linter.unusedSectionVars false
set_option maxRecDepth 10000
set_option maxHeartbeats 1000000
namespace Go.X.S
open Go Go.Proofs Go.X

def surI (L : List Span) (lo hi : Int) (w : Span) (s : Nat) : List Nat := (List.range s).filter fun x => decide (0 < x) && qIn L lo hi w x
theorem surI_succ (L : List Span) (lo hi : Int) (w : Span) {s : Nat} (h : 0 < s) : surI L lo hi w (s + 1) = if qIn L lo hi w s = true then surI L lo hi w s ++ [s] else surI L lo hi w s := by
  simp only [surI, List.range_succ, List.filter_append, List.filter_cons, List.filter_nil, decide_eq_true h, Bool.true_and]
  split <;> simp
theorem surI_len (L : List Span) (lo hi : Int) (w : Span) (s : Nat) : (surI L lo hi w s).length ≤ s := by
  have := List.length_filter_le (fun x => decide (0 < x) && qIn L lo hi w x) (List.range s)
  simpa [surI] using this
theorem surI_mem {L : List Span} {lo hi : Int} {w : Span} {s x : Nat} (h : x ∈ surI L lo hi w s) : 0 < x ∧ x < s := by
  have := List.mem_filter.1 h
  simp only [Bool.and_eq_true, decide_eq_true_eq] at this
  exact ⟨this.2.1, List.mem_range.1 this.1⟩
theorem right_in (L : List Span) (lo hi : Int) (w : Span) (x : Nat) : decide (rightV (ofL L lo hi x) w = 2) = qIn L lo hi w x := by
  have hq : qIn L lo hi w x = (decide (w.1 ≤ (ofL L lo hi x).1) && decide ((ofL L lo hi x).2 ≤ w.2)) := rfl
  rw [hq]
  unfold rightV
  by_cases h : w.1 ≤ (ofL L lo hi x).1 ∧ (ofL L lo hi x).2 ≤ w.2
  · rw [if_pos h]; simp [h.1, h.2]
  · rw [if_neg h]
    have : ¬ ((if (ofL L lo hi x).2 < w.1 ∨ w.2 < (ofL L lo hi x).1 then (0 : Int) else 1) = 2) := by split <;> omega
    rw [decide_eq_false this]
    symm
    rw [Bool.and_eq_false_iff, decide_eq_false_iff_not, decide_eq_false_iff_not]
    omega
theorem right_me (L : List Span) (lo hi : Int) (w : Span) (x : Nat) (hle : (ofL L lo hi x).1 ≤ (ofL L lo hi x).2) (hw : w.1 ≤ w.2) : (!decide (rightV (ofL L lo hi x) w = 0)) = qMe L lo hi w x := by
  unfold rightV qMe meetsB
  by_cases h : w.1 ≤ (ofL L lo hi x).1 ∧ (ofL L lo hi x).2 ≤ w.2
  · rw [if_pos h]
    have h1 : w.1 ≤ (ofL L lo hi x).2 := by omega
    have h2 : (ofL L lo hi x).1 ≤ w.2 := by omega
    simp [h1, h2]
  · rw [if_neg h]
    by_cases h2 : (ofL L lo hi x).2 < w.1 ∨ w.2 < (ofL L lo hi x).1
    · rw [if_pos h2]
      simp
      omega
    · rw [if_neg h2]
      simp
      omega
def c52 : Ct := fun fr args H =>
  match args with
  | [.agg [.sl id, .si .i64 lo, .si .i64 hi], .agg [.si .i64 a, .si .i64 b]] => (match sliceOf 2 H id with
    | some (n, get) => some ⟨some (Spans n get ∧ setOk (spanL n get) lo hi = true), none, .sl fr,
        [(fr, .ro 1 (surI (spanL n get) lo hi (a, b) (2 ^ n)).length fun j => [.si .i64 ((surI (spanL n get) lo hi (a, b) (2 ^ n)).getD j 0 : Nat)])]⟩
    | none => none)
  | _ => none
theorem c52_mono : CtMono c52 := by
  intro fr args H H' out hH h
  unfold c52 at h ⊢
  split at h
  · split at h
    · rename_i e
      simp only [sliceOf_mono hH e]
      exact h
    · cases h
  · cases h
theorem k52 {l : List (Nat × Ct)} (g0 : Good P T l) : COk P 52 c52 := by
  have g := g49 (g51 g0)
  refine cok (C := tabC _) g.ok Try.func52 (c := code Try.f52) rfl fun fr args H out h hp => ?_
  unfold c52 at h
  split at h
  · rename_i id lo hi a b
    split at h
    · rename_i n get e
      cases h
      obtain ⟨hs, hset⟩ : Spans n get ∧ setOk (spanL n get) lo hi = true := hp
      have hh : Hand H [(id, .ro 2 n fun i => spanC (spanAt get i))] := hand_one e (fun i => rfl) (fun i hi => (hs i hi).symm)
      refine ⟨[(id, .ro 2 n fun i => spanC (spanAt get i))], [.agg [.sl 0, .si .i64 lo, .si .i64 hi], .agg [.si .i64 a, .si .i64 b]], [(0, .ro 2 n fun i => spanC (spanAt get i))], 1, [3], rfl, rfl, Nat.le_of_ble_eq_true rfl, hh, rfl, rfl, fun G hG => ?_⟩
      have hsl : spanL n get = (List.range n).map (spanAt get) := rfl
      rw [hsl] at hset ⊢
      generalize spanAt get = sp at hset ⊢
      have h8 : n ≤ 8 := by have := (okSet_of hset).1; simpa using this
      have h256 := pow_le8 h8
      have hlen : ((List.range n).map sp).length = n := by simp
      have hpw : ((2 ^ n : Nat) : Int) = (2 : Int) ^ n := by push_cast; rfl
      refine nil_slot 5 3 1 (fun j => [.si .i64 ((surI ((List.range n).map sp) lo hi (a, b) 1).getD j 0 : Nat)]) rfl ?_
      refine loop_okR (g.ok _ _ _) 1 (fun x : {s : Nat // 1 ≤ s ∧ s ≤ 2 ^ n} => ⟨[(2, ⟨[], .sp 1 0⟩), (3, ⟨[], .sp 2 0⟩), (5, ⟨[], .sl 3⟩), (6, ⟨[], .si .i64 (x.1 : Int)⟩)], [],
        [(3, .vec 3 1 (surI ((List.range n).map sp) lo hi (a, b) x.1).length (fun j => [.si .i64 ((surI ((List.range n).map sp) lo hi (a, b) x.1).getD j 0 : Nat)])), (0, .ro 2 n fun i => spanC (sp i)), (1, .cells 26 [.sl 0, .si .i64 lo, .si .i64 hi]), (2, .cells 24 [.si .i64 a, .si .i64 b])], 4, []⟩) (fun x => 2 ^ n - x.1) hG ⟨1, Nat.le_refl _, Nat.one_le_two_pow⟩ (fun j => j) ?_ ?_
      · refine ⟨?_, ?_, rfl, rfl, rfl, rfl, trivial⟩
        · repeat' (first | exact trivial | exact rfl | refine And.intro ?_ ?_)
        · refine ⟨⟨⟨rfl, rfl, rfl, fun i hi => ⟨rfl, rfl⟩⟩, rfl⟩, ⟨⟨rfl, rfl, fun i hi => ⟨rfl, rfl⟩⟩, rfl⟩, ⟨⟨rfl, ⟨rfl, ⟨rfl, rfl⟩, ⟨rfl, rfl⟩, trivial⟩, rfl⟩, rfl⟩, ⟨⟨rfl, ⟨⟨rfl, rfl⟩, ⟨rfl, rfl⟩, trivial⟩, rfl⟩, rfl⟩, trivial⟩
      · rintro ⟨s, hs1, hs2⟩
        refine Chk.mk (show (n : Int) ≤ 62 by omega) ?_
        refine Br.mk (fun h => ?_) (fun h => ?_)
        · have h : (s : Int) < (2 : Int) ^ n := of_decide_eq_true h
          have hs : s < 2 ^ n := by omega
          have hin : InK .i64 ((s : Int) + 1) := ⟨by omega, by omega⟩
          have hsuc := surI_succ ((List.range n).map sp) lo hi (a, b) (s := s) hs1
          have hsl := surI_len ((List.range n).map sp) lo hi (a, b) s
          have hpre := preOf_set hset hs1 (by rw [hlen]; exact hs)
          refine Chk.mk ⟨spans_sp _ _, rfl, hpre⟩ ?_
          have hri := right_in ((List.range n).map sp) lo hi (a, b) s
          refine Br.mk (fun hb => ?_) (fun hb => ?_)
          · have hb : decide (rightV (ofL ((List.range n).map sp) lo hi s) (a, b) = 2) = true := hb
            rw [hri] at hb
            rw [if_pos hb] at hsuc
            refine fb_append (Te := 0) 3 4 (surI ((List.range n).map sp) lo hi (a, b) s).length 1 _ _ (fun j => [.si .i64 ((surI ((List.range n).map sp) lo hi (a, b) (s + 1)).getD j 0 : Nat)]) (g.ok _ _ _) cont_std rfl rfl rfl rfl rfl rfl rfl rfl rfl rfl rfl rfl (by decide) (by decide) rfl rfl rfl rfl ?_ ?_ ?_
            · omega
            · intro j hj
              show [SV.si .i64 _] = _
              rw [hsuc, List.getD_eq_getElem?_getD, List.getElem?_append]
              split
              · rw [List.getD_eq_getElem?_getD]
              · rename_i h'
                have : j - (surI ((List.range n).map sp) lo hi (a, b) s).length = 0 := by omega
                rw [this]
                rfl
            · refine Chk.mk hin ⟨⟨s + 1, by omega, by omega⟩, (fun j => if j = 3 then 5 else j), ?_, (by show 2 ^ n - (s + 1) < 2 ^ n - s; omega)⟩
              refine ⟨?_, ?_, rfl, rfl, rfl, rfl, trivial⟩
              · repeat' (first | exact trivial | exact rfl | refine And.intro ?_ ?_)
              · refine ⟨⟨⟨rfl, rfl, ?_, fun i hi => ⟨rfl, rfl⟩⟩, rfl⟩, ⟨⟨rfl, rfl, fun i hi => ⟨rfl, rfl⟩⟩, rfl⟩, ⟨⟨rfl, ⟨rfl, ⟨rfl, rfl⟩, ⟨rfl, rfl⟩, trivial⟩, rfl⟩, rfl⟩, ⟨⟨rfl, ⟨⟨rfl, rfl⟩, ⟨rfl, rfl⟩, trivial⟩, rfl⟩, rfl⟩, trivial⟩
                show (surI ((List.range n).map sp) lo hi (a, b) s).length + 1 = (surI ((List.range n).map sp) lo hi (a, b) (s + 1)).length
                rw [hsuc, List.length_append]; rfl
          · have hb : decide (rightV (ofL ((List.range n).map sp) lo hi s) (a, b) = 2) = false := hb
            rw [hri] at hb
            rw [if_neg (by rw [hb]; exact Bool.false_ne_true)] at hsuc
            refine Chk.mk hin ⟨⟨s + 1, by omega, by omega⟩, (fun j => j), ?_, (by show 2 ^ n - (s + 1) < 2 ^ n - s; omega)⟩
            refine ⟨?_, ?_, rfl, rfl, rfl, rfl, trivial⟩
            · repeat' (first | exact trivial | exact rfl | refine And.intro ?_ ?_)
            · refine ⟨⟨⟨rfl, rfl, ?_, fun i hj => ⟨?_, rfl⟩⟩, rfl⟩, ⟨⟨rfl, rfl, fun i hi => ⟨rfl, rfl⟩⟩, rfl⟩, ⟨⟨rfl, ⟨rfl, ⟨rfl, rfl⟩, ⟨rfl, rfl⟩, trivial⟩, rfl⟩, rfl⟩, ⟨⟨rfl, ⟨⟨rfl, rfl⟩, ⟨rfl, rfl⟩, trivial⟩, rfl⟩, rfl⟩, trivial⟩
              · show (surI ((List.range n).map sp) lo hi (a, b) s).length = (surI ((List.range n).map sp) lo hi (a, b) (s + 1)).length
                rw [hsuc]
              · show [SV.si .i64 _] = renL _ [.si .i64 ((surI ((List.range n).map sp) lo hi (a, b) (s + 1)).getD i 0 : Nat)]
                rw [hsuc]; rfl
        · have h : ¬ (s : Int) < (2 : Int) ^ n := of_decide_eq_false h
          have hse : s = 2 ^ n := by omega
          subst hse
          exact ⟨.inl rfl, ⟨rfl, rfl, ⟨rfl, ⟨rfl, rfl, fun i hi => ⟨rfl, rfl⟩⟩, trivial⟩, ⟨trivial, trivial⟩, rfl, rfl⟩⟩
    · cases h
  · cases h
theorem g52 {l : List (Nat × Ct)} (g : Good P T l) : Good P T ((52, c52) :: l) := g.add (k52 g) c52_mono (body_of Try.func52 (c := code Try.f52) rfl (by decide))
end Go.X.S
end

section
set_option linter.unusedVariables false
set_option linter.unusedSimpArgs false
set_option linter.unusedSectionVars false
/- Stack: the document's Fewest. -/
set_option linter.unusedVariables false
set_option linter.unusedSimpArgs false
set_option linter.unusedSectionVars false
set_option maxRecDepth 10000
set_option maxHeartbeats 1000000
namespace Go.X.S
open Go Go.Proofs Go.X

def bI (l : List Nat) : Nat → Nat
  | 0 => l.getD 0 0
  | i + 1 => if sizeN (l.getD i 0) < sizeN (bI l i) then l.getD i 0 else bI l i
theorem surI_sorted (L : List Span) (lo hi : Int) (w : Span) (s : Nat) {i j : Nat} (h : i < j) (hj : j < (surI L lo hi w s).length) : (surI L lo hi w s).getD i 0 < (surI L lo hi w s).getD j 0 := by
  have hp : (surI L lo hi w s).Pairwise (· < ·) := List.Pairwise.filter _ List.pairwise_lt_range
  rw [List.getD_eq_getElem?_getD, List.getElem?_eq_getElem (by omega : i < (surI L lo hi w s).length), List.getD_eq_getElem?_getD, List.getElem?_eq_getElem hj]
  exact List.pairwise_iff_getElem.1 hp i j _ _ h
theorem take_snoc {l : List Nat} {k : Nat} (h : k < l.length) : l.take (k + 1) = l.take k ++ [l.getD k 0] := by
  rw [List.take_add_one, List.getD_eq_getElem?_getD, List.getElem?_eq_getElem h]
  rfl
theorem least_take (l : List Nat) (hs : ∀ i j, i < j → j < l.length → l.getD i 0 < l.getD j 0) : ∀ k, k < l.length → ∃ f, J ((l.take (k + 1)).map one) = some f ∧ f.least = bI l (k + 1) ∧ f.least ≤ l.getD k 0
  | 0, h => by
    refine ⟨one (l.getD 0 0), by rw [take_snoc h]; rfl, ?_, Nat.le_refl _⟩
    simp [bI, one]
  | k + 1, h => by
    obtain ⟨f, h1, h2, h3⟩ := least_take l hs k (by omega)
    have hlt := hs k (k + 1) (by omega) h
    refine ⟨join f (one (l.getD (k + 1) 0)), ?_, ?_, ?_⟩
    · rw [take_snoc h, List.map_append, J_append, h1]; rfl
    · rw [bI, ← h2]
      show (if lessN (l.getD (k + 1) 0) f.least = true then l.getD (k + 1) 0 else f.least) = _
      by_cases hc : sizeN (l.getD (k + 1) 0) < sizeN f.least
      · rw [if_pos hc, if_pos (by rw [lessN_iff]; omega)]
      · rw [if_neg hc, if_neg (by rw [lessN_iff]; omega)]
    · show (if lessN (l.getD (k + 1) 0) f.least = true then l.getD (k + 1) 0 else f.least) ≤ _
      split <;> omega
theorem sur_found {L : List Span} {lo hi : Int} {w : Span} : J ((surI L lo hi w (2 ^ L.length)).map one) = foundX L.length (qIn L lo hi w) := rfl
theorem getD_mem {l : List Nat} {k : Nat} (h : k < l.length) : l.getD k 0 ∈ l := by
  rw [List.getD_eq_getElem?_getD, List.getElem?_eq_getElem h]
  exact List.getElem_mem h
theorem bI_mem (l : List Nat) (h : 0 < l.length) : ∀ k, k ≤ l.length → bI l k ∈ l
  | 0, _ => getD_mem h
  | k + 1, hk => by
    rw [bI]
    split
    · exact getD_mem (by omega)
    · exact bI_mem l h k (by omega)
theorem k22 {l : List (Nat × Ct)} (g0 : Good P T l) : COk P 22 c21 := by
  have g := g36 (g52 (g48 (g44 g0)))
  refine cok (C := tabC _) g.ok Try.func22 (c := code Try.f22) rfl fun fr args H out h hp => stWalk h hp fun n sp lo hi r p v Rv Rp hk hp hR => ?_
  split at hk
  · rename_i a b
    cases hk
    have hp : ((List.range n).map sp).length ≤ 40 := hp
    refine ⟨Nat.le_of_ble_eq_true rfl, fun G hG => ?_⟩
    generalize hE : errV ((List.range n).map sp) lo hi (isWantB a b) = E at hR
    refine drawn_ok (g.ok _ _ _) fol [0,0,2,7,15] [] 5 (by kernel_rfl) ?_
    refine Chk.mk ⟨spans_sp _ _, rfl, trivial⟩ ?_
    refine Br.mk (fun h => ?_) (fun h => ?_)
    · have h : (!decide (errV ((List.range n).map sp) lo hi (isWantB a b) = 0)) = true := h
      rw [hE] at h
      have h : ¬ E = 0 := by simpa using h
      have hw : fewW ((List.range n).map sp) lo hi a b = (0, E) := by rw [fewW, hE, if_neg h]
      exact hR _ _ ⟨⟨rfl, by rw [hw]⟩, ⟨rfl, by rw [hw]; exact hE⟩, trivial⟩ rfl
    · have h : (!decide (errV ((List.range n).map sp) lo hi (isWantB a b) = 0)) = false := h
      rw [hE] at h
      have h : E = 0 := by simpa using h
      obtain ⟨q1, q2⟩ := errV_zero (hE.trans h)
      have hlen : ((List.range n).map sp).length = n := by simp
      have h8 : n ≤ 8 := by have := (okSet_of q1).1; simpa using this
      have h256 := pow_le8 h8
      refine Chk.mk ⟨spans_sp _ _, q1⟩ ?_
      have hfew : fewW ((List.range n).map sp) lo hi a b = (match J ((surI ((List.range n).map sp) lo hi (a, b) (2 ^ n)).map one) with | some f => ((f.least : Int), 0) | none => (0, 4)) := by
        rw [fewW, hE, if_pos h, ← sur_found, hlen] <;> rfl
      have hsort := fun i j => @surI_sorted ((List.range n).map sp) lo hi (a, b) (2 ^ n) i j
      have hmem := fun x => @surI_mem ((List.range n).map sp) lo hi (a, b) (2 ^ n) x
      have hll := surI_len ((List.range n).map sp) lo hi (a, b) (2 ^ n)
      have hlist : surI (spanL n fun i => spanC (sp i)) lo hi (a, b) (2 ^ n) = surI ((List.range n).map sp) lo hi (a, b) (2 ^ n) := rfl
      rw [hlist]
      generalize surI ((List.range n).map sp) lo hi (a, b) (2 ^ n) = l at hfew hsort hmem hll ⊢
      refine Br.mk (fun hb => ?_) (fun hb => ?_)
      · have hb : (l.length : Int) = 0 := of_decide_eq_true hb
        have hl0 : l = [] := List.length_eq_zero_iff.1 (by omega)
        subst hl0
        exact hR _ _ ⟨⟨rfl, by rw [hfew]; rfl⟩, ⟨rfl, by rw [hfew]; rfl⟩, trivial⟩ rfl
      · have hb : ¬ (l.length : Int) = 0 := of_decide_eq_false hb
        have hl0 : 0 < l.length := by omega
        have hbm := bI_mem l hl0
        refine Chk.mk (show (0 : Int) ≤ 0 ∧ (0 : Int) < (l.length : Int) by omega) ?_
        refine loop_ok (g.ok _ _ _) (fun x : {i : Nat // i ≤ l.length} => ⟨[(7, ⟨[], .sl 23⟩), (8, ⟨[], .si .i64 (bI l x.1 : Nat)⟩), (9, ⟨[], .si .i64 (x.1 : Int)⟩)], [],
          [(23, .ro 1 l.length fun j => [.si .i64 (l.getD j 0 : Nat)])], 27, []⟩) (fun x => l.length - x.1) (fun _ j hj => hG j (by have : 27 ≤ j := hj; omega)) ⟨0, Nat.zero_le _⟩ ?_ ?_
        · refine ⟨?_, ?_, rfl, rfl, rfl⟩
          · repeat' (first | exact trivial | exact rfl | refine And.intro ?_ ?_)
          · exact ⟨⟨rfl, fun i hi => rfl, rfl⟩, trivial⟩
        · rintro ⟨i, hi⟩
          refine Br.mk (fun h1 => ?_) (fun h1 => ?_)
          · have h1 : (i : Int) < (l.length : Int) := of_decide_eq_true h1
            have hi' : i < l.length := by omega
            have m1 := hmem _ (getD_mem hi')
            have m2 := hmem _ (hbm i hi)
            have hin : InK .i64 ((i : Int) + 1) := ⟨by omega, by omega⟩
            have hix : (0 : Int) ≤ (i : Int) ∧ (i : Int) < (l.length : Int) := by omega
            refine Chk.mk hix ?_
            refine Chk.mk (show ((l.getD i 0 : Nat) : Int) < 4611686018427387904 by omega) ?_
            refine Chk.mk (show ((bI l i : Nat) : Int) < 4611686018427387904 by omega) ?_
            refine Br.mk (fun h2 => ?_) (fun h2 => ?_)
            · have h2 : (sizeN (l.getD i 0) : Int) < sizeN (bI l i) := of_decide_eq_true h2
              have hb1 : bI l (i + 1) = l.getD i 0 := by rw [bI, if_pos (by omega)]
              have hs1 : ((l.getD i 0 : Nat) : Int) = ((bI l (i + 1) : Nat) : Int) := by rw [hb1]
              refine Chk.mk hix ?_
              refine Chk.mk hin ⟨⟨i + 1, hi'⟩, ?_, (by show l.length - (i + 1) < l.length - i; omega)⟩
              refine ⟨?_, ?_, rfl, rfl, rfl⟩
              · repeat' (first | exact trivial | exact hs1 | exact rfl | refine And.intro ?_ ?_)
              · exact ⟨⟨rfl, fun i hi => rfl, rfl⟩, trivial⟩
            · have h2 : ¬ (sizeN (l.getD i 0) : Int) < sizeN (bI l i) := of_decide_eq_false h2
              have hb1 : bI l (i + 1) = bI l i := by rw [bI, if_neg (by omega)]
              have hs1 : ((bI l i : Nat) : Int) = ((bI l (i + 1) : Nat) : Int) := by rw [hb1]
              refine Chk.mk hin ⟨⟨i + 1, hi'⟩, ?_, (by show l.length - (i + 1) < l.length - i; omega)⟩
              refine ⟨?_, ?_, rfl, rfl, rfl⟩
              · repeat' (first | exact trivial | exact hs1 | exact rfl | refine And.intro ?_ ?_)
              · exact ⟨⟨rfl, fun i hi => rfl, rfl⟩, trivial⟩
          · have h1 : ¬ (i : Int) < (l.length : Int) := of_decide_eq_false h1
            have hie : i = l.length := by omega
            obtain ⟨f, f1, f2, _⟩ := least_take l hsort (l.length - 1) (by omega)
            rw [show l.length - 1 + 1 = l.length by omega] at f1 f2
            rw [List.take_length] at f1
            rw [f1] at hfew
            subst hie
            refine hR _ _ ⟨⟨rfl, ?_⟩, ⟨rfl, by rw [hfew]⟩, trivial⟩ rfl
            show ((bI l l.length : Nat) : Int) = _
            rw [hfew, ← f2]
  · cases hk
theorem g22 {l : List (Nat × Ct)} (g : Good P T l) : Good P T ((22, c21) :: l) := g.add (k22 g) (stCt_mono _) (body_of Try.func22 (c := code Try.f22) rfl (by decide))
end Go.X.S
end

section
set_option linter.unusedVariables false
set_option linter.unusedSimpArgs false
set_option linter.unusedSectionVars false
/- Stack: the document's Count. -/
set_option linter.unusedVariables false
set_option linter.unusedSimpArgs false
set_option linter.unusedSectionVars false
set_option maxRecDepth 10000
set_option maxHeartbeats 1000000
namespace Go.X.S
open Go Go.Proofs Go.X

def manyO (o : Option Fd) : Nat := (o.getD zeroF).many
theorem manyO_fold : ∀ (l : List Nat) (o : Option Fd), manyO ((l.map one).foldl jo o) = manyO o + l.length
  | [], o => rfl
  | x :: r, o => by
    simp only [List.map_cons, List.foldl_cons, List.length_cons]
    rw [manyO_fold r]
    have : manyO (jo o (one x)) = manyO o + 1 := by
      cases o with
      | none => rfl
      | some f => rfl
    omega
def meI (L : List Span) (lo hi : Int) (w : Span) (s : Nat) : List Nat := (List.range s).filter fun x => decide (0 < x) && qMe L lo hi w x
theorem meI_succ (L : List Span) (lo hi : Int) (w : Span) {s : Nat} (h : 0 < s) : (meI L lo hi w (s + 1)).length = if qMe L lo hi w s = true then (meI L lo hi w s).length + 1 else (meI L lo hi w s).length := by
  simp only [meI, List.range_succ, List.filter_append, List.filter_cons, List.filter_nil, decide_eq_true h, Bool.true_and]
  split <;> simp
theorem meI_len (L : List Span) (lo hi : Int) (w : Span) (s : Nat) : (meI L lo hi w s).length ≤ s := by
  have := List.length_filter_le (fun x => decide (0 < x) && qMe L lo hi w x) (List.range s)
  simpa [meI] using this
theorem cnt_sur (L : List Span) (lo hi : Int) (w : Span) : ((foundX L.length (qIn L lo hi w)).getD zeroF).many = (surI L lo hi w (2 ^ L.length)).length := by
  have := manyO_fold (surI L lo hi w (2 ^ L.length)) none
  simp only [manyO, Option.getD_none, zeroF, Nat.zero_add] at this
  exact this
theorem cnt_me (L : List Span) (lo hi : Int) (w : Span) : ((foundX L.length (qMe L lo hi w)).getD zeroF).many = (meI L lo hi w (2 ^ L.length)).length := by
  have := manyO_fold (meI L lo hi w (2 ^ L.length)) none
  simp only [manyO, Option.getD_none, zeroF, Nat.zero_add] at this
  exact this
theorem sumB_mono {f g : Nat → Int} {x : Nat} : ∀ n, (∀ i, i < n → f i ≤ g i) → sumB f x n ≤ sumB g x n
  | 0, _ => Int.le_refl _
  | n + 1, h => by
    have h1 := sumB_mono (f := f) (g := g) (x := x) n (fun i hi => h i (by omega))
    have h2 := h n (by omega)
    simp only [sumB]
    split <;> omega
theorem ofL_le {L : List Span} {lo hi : Int} (h : setOk L lo hi = true) {x : Nat} (h0 : 0 < x) : (ofL L lo hi x).1 ≤ (ofL L lo hi x).2 := by
  obtain ⟨a1, a2, a3, a4, a5⟩ := setOk_len h
  have hs := sizeN_ge h0
  have h1 : ((sizeN x : Int) - 1) * lo ≤ ((sizeN x : Int) - 1) * hi := Int.mul_le_mul_of_nonneg_left a3 (by omega)
  have h2 : sumB (fun i => (L.getD i (0, 0)).1) x L.length ≤ sumB (fun i => (L.getD i (0, 0)).2) x L.length := by
    refine sumB_mono _ fun i hi => ?_
    have hm : L.getD i (0, 0) ∈ L := by
      rw [List.getD_eq_getElem?_getD, List.getElem?_eq_getElem hi]
      exact List.getElem_mem hi
    exact (a5 _ hm).2.1
  simp only [ofL, ofS]
  omega
theorem k20 {l : List (Nat × Ct)} (g0 : Good P T l) : COk P 20 c19 := by
  have g := g52 (g49 (g51 (g48 (g44 g0))))
  refine cok (C := tabC _) g.ok Try.func20 (c := code Try.f20) rfl fun fr args H out h hp => stWalk h hp fun n sp lo hi r p v Rv Rp hk hp hR => ?_
  split at hk
  · rename_i a b
    cases hk
    have hp : ((List.range n).map sp).length ≤ 40 := hp
    refine ⟨Nat.le_of_ble_eq_true rfl, fun G hG => ?_⟩
    generalize hE : errV ((List.range n).map sp) lo hi (isWantB a b) = E at hR
    refine drawn_ok (g.ok _ _ _) fol [0,0,2,7,15] [] 5 (by kernel_rfl) ?_
    refine Chk.mk ⟨spans_sp _ _, rfl, trivial⟩ ?_
    refine Br.mk (fun h => ?_) (fun h => ?_)
    · have h : (!decide (errV ((List.range n).map sp) lo hi (isWantB a b) = 0)) = true := h
      rw [hE] at h
      have h : ¬ E = 0 := by simpa using h
      have hw : cntW ((List.range n).map sp) lo hi a b = (0, 0, E) := by rw [cntW, hE, if_neg h]
      exact hR _ _ ⟨⟨rfl, by rw [hw]⟩, ⟨rfl, by rw [hw]⟩, ⟨rfl, by rw [hw]; exact hE⟩, trivial⟩ rfl
    · have h : (!decide (errV ((List.range n).map sp) lo hi (isWantB a b) = 0)) = false := h
      rw [hE] at h
      have h : E = 0 := by simpa using h
      obtain ⟨q1, q2⟩ := errV_zero (hE.trans h)
      have q2 : a ≤ b := by
        simp only [isWantB, Bool.and_eq_true, decide_eq_true_eq] at q2; omega
      have hlen : ((List.range n).map sp).length = n := by simp
      have h8 : n ≤ 8 := by have := (okSet_of q1).1; simpa using this
      have h256 := pow_le8 h8
      have hpw : ((2 ^ n : Nat) : Int) = (2 : Int) ^ n := by push_cast; rfl
      have hcnt : cntW ((List.range n).map sp) lo hi a b = (((surI ((List.range n).map sp) lo hi (a, b) (2 ^ n)).length : Int), ((meI ((List.range n).map sp) lo hi (a, b) (2 ^ n)).length : Int), 0) := by
        rw [cntW, hE, if_pos h, cnt_sur, cnt_me, hlen]
      refine loop_ok (g.ok _ _ _) (fun x : {s : Nat // 1 ≤ s ∧ s ≤ 2 ^ n} => ⟨[(2, ⟨[], .sp 1 0⟩), (3, ⟨[], .sp 2 0⟩), (8, ⟨[], .si .i64 ((meI ((List.range n).map sp) lo hi (a, b) x.1).length : Nat)⟩), (9, ⟨[], .si .i64 (x.1 : Int)⟩)], [],
        [(0, .ro 2 n fun i => spanC (sp i)), (1, .cells 26 [.sl 0, .si .i64 lo, .si .i64 hi]), (2, .cells 24 [.si .i64 a, .si .i64 b])], 3, []⟩) (fun x => 2 ^ n - x.1) (fun _ j hj => hG j (by have : 3 ≤ j := hj; omega)) ⟨1, Nat.le_refl _, Nat.one_le_two_pow⟩ ?_ ?_
      · refine ⟨?_, ?_, rfl, rfl, rfl⟩
        · repeat' (first | exact trivial | exact rfl | refine And.intro ?_ ?_)
        · exact ⟨⟨rfl, fun i hi => rfl, rfl⟩, ⟨⟨rfl, rfl, ⟨rfl, rfl⟩, ⟨rfl, rfl⟩, trivial⟩, rfl, rfl⟩, ⟨⟨rfl, ⟨rfl, rfl⟩, ⟨rfl, rfl⟩, trivial⟩, rfl, rfl⟩, trivial⟩
      · rintro ⟨s, hs1, hs2⟩
        refine Chk.mk (show (n : Int) ≤ 62 by omega) ?_
        refine Br.mk (fun h => ?_) (fun h => ?_)
        · have h : (s : Int) < (2 : Int) ^ n := of_decide_eq_true h
          have hs : s < 2 ^ n := by omega
          have hin : InK .i64 ((s : Int) + 1) := ⟨by omega, by omega⟩
          have hsuc := meI_succ ((List.range n).map sp) lo hi (a, b) (s := s) hs1
          have hsl := meI_len ((List.range n).map sp) lo hi (a, b) s
          have hpre := preOf_set q1 hs1 (by rw [hlen]; exact hs)
          have hin2 : InK .i64 (((meI ((List.range n).map sp) lo hi (a, b) s).length : Int) + 1) := ⟨by omega, by omega⟩
          refine Chk.mk ⟨spans_sp _ _, rfl, hpre⟩ ?_
          have hri := right_me ((List.range n).map sp) lo hi (a, b) s (ofL_le q1 hs1) q2
          refine Br.mk (fun hb => ?_) (fun hb => ?_)
          · have hb : (!decide (rightV (ofL ((List.range n).map sp) lo hi s) (a, b) = 0)) = true := hb
            rw [hri] at hb
            rw [if_pos hb] at hsuc
            have hs1 : ((meI ((List.range n).map sp) lo hi (a, b) s).length : Int) + 1 = ((meI ((List.range n).map sp) lo hi (a, b) (s + 1)).length : Int) := by rw [hsuc]; rfl
            refine Chk.mk hin2 ?_
            refine Chk.mk hin ⟨⟨s + 1, by omega, by omega⟩, ?_, (by show 2 ^ n - (s + 1) < 2 ^ n - s; omega)⟩
            refine ⟨?_, ?_, rfl, rfl, rfl⟩
            · repeat' (first | exact trivial | exact hs1 | exact rfl | refine And.intro ?_ ?_)
            · exact ⟨⟨rfl, fun i hi => rfl, rfl⟩, ⟨⟨rfl, rfl, ⟨rfl, rfl⟩, ⟨rfl, rfl⟩, trivial⟩, rfl, rfl⟩, ⟨⟨rfl, ⟨rfl, rfl⟩, ⟨rfl, rfl⟩, trivial⟩, rfl, rfl⟩, trivial⟩
          · have hb : (!decide (rightV (ofL ((List.range n).map sp) lo hi s) (a, b) = 0)) = false := hb
            rw [hri] at hb
            rw [if_neg (by rw [hb]; exact Bool.false_ne_true)] at hsuc
            have hs1 : ((meI ((List.range n).map sp) lo hi (a, b) s).length : Int) = ((meI ((List.range n).map sp) lo hi (a, b) (s + 1)).length : Int) := by rw [hsuc]
            refine Chk.mk hin ⟨⟨s + 1, by omega, by omega⟩, ?_, (by show 2 ^ n - (s + 1) < 2 ^ n - s; omega)⟩
            refine ⟨?_, ?_, rfl, rfl, rfl⟩
            · repeat' (first | exact trivial | exact hs1 | exact rfl | refine And.intro ?_ ?_)
            · exact ⟨⟨rfl, fun i hi => rfl, rfl⟩, ⟨⟨rfl, rfl, ⟨rfl, rfl⟩, ⟨rfl, rfl⟩, trivial⟩, rfl, rfl⟩, ⟨⟨rfl, ⟨rfl, rfl⟩, ⟨rfl, rfl⟩, trivial⟩, rfl, rfl⟩, trivial⟩
        · have h : ¬ (s : Int) < (2 : Int) ^ n := of_decide_eq_false h
          have hse : s = 2 ^ n := by omega
          subst hse
          refine Chk.mk ⟨spans_sp _ _, q1⟩ ?_
          exact hR _ _ ⟨⟨rfl, by rw [hcnt]; rfl⟩, ⟨rfl, by rw [hcnt]⟩, ⟨rfl, by rw [hcnt]⟩, trivial⟩ rfl
  · cases hk
theorem g20 {l : List (Nat × Ct)} (g : Good P T l) : Good P T ((20, c19) :: l) := g.add (k20 g) (stCt_mono _) (body_of Try.func20 (c := code Try.f20) rfl (by decide))
end Go.X.S
end

section
set_option linter.unusedVariables false
set_option linter.unusedSimpArgs false
set_option linter.unusedSectionVars false
/- Stack: which blocks all have, and some (plain law of Needed). -/
set_option linter.unusedVariables false
set_option linter.unusedSimpArgs false
set_option linter.unusedSectionVars false
namespace Go.X.S
open Go Go.Proofs Go.X

/-- How many of the first i have the block. -/
def cH (l : List Nat) (b : Nat) : Nat → Nat
  | 0 => 0
  | i + 1 => if (l.getD i 0).testBit b = true then cH l b i + 1 else cH l b i
def eI (l : List Nat) : Nat → Nat
  | 0 => 0
  | b + 1 => if cH l b l.length = l.length then eI l b + 2 ^ b else eI l b
def sI (l : List Nat) : Nat → Nat
  | 0 => 0
  | b + 1 => if 0 < cH l b l.length then sI l b + 2 ^ b else sI l b
theorem cH_le (l : List Nat) (b : Nat) : ∀ i, cH l b i ≤ i
  | 0 => Nat.le_refl _
  | i + 1 => by
    have := cH_le l b i
    rw [cH]; split <;> omega
theorem cH_all (l : List Nat) (b : Nat) : ∀ i, (cH l b i = i ↔ ∀ j, j < i → (l.getD j 0).testBit b = true)
  | 0 => ⟨fun _ j hj => absurd hj (Nat.not_lt_zero _), fun _ => rfl⟩
  | i + 1 => by
    have ih := cH_all l b i
    have hle := cH_le l b i
    rw [cH]
    split
    · rename_i h
      constructor
      · intro h2 j hj
        rcases Nat.lt_or_ge j i with h3 | h3
        · exact ih.1 (by omega) j h3
        · rw [show j = i by omega]; exact h
      · intro h2
        have := ih.2 fun j hj => h2 j (by omega)
        omega
    · rename_i h
      constructor
      · intro h2; omega
      · intro h2; exact absurd (h2 i (by omega)) h
theorem cH_any (l : List Nat) (b : Nat) : ∀ i, (0 < cH l b i ↔ ∃ j, j < i ∧ (l.getD j 0).testBit b = true)
  | 0 => ⟨fun h => absurd h (Nat.not_lt_zero _), fun ⟨j, hj, _⟩ => absurd hj (Nat.not_lt_zero _)⟩
  | i + 1 => by
    have ih := cH_any l b i
    rw [cH]
    split
    · rename_i h
      exact ⟨fun _ => ⟨i, by omega, h⟩, fun _ => by omega⟩
    · rename_i h
      rw [ih]
      constructor
      · rintro ⟨j, hj, h2⟩; exact ⟨j, by omega, h2⟩
      · rintro ⟨j, hj, h2⟩
        rcases Nat.lt_or_ge j i with h3 | h3
        · exact ⟨j, h3, h2⟩
        · rw [show j = i by omega] at h2; exact absurd h2 h
/-- A number by its bits. -/
def bitsN (p : Nat → Bool) : Nat → Nat
  | 0 => 0
  | b + 1 => if p b = true then bitsN p b + 2 ^ b else bitsN p b
theorem bitsN_ok (p : Nat → Bool) : ∀ n, bitsN p n < 2 ^ n ∧ ∀ b, (bitsN p n).testBit b = (decide (b < n) && p b)
  | 0 => ⟨by simp [bitsN], fun b => by simp [bitsN]⟩
  | n + 1 => by
    obtain ⟨h1, h2⟩ := bitsN_ok p n
    have hp : 2 ^ (n + 1) = 2 ^ n + 2 ^ n := by rw [Nat.pow_succ]; omega
    rw [bitsN]
    split
    · rename_i h
      refine ⟨by omega, fun b => ?_⟩
      rw [← or_add h1, Nat.testBit_or, h2, Nat.testBit_two_pow]
      rcases Nat.lt_trichotomy b n with h3 | h3 | h3
      · have e1 : b < n + 1 := by omega
        have e2 : ¬ n = b := by omega
        simp [h3, e1, e2]
      · subst h3; simp [h]
      · have e1 : ¬ b < n := by omega
        have e2 : ¬ b < n + 1 := by omega
        have e3 : ¬ n = b := by omega
        simp [e1, e2, e3]
    · rename_i h
      refine ⟨by omega, fun b => ?_⟩
      rw [h2]
      rcases Nat.lt_trichotomy b n with h3 | h3 | h3
      · have e1 : b < n + 1 := by omega
        simp [h3, e1]
      · subst h3; simp [h]
      · have e1 : ¬ b < n := by omega
        have e2 : ¬ b < n + 1 := by omega
        simp [e1, e2]
theorem eI_bits (l : List Nat) : ∀ n, eI l n = bitsN (fun b => decide (cH l b l.length = l.length)) n
  | 0 => rfl
  | n + 1 => by simp only [eI, bitsN, eI_bits l n, decide_eq_true_eq]
theorem sI_bits (l : List Nat) : ∀ n, sI l n = bitsN (fun b => decide (0 < cH l b l.length)) n
  | 0 => rfl
  | n + 1 => by simp only [sI, bitsN, sI_bits l n, decide_eq_true_eq]
theorem J_bits : ∀ (l : List Nat) (o : Option Fd) (f : Fd), (l.map one).foldl jo o = some f →
    (∀ b, f.each.testBit b = true ↔ (∀ g, o = some g → g.each.testBit b = true) ∧ ∀ x ∈ l, x.testBit b = true) ∧
    (∀ b, f.some.testBit b = true ↔ (∃ g, o = some g ∧ g.some.testBit b = true) ∨ ∃ x ∈ l, x.testBit b = true)
  | [], o, f, h => by
    simp only [List.map_nil, List.foldl_nil] at h
    subst h
    exact ⟨fun b => ⟨fun h => ⟨(fun g hg => by cases hg; exact h), (fun x hx => by cases hx)⟩, fun h => h.1 f rfl⟩,
      fun b => ⟨fun h => .inl ⟨f, rfl, h⟩, fun h => h.elim (fun ⟨g, hg, h⟩ => by cases hg; exact h) fun ⟨x, hx, _⟩ => by cases hx⟩⟩
  | x :: r, o, f, h => by
    simp only [List.map_cons, List.foldl_cons] at h
    obtain ⟨h1, h2⟩ := J_bits r (jo o (one x)) f h
    cases o with
    | none =>
      refine ⟨fun b => ?_, fun b => ?_⟩
      · rw [h1]
        constructor
        · rintro ⟨h3, h4⟩
          refine ⟨(fun g hg => by cases hg), fun y hy => ?_⟩
          rcases List.mem_cons.1 hy with rfl | hy
          · exact h3 _ rfl
          · exact h4 y hy
        · rintro ⟨_, h4⟩
          exact ⟨(fun g hg => by cases hg; exact h4 x List.mem_cons_self), fun y hy => h4 y (List.mem_cons_of_mem _ hy)⟩
      · rw [h2]
        constructor
        · rintro (⟨g, hg, h3⟩ | ⟨y, hy, h3⟩)
          · cases hg; exact .inr ⟨x, List.mem_cons_self, h3⟩
          · exact .inr ⟨y, List.mem_cons_of_mem _ hy, h3⟩
        · rintro (⟨g, hg, _⟩ | ⟨y, hy, h3⟩)
          · cases hg
          · rcases List.mem_cons.1 hy with rfl | hy
            · exact .inl ⟨_, rfl, h3⟩
            · exact .inr ⟨y, hy, h3⟩
    | some g =>
      have hje : ∀ b, (join g (one x)).each.testBit b = (g.each.testBit b && x.testBit b) := fun b => Nat.testBit_and _ _ _
      have hjs : ∀ b, (join g (one x)).some.testBit b = (g.some.testBit b || x.testBit b) := fun b => Nat.testBit_or _ _ _
      refine ⟨fun b => ?_, fun b => ?_⟩
      · rw [h1]
        constructor
        · rintro ⟨h3, h4⟩
          have h5 := h3 _ rfl
          rw [hje, Bool.and_eq_true] at h5
          refine ⟨(fun g' hg => by cases hg; exact h5.1), fun y hy => ?_⟩
          rcases List.mem_cons.1 hy with rfl | hy
          · exact h5.2
          · exact h4 y hy
        · rintro ⟨h3, h4⟩
          refine ⟨fun g' hg => ?_, fun y hy => h4 y (List.mem_cons_of_mem _ hy)⟩
          cases hg
          rw [hje, Bool.and_eq_true]
          exact ⟨h3 g rfl, h4 x List.mem_cons_self⟩
      · rw [h2]
        constructor
        · rintro (⟨g', hg, h3⟩ | ⟨y, hy, h3⟩)
          · cases hg
            rw [hjs, Bool.or_eq_true] at h3
            rcases h3 with h3 | h3
            · exact .inl ⟨g, rfl, h3⟩
            · exact .inr ⟨x, List.mem_cons_self, h3⟩
          · exact .inr ⟨y, List.mem_cons_of_mem _ hy, h3⟩
        · rintro (⟨g', hg, h3⟩ | ⟨y, hy, h3⟩)
          · cases hg
            exact .inl ⟨_, rfl, by rw [hjs, h3]; rfl⟩
          · rcases List.mem_cons.1 hy with rfl | hy
            · exact .inl ⟨_, rfl, by rw [hjs, h3, Bool.or_true]⟩
            · exact .inr ⟨y, hy, h3⟩
theorem mem_getD {l : List Nat} {x : Nat} : x ∈ l ↔ ∃ j, j < l.length ∧ l.getD j 0 = x := by
  constructor
  · intro h
    obtain ⟨j, hj, e⟩ := List.getElem_of_mem h
    exact ⟨j, hj, by rw [List.getD_eq_getElem?_getD, List.getElem?_eq_getElem hj, e]; rfl⟩
  · rintro ⟨j, hj, rfl⟩; exact getD_mem hj
theorem need_law {l : List Nat} {n : Nat} {f : Fd} (hl : 0 < l.length) (hx : ∀ x ∈ l, x < 2 ^ n) (hJ : J (l.map one) = some f) : eI l n = f.each ∧ sI l n = f.some := by
  obtain ⟨h1, h2⟩ := J_bits l none f hJ
  refine ⟨Nat.eq_of_testBit_eq fun b => ?_, Nat.eq_of_testBit_eq fun b => ?_⟩
  · rw [eI_bits, (bitsN_ok _ n).2, Bool.eq_iff_iff, h1]
    simp only [Bool.and_eq_true, decide_eq_true_eq, cH_all]
    constructor
    · rintro ⟨_, h⟩
      exact ⟨(fun g hg => by cases hg), fun x hx' => by obtain ⟨j, hj, rfl⟩ := mem_getD.1 hx'; exact h j hj⟩
    · rintro ⟨_, h⟩
      refine ⟨?_, fun j hj => h _ (getD_mem hj)⟩
      have hm := getD_mem hl
      have hb := h _ hm
      rcases Nat.lt_or_ge b n with h3 | h3
      · exact h3
      · rw [Nat.testBit_lt_two_pow (Nat.lt_of_lt_of_le (hx _ hm) (Nat.pow_le_pow_right (by decide) h3))] at hb
        cases hb
  · rw [sI_bits, (bitsN_ok _ n).2, Bool.eq_iff_iff, h2]
    simp only [Bool.and_eq_true, decide_eq_true_eq, cH_any]
    constructor
    · rintro ⟨_, j, hj, h⟩
      exact .inr ⟨_, getD_mem hj, h⟩
    · rintro (⟨g, hg, _⟩ | ⟨x, hm, h⟩)
      · cases hg
      · obtain ⟨j, hj, rfl⟩ := mem_getD.1 hm
        refine ⟨?_, j, hj, h⟩
        rcases Nat.lt_or_ge b n with h3 | h3
        · exact h3
        · rw [Nat.testBit_lt_two_pow (Nat.lt_of_lt_of_le (hx _ hm) (Nat.pow_le_pow_right (by decide) h3))] at h
          cases h
end Go.X.S
end

section
set_option linter.unusedVariables false
set_option linter.unusedSimpArgs false
set_option linter.unusedSectionVars false
/- Stack: the document's Needed. -/
set_option linter.unusedVariables false
set_option linter.unusedSimpArgs false
set_option linter.unusedSectionVars false
set_option maxRecDepth 10000
set_option maxHeartbeats 1000000
namespace Go.X.S
open Go Go.Proofs Go.X

theorem k24 {l : List (Nat × Ct)} (g0 : Good P T l) : COk P 24 c23 := by
  have g := g54 (g51 (g52 (g48 (g44 g0))))
  refine cok (C := tabC _) g.ok Try.func24 (c := code Try.f24) rfl fun fr args H out h hp => stWalk h hp fun n sp lo hi r p v Rv Rp hk hp hR => ?_
  split at hk
  · rename_i a b
    cases hk
    have hp : ((List.range n).map sp).length ≤ 40 := hp
    refine ⟨Nat.le_of_ble_eq_true rfl, fun G hG => ?_⟩
    generalize hE : errV ((List.range n).map sp) lo hi (isWantB a b) = E at hR
    refine drawn_ok (g.ok _ _ _) fol [0,0,2,7,15] [] 5 (by kernel_rfl) ?_
    refine Chk.mk ⟨spans_sp _ _, rfl, trivial⟩ ?_
    refine Br.mk (fun h => ?_) (fun h => ?_)
    · have h : (!decide (errV ((List.range n).map sp) lo hi (isWantB a b) = 0)) = true := h
      rw [hE] at h
      have h : ¬ E = 0 := by simpa using h
      have hw : needW ((List.range n).map sp) lo hi a b = (0, 0, E) := by rw [needW, hE, if_neg h]
      exact hR _ _ ⟨⟨rfl, by rw [hw]⟩, ⟨rfl, by rw [hw]⟩, ⟨rfl, by rw [hw]; exact hE⟩, trivial⟩ rfl
    · have h : (!decide (errV ((List.range n).map sp) lo hi (isWantB a b) = 0)) = false := h
      rw [hE] at h
      have h : E = 0 := by simpa using h
      obtain ⟨q1, q2⟩ := errV_zero (hE.trans h)
      have hlen : ((List.range n).map sp).length = n := by simp
      have h8 : n ≤ 8 := by have := (okSet_of q1).1; simpa using this
      have h256 := pow_le8 h8
      refine Chk.mk ⟨spans_sp _ _, q1⟩ ?_
      have hneed : needW ((List.range n).map sp) lo hi a b = (match J ((surI ((List.range n).map sp) lo hi (a, b) (2 ^ n)).map one) with | some f => ((f.each : Int), (f.some : Int), 0) | none => (0, 0, 4)) := by
        rw [needW, hE, if_pos h, ← sur_found, hlen] <;> rfl
      have hmem := fun x => @surI_mem ((List.range n).map sp) lo hi (a, b) (2 ^ n) x
      have hll := surI_len ((List.range n).map sp) lo hi (a, b) (2 ^ n)
      have hlist : surI (spanL n fun i => spanC (sp i)) lo hi (a, b) (2 ^ n) = surI ((List.range n).map sp) lo hi (a, b) (2 ^ n) := rfl
      rw [hlist]
      generalize surI ((List.range n).map sp) lo hi (a, b) (2 ^ n) = l at hneed hmem hll ⊢
      refine Br.mk (fun hb => ?_) (fun hb => ?_)
      · have hb : (l.length : Int) = 0 := of_decide_eq_true hb
        have hl0 : l = [] := List.length_eq_zero_iff.1 (by omega)
        subst hl0
        exact hR _ _ ⟨⟨rfl, by rw [hneed]; rfl⟩, ⟨rfl, by rw [hneed]; rfl⟩, ⟨rfl, by rw [hneed]; rfl⟩, trivial⟩ rfl
      · have hb : ¬ (l.length : Int) = 0 := of_decide_eq_false hb
        have hl0 : 0 < l.length := by omega
        refine loop_ok (g.ok _ _ _) (fun x : {q : Nat // q ≤ n} => ⟨[(2, ⟨[], .sp 1 0⟩), (8, ⟨[], .sl 23⟩), (9, ⟨[], .si .i64 (eI l x.1 : Nat)⟩), (10, ⟨[], .si .i64 (sI l x.1 : Nat)⟩), (11, ⟨[], .si .i64 (x.1 : Int)⟩)], [],
          [(23, .ro 1 l.length fun j => [.si .i64 (l.getD j 0 : Nat)]), (0, .ro 2 n fun i => spanC (sp i)), (1, .cells 26 [.sl 0, .si .i64 lo, .si .i64 hi])], 27, []⟩) (fun x => n - x.1) (fun _ j hj => hG j (by have : 27 ≤ j := hj; omega)) ⟨0, Nat.zero_le _⟩ ?_ ?_
        · refine ⟨?_, ?_, rfl, rfl, rfl⟩
          · repeat' (first | exact trivial | exact rfl | refine And.intro ?_ ?_)
          · exact ⟨⟨rfl, fun i hi => rfl, rfl⟩, ⟨rfl, fun i hi => rfl, rfl⟩, ⟨⟨rfl, rfl, ⟨rfl, rfl⟩, ⟨rfl, rfl⟩, trivial⟩, rfl, rfl⟩, trivial⟩
        · rintro ⟨q, hq⟩
          refine Br.mk (fun h1 => ?_) (fun h1 => ?_)
          · have h1 : (q : Int) < (n : Int) := of_decide_eq_true h1
            have hq' : q < n := by omega
            have hqi : InK .i64 ((q : Int) + 1) := ⟨by omega, by omega⟩
            refine loop_ok (g.ok _ _ _) (fun x : {i : Nat // i ≤ l.length} => ⟨[(2, ⟨[], .sp 1 0⟩), (8, ⟨[], .sl 23⟩), (9, ⟨[], .si .i64 (eI l q : Nat)⟩), (10, ⟨[], .si .i64 (sI l q : Nat)⟩), (11, ⟨[], .si .i64 (q : Int)⟩), (12, ⟨[], .si .i64 (cH l q x.1 : Nat)⟩), (13, ⟨[], .si .i64 (x.1 : Int)⟩)], [],
              [(23, .ro 1 l.length fun j => [.si .i64 (l.getD j 0 : Nat)]), (0, .ro 2 n fun i => spanC (sp i)), (1, .cells 26 [.sl 0, .si .i64 lo, .si .i64 hi])], 27, []⟩) (fun x => l.length - x.1) (fun _ j hj => hG j (by have : 27 ≤ j := hj; omega)) ⟨0, Nat.zero_le _⟩ ?_ ?_
            · refine ⟨?_, ?_, rfl, rfl, rfl⟩
              · repeat' (first | exact trivial | exact rfl | refine And.intro ?_ ?_)
              · exact ⟨⟨rfl, fun i hi => rfl, rfl⟩, ⟨rfl, fun i hi => rfl, rfl⟩, ⟨⟨rfl, rfl, ⟨rfl, rfl⟩, ⟨rfl, rfl⟩, trivial⟩, rfl, rfl⟩, trivial⟩
            · rintro ⟨i, hi⟩
              have hcl := cH_le l q i
              refine Br.mk (fun h2 => ?_) (fun h2 => ?_)
              · have h2 : (i : Int) < (l.length : Int) := of_decide_eq_true h2
                have hi' : i < l.length := by omega
                have m1 := hmem _ (getD_mem hi')
                have hin : InK .i64 ((i : Int) + 1) := ⟨by omega, by omega⟩
                have hin2 : InK .i64 ((cH l q i : Int) + 1) := ⟨by omega, by omega⟩
                refine Chk.mk (show (0 : Int) ≤ (i : Int) ∧ (i : Int) < (l.length : Int) by omega) ?_
                refine Chk.mk (show (q : Int) ≤ 62 ∧ (0 : Int) ≤ ((l.getD i 0 : Nat) : Int) ∧ ((l.getD i 0 : Nat) : Int) < 4611686018427387904 by omega) ?_
                have hbit := @has_bit (l.getD i 0) q
                refine Br.mk (fun h3 => ?_) (fun h3 => ?_)
                · have h3 := hbit.symm.trans h3
                  have hc : cH l q (i + 1) = cH l q i + 1 := by rw [cH, if_pos h3]
                  have hs1 : (cH l q i : Int) + 1 = (cH l q (i + 1) : Int) := by rw [hc]; rfl
                  refine Chk.mk hin2 ?_
                  refine Chk.mk hin ⟨⟨i + 1, hi'⟩, ?_, (by show l.length - (i + 1) < l.length - i; omega)⟩
                  refine ⟨?_, ?_, rfl, rfl, rfl⟩
                  · repeat' (first | exact trivial | exact hs1 | exact rfl | refine And.intro ?_ ?_)
                  · exact ⟨⟨rfl, fun i hi => rfl, rfl⟩, ⟨rfl, fun i hi => rfl, rfl⟩, ⟨⟨rfl, rfl, ⟨rfl, rfl⟩, ⟨rfl, rfl⟩, trivial⟩, rfl, rfl⟩, trivial⟩
                · have h3 := hbit.symm.trans h3
                  have hc : cH l q (i + 1) = cH l q i := by rw [cH, if_neg (by rw [h3]; exact Bool.false_ne_true)]
                  have hs1 : (cH l q i : Int) = (cH l q (i + 1) : Int) := by rw [hc]
                  refine Chk.mk hin ⟨⟨i + 1, hi'⟩, ?_, (by show l.length - (i + 1) < l.length - i; omega)⟩
                  refine ⟨?_, ?_, rfl, rfl, rfl⟩
                  · repeat' (first | exact trivial | exact hs1 | exact rfl | refine And.intro ?_ ?_)
                  · exact ⟨⟨rfl, fun i hi => rfl, rfl⟩, ⟨rfl, fun i hi => rfl, rfl⟩, ⟨⟨rfl, rfl, ⟨rfl, rfl⟩, ⟨rfl, rfl⟩, trivial⟩, rfl, rfl⟩, trivial⟩
              · have h2 : ¬ (i : Int) < (l.length : Int) := of_decide_eq_false h2
                have hie : i = l.length := by omega
                subst hie
                have hpq : ((2 ^ q : Nat) : Int) = (2 : Int) ^ q := by push_cast; rfl
                have h2q : 2 ^ q ≤ 256 := pow_le8 (by omega)
                have he := (bitsN_ok (fun b => decide (cH l b l.length = l.length)) q).1
                have hss := (bitsN_ok (fun b => decide (0 < cH l b l.length)) q).1
                rw [← eI_bits] at he
                rw [← sI_bits] at hss
                have hie : InK .i64 ((eI l q : Int) + (2 : Int) ^ q) := by rw [← hpq]; exact ⟨by omega, by omega⟩
                have his : InK .i64 ((sI l q : Int) + (2 : Int) ^ q) := by rw [← hpq]; exact ⟨by omega, by omega⟩
                have hq62 : (q : Int) ≤ 62 := by omega
                refine Br.mk (fun h3 => ?_) (fun h3 => ?_)
                · have h3 : (cH l q l.length : Int) = (l.length : Int) := of_decide_eq_true h3
                  have hs1 : (eI l q : Int) + (2 : Int) ^ q = (eI l (q + 1) : Int) := by rw [eI, if_pos (by omega)]; push_cast; rfl
                  have hs2 : (sI l q : Int) + (2 : Int) ^ q = (sI l (q + 1) : Int) := by rw [sI, if_pos (by omega)]; push_cast; rfl
                  refine Chk.mk hq62 ?_
                  refine Chk.mk hie ?_
                  refine Br.mk (fun h4 => ?_) (fun h4 => absurd (of_decide_eq_false (show decide ((0 : Int) < (cH l q l.length : Int)) = false from h4)) (by omega))
                  refine Chk.mk hq62 ?_
                  refine Chk.mk his ?_
                  refine Chk.mk hqi ⟨⟨q + 1, hq'⟩, ?_, (by show n - (q + 1) < n - q; omega)⟩
                  refine ⟨?_, ?_, rfl, rfl, rfl⟩
                  · repeat' (first | exact trivial | exact hs1 | exact hs2 | exact rfl | refine And.intro ?_ ?_)
                  · exact ⟨⟨rfl, fun i hi => rfl, rfl⟩, ⟨rfl, fun i hi => rfl, rfl⟩, ⟨⟨rfl, rfl, ⟨rfl, rfl⟩, ⟨rfl, rfl⟩, trivial⟩, rfl, rfl⟩, trivial⟩
                · have h3 : ¬ (cH l q l.length : Int) = (l.length : Int) := of_decide_eq_false h3
                  have hs1 : (eI l q : Int) = (eI l (q + 1) : Int) := by rw [eI, if_neg (by omega)]
                  refine Br.mk (fun h4 => ?_) (fun h4 => ?_)
                  · have h4 : (0 : Int) < (cH l q l.length : Int) := of_decide_eq_true h4
                    have hs2 : (sI l q : Int) + (2 : Int) ^ q = (sI l (q + 1) : Int) := by rw [sI, if_pos (by omega)]; push_cast; rfl
                    refine Chk.mk hq62 ?_
                    refine Chk.mk his ?_
                    refine Chk.mk hqi ⟨⟨q + 1, hq'⟩, ?_, (by show n - (q + 1) < n - q; omega)⟩
                    refine ⟨?_, ?_, rfl, rfl, rfl⟩
                    · repeat' (first | exact trivial | exact hs1 | exact hs2 | exact rfl | refine And.intro ?_ ?_)
                    · exact ⟨⟨rfl, fun i hi => rfl, rfl⟩, ⟨rfl, fun i hi => rfl, rfl⟩, ⟨⟨rfl, rfl, ⟨rfl, rfl⟩, ⟨rfl, rfl⟩, trivial⟩, rfl, rfl⟩, trivial⟩
                  · have h4 : ¬ (0 : Int) < (cH l q l.length : Int) := of_decide_eq_false h4
                    have hs2 : (sI l q : Int) = (sI l (q + 1) : Int) := by rw [sI, if_neg (by omega)]
                    refine Chk.mk hqi ⟨⟨q + 1, hq'⟩, ?_, (by show n - (q + 1) < n - q; omega)⟩
                    refine ⟨?_, ?_, rfl, rfl, rfl⟩
                    · repeat' (first | exact trivial | exact hs1 | exact hs2 | exact rfl | refine And.intro ?_ ?_)
                    · exact ⟨⟨rfl, fun i hi => rfl, rfl⟩, ⟨rfl, fun i hi => rfl, rfl⟩, ⟨⟨rfl, rfl, ⟨rfl, rfl⟩, ⟨rfl, rfl⟩, trivial⟩, rfl, rfl⟩, trivial⟩
          · have h1 : ¬ (q : Int) < (n : Int) := of_decide_eq_false h1
            have hqe : q = n := by omega
            subst hqe
            cases hJ : J (l.map one) with
            | none =>
              have := J_none.1 hJ
              rw [List.map_eq_nil_iff] at this
              rw [this] at hl0; exact absurd hl0 (by decide)
            | some f =>
              obtain ⟨n1, n2⟩ := need_law hl0 (fun x hx => (hmem x hx).2) hJ
              rw [hJ] at hneed
              exact hR _ _ ⟨⟨rfl, by rw [hneed]; exact congrArg _ n1⟩, ⟨rfl, by rw [hneed]; exact congrArg _ n2⟩, ⟨rfl, by rw [hneed]⟩, trivial⟩ rfl
  · cases hk
theorem g24 {l : List (Nat × Ct)} (g : Good P T l) : Good P T ((24, c23) :: l) := g.add (k24 g) (stCt_mono _) (body_of Try.func24 (c := code Try.f24) rfl (by decide))
end Go.X.S
end

section
set_option linter.unusedVariables false
set_option linter.unusedSimpArgs false
set_option linter.unusedSectionVars false
/- Stack: the sample. -/
set_option linter.unusedVariables false
set_option linter.unusedSimpArgs false
set_option linter.unusedSectionVars false
set_option maxRecDepth 10000
set_option maxHeartbeats 1000000
namespace Go.X.S
open Go Go.Proofs Go.X

def smp (i : Nat) : Span := [((10 : Int), (10 : Int)), (12, 13), (20, 20), (31, 32)].getD i (0, 0)
def smpL : List Span := [(10, 10), (12, 13), (20, 20), (31, 32)]
def c39 : Ct := fun fr args H =>
  match args with
  | [] => some ⟨none, none, .agg [.sl fr, .si .i64 1, .si .i64 2], [(fr, .ro 2 4 fun i => spanC (smp i))]⟩
  | _ => none
theorem c39_mono : CtMono c39 := by
  intro fr args H H' out hH h
  unfold c39 at h ⊢
  exact h
theorem hand_nil (H : LH) : Hand H [] where
  ok j c hb h := by simp at h
  ids j c hb h := by simp at h
  inj i j c hb hb' h _ _ _ := by simp at h
theorem k39 {l : List (Nat × Ct)} (g0 : Good P T l) : COk P 39 c39 := by
  have g := g35 g0
  refine cok (C := tabC _) g.ok Try.func39 (c := code Try.f39) rfl fun fr args H out h hp => ?_
  unfold c39 at h
  split at h
  · cases h
    refine ⟨[], [], [], 0, [1], rfl, rfl, Nat.le_of_ble_eq_true rfl, hand_nil H, rfl, rfl, fun G hG => ?_⟩
    refine ⟨.inl rfl, ⟨⟨rfl, ⟨rfl, rfl⟩, ⟨rfl, rfl⟩, trivial⟩, rfl, ⟨rfl, ⟨rfl, rfl, fun i hi => ?_⟩, trivial⟩, trivial, rfl, rfl⟩⟩
    have hi : i < 4 := hi
    rcases (show i = 0 ∨ i = 1 ∨ i = 2 ∨ i = 3 by omega) with rfl | rfl | rfl | rfl <;> exact ⟨rfl, rfl⟩
  · cases h
theorem g39 {l : List (Nat × Ct)} (g : Good P T l) : Good P T ((39, c39) :: l) := g.add (k39 g) c39_mono (body_of Try.func39 (c := code Try.f39) rfl (by decide))
end Go.X.S
end

section
set_option linter.unusedVariables false
set_option linter.unusedSimpArgs false
set_option linter.unusedSectionVars false
/- Stack: what the sample answers. -/
set_option linter.unusedVariables false
set_option maxRecDepth 100000
namespace Go.X.S
open Go Go.Proofs Go.X

theorem e_size : sizeN 9 = 2 := by decide +kernel
theorem e_long : longV smpL 1 2 3 = (23, 25) := by decide +kernel
theorem e_right : rightW smpL 1 2 3 24 25 = 1 := by decide +kernel
theorem e_few : fewW smpL 1 2 42 45 = (9, 0) := by decide +kernel
theorem e_few2 : fewW smpL 1 2 50 51 = (0, 4) := by decide +kernel
theorem e_cnt : cntW smpL 1 2 42 45 = (1, 3, 0) := by decide +kernel
theorem e_need : needW smpL 1 2 31 36 = (0, 15, 0) := by decide +kernel
theorem e_near : nrW smpL 1 2 26 = (3, 3, 0) := by decide +kernel
theorem e_gap : gapW smpL 1 2 10 21 2 = (15, 0) := by decide +kernel
end Go.X.S
end

section
set_option linter.unusedVariables false
set_option linter.unusedSimpArgs false
set_option linter.unusedSectionVars false
/- Stack: awake. -/
set_option linter.unusedVariables false
set_option linter.unusedSimpArgs false
set_option linter.unusedSectionVars false
set_option maxRecDepth 10000
set_option maxHeartbeats 1000000
namespace Go.X.S
open Go Go.Proofs Go.X

theorem v_long : longV (spanL 4 fun i => spanC (smp i)) 1 2 3 = (23, 25) := by decide +kernel
theorem v_right : rightW (spanL 4 fun i => spanC (smp i)) 1 2 3 24 25 = 1 := by decide +kernel
theorem v_few : fewW (spanL 4 fun i => spanC (smp i)) 1 2 42 45 = (9, 0) := by decide +kernel
theorem v_few2 : fewW (spanL 4 fun i => spanC (smp i)) 1 2 50 51 = (0, 4) := by decide +kernel
theorem v_cnt : cntW (spanL 4 fun i => spanC (smp i)) 1 2 42 45 = (1, 3, 0) := by decide +kernel
theorem v_need : needW (spanL 4 fun i => spanC (smp i)) 1 2 31 36 = (0, 15, 0) := by decide +kernel
theorem v_near : nrW (spanL 4 fun i => spanC (smp i)) 1 2 26 = (3, 3, 0) := by decide +kernel
theorem v_gap : gapW (spanL 4 fun i => spanC (smp i)) 1 2 10 21 2 = (15, 0) := by decide +kernel
def c14 : Ct := plainCt fun
  | [] => some ⟨none, none, .sb true, []⟩
  | _ => none
theorem k14 {l : List (Nat × Ct)} (g0 : Good P T l) : COk P 14 c14 := by
  have g := g39 (g35 (g15 (g17 (g21 (g19 (g23 (g25 (g27 g0))))))))
  refine cok (C := tabC _) g.ok Try.func14 (c := code Try.f14) rfl fun fr args H out h hp => ?_
  simp only [c14, plainCt] at h
  split at h
  · cases h
    refine walk_plain rfl (Nat.le_of_ble_eq_true rfl) fun G hG => ?_
    have hl : (spanL 4 fun i => spanC (smp i)).length ≤ 40 := by decide
    refine Chk.mk ⟨spans_sp _ _, rfl, hl⟩ ?_
    rw [v_long]
    refine drawn_ok (g.ok _ _ _) fol [0,0,3,7,15,15,31,127] [] 8 (by kernel_rfl) ?_
    refine Chk.mk ⟨spans_sp _ _, rfl, hl⟩ ?_
    rw [v_right]
    refine drawn_ok (g.ok _ _ _) fol [0,0,3,7,15,15,31,127] [] 8 (by kernel_rfl) ?_
    refine Chk.mk ⟨spans_sp _ _, rfl, hl⟩ ?_
    rw [v_few]
    refine drawn_ok (g.ok _ _ _) fol [0,0,3,7,15,15,15,31,191,511] [] 10 (by kernel_rfl) ?_
    refine Chk.mk ⟨spans_sp _ _, rfl, hl⟩ ?_
    rw [v_cnt]
    refine drawn_ok (g.ok _ _ _) fol [0,0,3,7,15,15,15,31,191,511] [] 10 (by kernel_rfl) ?_
    refine Chk.mk ⟨spans_sp _ _, rfl, hl⟩ ?_
    rw [v_need]
    refine Chk.mk ⟨spans_sp _ _, rfl, hl⟩ ?_
    rw [v_near]
    refine Chk.mk ⟨spans_sp _ _, rfl, hl⟩ ?_
    rw [v_gap]
    refine drawn_ok (g.ok _ _ _) fol [0,0,3,7,15,15,31,127] [] 8 (by kernel_rfl) ?_
    refine Chk.mk ⟨spans_sp _ _, rfl, hl⟩ ?_
    rw [v_few2]
    refine drawn_ok (g.ok _ _ _) fol [0,0,3,7,15,31,63,127,255,511,1023,2047,4095,8191,16383,32767,65535,131071,262143,524287,1048575,2097151,4194303,8388607,16777215,33554431,67108863,134217727,268435455,536870911,1073741823,2147483647,4294967295,8589934591,17179869183] [] 35 (by kernel_rfl) ?_
    refine Br.mk (fun h => absurd h (by decide)) (fun _ => ?_)
    exact ⟨.inl rfl, end_plain rfl rfl rfl⟩
  · cases h
theorem g14 {l : List (Nat × Ct)} (g : Good P T l) : Good P T ((14, c14) :: l) := g.add (k14 g) (plainCt_mono _) (body_of Try.func14 (c := code Try.f14) rfl (by decide))
end Go.X.S
end
