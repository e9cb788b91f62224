/- Stack: Fewest, Count, Needed; TopWarmed: region 24 in whatever order (three appends). -/
import Derived.Test.YtipjgdkaocfapaaTWD
import Derived.Test.YtipjgdkaocfapaaTWC

section
set_option linter.unusedVariables false
set_option linter.unusedSimpArgs false
set_option linter.unusedSectionVars false
/- Stack: Fewest, Count, Needed. -/
set_option linter.unusedVariables false
set_option linter.unusedSimpArgs false
set_option linter.unusedSectionVars false
set_option maxRecDepth 10000
set_option maxHeartbeats 1000000
namespace Go.X.S
open Go Go.Proofs Go.X

theorem J_all (P : Fd → Prop) (hP : ∀ f x, P f → P x → P (join f x)) {l : List Fd} (h : ∀ x ∈ l, P x) {f : Fd} (hj : J l = some f) : P f := by
  have key : ∀ (l : List Fd) (o : Option Fd), (∀ g, o = some g → P g) → (∀ x ∈ l, P x) → ∀ g, l.foldl jo o = some g → P g := by
    intro l
    induction l with
    | nil => intro o ho _ g hg; exact ho g hg
    | cons x r ih =>
      intro o ho hl g hg
      refine ih (jo o x) (fun g hg => ?_) (fun y hy => hl y (List.mem_cons_of_mem _ hy)) g hg
      have hx := hl x List.mem_cons_self
      cases o with
      | none => cases hg; exact hx
      | some o' => cases hg; exact hP _ _ (ho o' rfl) hx
  exact key l none (fun g hg => by cases hg) h f hj
theorem foundX_lt {n : Nat} {q : Nat → Bool} {f : Fd} (h : foundX n q = some f) : f.least < 2 ^ n ∧ f.each < 2 ^ n ∧ f.some < 2 ^ n := by
  refine J_all (fun f => f.least < 2 ^ n ∧ f.each < 2 ^ n ∧ f.some < 2 ^ n) (fun f x hf hx => ?_) (fun x hx => ?_) h
  · refine ⟨?_, Nat.lt_of_le_of_lt Nat.and_le_left hf.2.1, Nat.or_lt_two_pow hf.2.2 hx.2.2⟩
    simp only [join]
    split
    · exact hx.1
    · exact hf.1
  · obtain ⟨y, hy, rfl⟩ := List.mem_map.1 hx
    have := List.mem_range.1 (List.mem_filter.1 hy).1
    exact ⟨this, this, this⟩
def qIn (L : List Span) (lo hi : Int) (w : Span) (x : Nat) : Bool := insideB w ((ofL L lo hi x).1, (ofL L lo hi x).2, 0)
theorem foundX_congr {n : Nat} {q q' : Nat → Bool} (h : ∀ x, 0 < x → x < 2 ^ n → q x = q' x) : foundX n q = foundX n q' := by
  unfold foundX stacksW
  congr 2
  refine List.filter_congr fun x hx => ?_
  cases h0 : decide (0 < x) with
  | false => rfl
  | true => rw [h x (of_decide_eq_true h0) (List.mem_range.1 hx)]
theorem all_in {n : Nat} {sp : Nat → Span} {lo hi a b : Int} : (foundX n fun x => isP 105 (a, b) (keyN (lo, hi) sp n x)) = foundX n (qIn ((List.range n).map sp) lo hi (a, b)) := by
  refine foundX_congr fun x h0 hx => ?_
  have h := ofW_ofL (L := (List.range n).map sp) (lo := lo) (hi := hi) h0 (by simpa using hx)
  have hk := keyN_ofW (film := (lo, hi)) (sp := sp) (n := n) (x := x)
  rw [← hk, h]
  rfl
def fewW (L : List Span) (lo hi a b : Int) : Int × Int :=
  if errV L lo hi (isWantB a b) = 0 then (match foundX L.length (qIn L lo hi (a, b)) with | some f => ((f.least : Int), 0) | none => (0, 4)) else (0, errV L lo hi (isWantB a b))
def c21 : Ct := stCt fun L lo hi r => match r with
  | [.agg [.si .i64 a, .si .i64 b]] => some (some (L.length ≤ 40), .tup [.si .i64 (fewW L lo hi a b).1, .si .i64 (fewW L lo hi a b).2])
  | _ => none
theorem k21 {l : List (Nat × Ct)} (g0 : Good P T l) : COk P 21 c21 := by
  have g := g53 (g50 (g41 (g47 g0)))
  refine cokD (C := tabC _) g.ok answer_ok Try.func21 (c := code Try.f21) rfl fun fr args H out h hp => stWalkD h hp fun n sp lo hi r p v Rv hk hp hR => ?_
  split at hk
  · rename_i a b
    cases hk
    have hp : ((List.range n).map sp).length ≤ 40 := hp
    have hp' : n ≤ 40 := by simpa using hp
    refine ⟨Nat.le_of_ble_eq_true rfl, fun G hG => ?_⟩
    refine fb_defer (g.ok _ _ _) rfl cont_std rfl rfl rfl rfl ?_
    refine drawn_ok (g.ok _ _ _) fol [0,0,2,7,0,16,48,127,255,511,511,0,3071,8191] [(12, 48)] 14 (by kernel_rfl) ?_
    refine Chk.mk (spans_sp _ _) ?_
    generalize hE : errV ((List.range n).map sp) lo hi (isWantB a b) = E at hR
    have hall := all_in (n := n) (sp := sp) (lo := lo) (hi := hi) (a := a) (b := b)
    refine Br.mk (fun h => ?_) (fun h => ?_)
    · have h : (!decide (errV ((List.range n).map sp) lo hi (isWantB a b) = 0)) = true := h
      rw [hE] at h
      have h : ¬ E = 0 := by simpa using h
      have hw : fewW ((List.range n).map sp) lo hi a b = (0, E) := by rw [fewW, hE, if_neg h]
      exact hR _ _ ⟨⟨rfl, by rw [hw]⟩, ⟨rfl, by rw [hw]; exact hE⟩, trivial⟩ rfl
    · have h : (!decide (errV ((List.range n).map sp) lo hi (isWantB a b) = 0)) = false := h
      rw [hE] at h
      have h : E = 0 := by simpa using h
      obtain ⟨q1, q2⟩ := errV_zero (hE.trans h)
      refine Chk.mk ⟨rfl, spans_sp _ _, okSet_of q1⟩ ?_
      refine Br.mk (fun hb => ?_) (fun hb => ?_)
      · have hb : (!decide (0 < (allL (lo, hi) n sp (isP 105 (a, b))).length)) = true := hb
        rw [allL_nil, hall] at hb
        cases hf : foundX n (qIn ((List.range n).map sp) lo hi (a, b)) with
        | some f => rw [hf] at hb; cases hb
        | none =>
          have hw : fewW ((List.range n).map sp) lo hi a b = (0, 4) := by rw [fewW, hE, if_pos h, List.length_map, List.length_range, hf]
          exact hR _ _ ⟨⟨rfl, by rw [hw]⟩, ⟨rfl, by rw [hw]⟩, trivial⟩ rfl
      · have hb : (!decide (0 < (allL (lo, hi) n sp (isP 105 (a, b))).length)) = false := hb
        rw [allL_nil, hall] at hb
        cases hf : foundX n (qIn ((List.range n).map sp) lo hi (a, b)) with
        | none => rw [hf] at hb; cases hb
        | some f =>
          have hw : fewW ((List.range n).map sp) lo hi a b = ((f.least : Int), 0) := by rw [fewW, hE, if_pos h, List.length_map, List.length_range, hf]
          have hJ : J (allL (lo, hi) n sp (isP 105 (a, b))) = some f := (allL_found _ _ _ _).trans (hall.trans hf)
          have hlt := (foundX_lt hf).1
          have h256 := pow_le8 (n := n) (by have := (okSet_of q1).1; simpa using this)
          have hl : ((J (allL (lo, hi) n sp (isP 105 (a, b)))).getD zeroF).least = f.least := by rw [hJ]; rfl
          refine Chk.mk ?_ (hR _ _ ⟨⟨rfl, ?_⟩, ⟨rfl, by rw [hw]⟩, trivial⟩ rfl)
          · show InK .i64 ((((J (allL (lo, hi) n sp (isP 105 (a, b)))).getD zeroF).least : Nat) : Int)
            rw [hl]
            exact ⟨by omega, by omega⟩
          · show ((((J (allL (lo, hi) n sp (isP 105 (a, b)))).getD zeroF).least : Nat) : Int) = _
            rw [hl, hw]
  · cases hk
end Go.X.S
end

section
set_option linter.unusedVariables false
set_option linter.unusedSimpArgs false
set_option linter.unusedSectionVars false
/- Warm: what a pair shows. -/
set_option linter.unusedVariables false
set_option linter.unusedSimpArgs false
set_option maxRecDepth 10000
set_option maxHeartbeats 1000000
namespace Go.X.W
open Go Go.Proofs Go.X

/-! ### Numbers that are small -/
def smB (k x : Int) : Prop := -k ≤ x ∧ x ≤ k
theorem mul_sm {x y k m : Int} (hx : smB k x) (hy : smB m y) (hk : 0 ≤ k) (hm : 0 ≤ m) : smB (k * m) (x * y) := by
  unfold smB at *
  have h1 : x * y ≤ k * m ∧ -(k * m) ≤ x * y := by
    rcases Int.le_total 0 x with h0 | h0 <;> rcases Int.le_total 0 y with g0 | g0
    · have a1 := Int.mul_le_mul hx.2 hy.2 g0 hk
      have a2 := Int.mul_nonneg h0 g0
      have a3 := Int.mul_nonneg hk hm
      omega
    · have a1 := Int.mul_le_mul hx.2 (show -y ≤ m by omega) (by omega) hk
      have a2 := Int.mul_nonneg h0 (show 0 ≤ -y by omega)
      have a3 := Int.mul_nonneg hk hm
      rw [Int.mul_neg] at a1 a2
      omega
    · have a1 := Int.mul_le_mul (show -x ≤ k by omega) hy.2 g0 hk
      have a2 := Int.mul_nonneg (show 0 ≤ -x by omega) g0
      have a3 := Int.mul_nonneg hk hm
      rw [Int.neg_mul] at a1 a2
      omega
    · have a1 := Int.mul_le_mul (show -x ≤ k by omega) (show -y ≤ m by omega) (by omega) hk
      have a2 := Int.mul_nonneg (show 0 ≤ -x by omega) (show 0 ≤ -y by omega)
      have a3 := Int.mul_nonneg hk hm
      rw [Int.neg_mul_neg] at a1 a2
      omega
  omega

/-! ### product, of three -/
def prod3 (a b c : Int) : Nat → Int
  | 0 => 1
  | 1 => a
  | 2 => a * b
  | _ => a * b * c
def at3 (a b c : Int) : Nat → Int
  | 0 => a
  | 1 => b
  | _ => c
def c104 : Ct := fun _ args H => match args with
  | [.sl id] => (match sliceOf 1 H id with
    | some (3, get) => (match get 0, get 1, get 2 with
      | [.si .i64 a], [.si .i64 b], [.si .i64 c] => some ⟨some (smB 1000 a ∧ smB 1000 b ∧ smB 1000 c), none, .si .i64 (a * b * c), []⟩
      | _, _, _ => none)
    | _ => none)
  | _ => none
theorem c104_mono : CtMono c104 := by
  intro fr args H H' out hH h
  unfold c104 at h ⊢
  split at h
  · split at h
    · rename_i e
      simp only [sliceOf_mono hH e]
      exact h
    · cases h
  · cases h
theorem k104 {l : List (Nat × Ct)} (g : Good P T l) : COk P 104 c104 := by
  refine cok (C := tabC _) g.ok Try.func104 (c := code Try.f104) rfl fun fr args H out h hp => ?_
  unfold c104 at h
  split at h
  · rename_i id
    split at h
    · rename_i get e
      split at h
      · rename_i a b c e0 e1 e2
        cases h
        obtain ⟨ha, hb, hc⟩ : smB 1000 a ∧ smB 1000 b ∧ smB 1000 c := hp
        have hab := mul_sm ha hb (by decide) (by decide)
        have habc := mul_sm hab hc (by decide) (by decide)
        unfold smB at ha hb hc hab habc
        have hh : Hand H [(id, .ro 1 3 fun i => [.si .i64 (at3 a b c i)])] := hand_one e (fun i => rfl) (fun i hi => by
          rcases (show i = 0 ∨ i = 1 ∨ i = 2 by omega) with rfl | rfl | rfl
          · exact e0.symm
          · exact e1.symm
          · exact e2.symm)
        refine ⟨_, [.sl 0], [(0, .ro 1 3 fun i => [.si .i64 (at3 a b c i)])], 1, [], rfl, rfl, Nat.le_of_ble_eq_true rfl, hh, rfl, rfl, fun G hG => ?_⟩
        refine loop_ok (g.ok _ _ _) (fun x : {i : Nat // i ≤ 3} => ⟨[(0, ⟨[], .sl 0⟩), (3, ⟨[], .si .i64 (prod3 a b c x.1)⟩), (6, ⟨[], .sl 0⟩), (7, ⟨[], .si .i64 3⟩), (8, ⟨[], .si .i64 x.1⟩)], [],
          [(0, .ro 1 3 fun i => [.si .i64 (at3 a b c i)])], 1, []⟩) (fun x => 3 - x.1) (fun _ j hj => hG j hj) ⟨0, Nat.zero_le _⟩ ?_ ?_
        · refine ⟨?_, ?_, rfl, rfl, rfl⟩ <;> repeat' (first | exact trivial | exact rfl | (intro i hi; exact rfl) | refine And.intro ?_ ?_)
        · rintro ⟨i, hi⟩
          refine Br.mk (fun h => ?_) (fun h => ?_)
          · have h : (i : Int) < 3 := of_decide_eq_true h
            have key : ∀ (v w : Int), (i = 0 ∧ v = a ∨ i = 1 ∧ v = b ∨ i = 2 ∧ v = c) → prod3 a b c i * v = prod3 a b c (i + 1) ∧ InK .i64 (prod3 a b c i * v) := by
              rintro v w (⟨rfl, rfl⟩ | ⟨rfl, rfl⟩ | ⟨rfl, rfl⟩)
              · have : prod3 v b c 0 * v = v := Int.one_mul _
                exact ⟨this, by rw [this]; exact ⟨by omega, by omega⟩⟩
              · exact ⟨rfl, ⟨show _ ≤ a * v by omega, show a * v ≤ _ by omega⟩⟩
              · exact ⟨rfl, ⟨show _ ≤ a * b * v by omega, show a * b * v ≤ _ by omega⟩⟩
            refine Chk.mk (show (0 : Int) ≤ (i : Int) ∧ (i : Int) < ((3 : Nat) : Int) from ⟨by omega, by omega⟩) ?_
            obtain ⟨k1, k2⟩ := key (at3 a b c i) 0 (by
              rcases (show i = 0 ∨ i = 1 ∨ i = 2 by omega) with rfl | rfl | rfl
              · exact .inl ⟨rfl, rfl⟩
              · exact .inr (.inl ⟨rfl, rfl⟩)
              · exact .inr (.inr ⟨rfl, rfl⟩))
            refine Chk.mk k2 (Chk.mk (show InK .i64 ((i : Int) + 1) from ⟨by omega, by omega⟩) ⟨⟨i + 1, by omega⟩, ?_, by show 3 - (i + 1) < 3 - i; omega⟩)
            refine ⟨?_, ?_, rfl, rfl, rfl⟩
            · repeat' (first | exact trivial | exact rfl | refine And.intro ?_ ?_)
              exact k1
            · repeat' (first | exact trivial | exact rfl | (intro i hi; exact rfl) | refine And.intro ?_ ?_)
          · have h : ¬ (i : Int) < 3 := of_decide_eq_false h
            have hi3 : i = 3 := by omega
            subst hi3
            exact ⟨.inl rfl, end_noid ⟨rfl, rfl⟩ rfl rfl ⟨trivial, trivial⟩⟩
      · cases h
    · cases h
  · cases h
theorem g104 {l : List (Nat × Ct)} (g : Good P T l) : Good P T ((104, c104) :: l) := g.add (k104 g) c104_mono (body_of Try.func104 (c := code Try.f104) rfl (by decide))

/-! ### grows, shows, Show -/
/-- By how much longer a block is; what it shows. -/
def growV (mk a t : Int) : Int := mk * a * t / 10
def showV (mk : Int) (p : Int × Int) (t : Int) : Int := p.1 + growV mk p.2 t
theorem quo_floor (n : Int) : (if n.tmod 10 < 0 then n.tdiv 10 - 1 else n.tdiv 10) = n / 10 := by
  rcases Int.le_total 0 n with h | h
  · rw [Int.tdiv_eq_ediv_of_nonneg h, Int.tmod_eq_emod_of_nonneg h]
    split <;> omega
  · obtain ⟨m, rfl⟩ : ∃ m, n = -m := ⟨-n, by omega⟩
    have hm : 0 ≤ m := by omega
    rw [Int.neg_tdiv, Int.neg_tmod, Int.tdiv_eq_ediv_of_nonneg hm, Int.tmod_eq_emod_of_nonneg hm]
    split <;> omega
theorem tdiv_sm {n k : Int} (h : smB k n) : smB k (n.tdiv 10) := by
  unfold smB at *
  rcases Int.le_total 0 n with h | h
  · rw [Int.tdiv_eq_ediv_of_nonneg h]; omega
  · obtain ⟨m, rfl⟩ : ∃ m, n = -m := ⟨-n, by omega⟩
    have hm : 0 ≤ m := by omega
    rw [Int.neg_tdiv, Int.tdiv_eq_ediv_of_nonneg hm]; omega
theorem growV_le {mk a t : Int} (h1 : smB 1000 mk) (h2 : smB 1000 a) (h3 : smB 1000 t) : smB 1000000000 (mk * a * t) ∧ smB 100000000 (growV mk a t) := by
  have h := mul_sm (mul_sm h1 h2 (by decide) (by decide)) h3 (by decide) (by decide)
  unfold growV
  unfold smB at *
  omega
def c68 : Ct := plainCt fun
  | [.agg [.si .i64 n, .si .i64 a], .si .i64 mk, .si .i64 t] => some ⟨some (smB 1000 mk ∧ smB 1000 a ∧ smB 1000 t), none, .si .i64 (growV mk a t), []⟩
  | _ => none
theorem k68 {l : List (Nat × Ct)} (g0 : Good P T l) : COk P 68 c68 := by
  have g := g104 g0
  refine cok (C := tabC _) g.ok Try.func68 (c := code Try.f68) rfl fun fr args H out h hp => ?_
  simp only [c68, plainCt] at h
  split at h
  · rename_i n a mk t
    cases h
    obtain ⟨h1, h2, h3⟩ : smB 1000 mk ∧ smB 1000 a ∧ smB 1000 t := hp
    obtain ⟨hb, -⟩ := growV_le h1 h2 h3
    have hd := tdiv_sm hb
    unfold smB at hb hd
    have hq := quo_floor (mk * a * t)
    refine walk_plain rfl (Nat.le_of_ble_eq_true rfl) fun G hG => ?_
    refine Chk.mk ⟨h1, h2, h3⟩ ?_
    refine Chk.mk (show (10 : Int) ≠ 0 ∧ _ ≤ (mk * a * t).tdiv 10 ∧ (mk * a * t).tdiv 10 ≤ _ from ⟨by decide, by omega, by omega⟩) ?_
    refine Chk.mk (show (10 : Int) ≠ 0 by decide) ?_
    refine Br.mk (fun h => ?_) (fun h => ?_)
    · have h : (mk * a * t).tmod 10 < 0 := of_decide_eq_true h
      rw [if_pos h] at hq
      refine Chk.mk (show _ ≤ (mk * a * t).tdiv 10 - 1 ∧ (mk * a * t).tdiv 10 - 1 ≤ _ from ⟨by omega, by omega⟩) ⟨.inl rfl, end_plain ⟨rfl, hq⟩ rfl rfl⟩
    · have h : ¬ (mk * a * t).tmod 10 < 0 := of_decide_eq_false h
      rw [if_neg h] at hq
      exact ⟨.inl rfl, end_plain ⟨rfl, hq⟩ rfl rfl⟩
  · cases h
theorem g68 {l : List (Nat × Ct)} (g : Good P T l) : Good P T ((68, c68) :: l) := g.add (k68 g) (plainCt_mono _) (body_of Try.func68 (c := code Try.f68) rfl (by decide))

def c81 : Ct := plainCt fun
  | [.agg [.si .i64 n, .si .i64 a], .si .i64 mk, .si .i64 t] => some ⟨some (smB 1000000 n ∧ smB 1000 mk ∧ smB 1000 a ∧ smB 1000 t), none, .si .i64 (showV mk (n, a) t), []⟩
  | _ => none
theorem k81 {l : List (Nat × Ct)} (g0 : Good P T l) : COk P 81 c81 := by
  have g := g68 g0
  refine cok (C := tabC _) g.ok Try.func81 (c := code Try.f81) rfl fun fr args H out h hp => ?_
  simp only [c81, plainCt] at h
  split at h
  · rename_i n a mk t
    cases h
    obtain ⟨h0, h1, h2, h3⟩ : smB 1000000 n ∧ smB 1000 mk ∧ smB 1000 a ∧ smB 1000 t := hp
    obtain ⟨-, hb⟩ := growV_le h1 h2 h3
    unfold smB at hb h0
    refine walk_plain rfl (Nat.le_of_ble_eq_true rfl) fun G hG => ?_
    refine drawn_ok (g.ok _ _ _) fol [0,1,0,0,0,28,63,127] [] 8 (by kernel_rfl) ?_
    refine Chk.mk ⟨h1, h2, h3⟩ ?_
    refine Chk.mk (show _ ≤ n + growV mk a t ∧ n + growV mk a t ≤ _ from ⟨by omega, by omega⟩) ⟨.inl rfl, end_plain ⟨rfl, rfl⟩ rfl rfl⟩
  · cases h
theorem g81 {l : List (Nat × Ct)} (g : Good P T l) : Good P T ((81, c81) :: l) := g.add (k81 g) (plainCt_mono _) (body_of Try.func81 (c := code Try.f81) rfl (by decide))
end Go.X.W
end

section
set_option linter.unusedVariables false
set_option linter.unusedSimpArgs false
set_option linter.unusedSectionVars false
/- Warm: powers of two, sets, and contracts of functions of a block. -/
set_option linter.unusedVariables false
set_option linter.unusedSimpArgs false
set_option maxRecDepth 10000
set_option maxHeartbeats 1000000
namespace Go.X.W
open Go Go.Proofs Go.X

/-!  power -/
theorem pow_le {n : Nat} (h : n ≤ 62) : (0 : Int) < 2 ^ n ∧ (2 : Int) ^ n ≤ 4611686018427387904 := by
  constructor
  · exact Int.pow_pos (by decide)
  · have : (2 : Nat) ^ n ≤ 2 ^ 62 := Nat.pow_le_pow_right (by decide) h
    have h2 : ((2 ^ n : Nat) : Int) ≤ ((2 ^ 62 : Nat) : Int) := by exact_mod_cast this
    rw [Int.natCast_pow] at h2
    exact h2
/-!  Has, Size -/
/-- How many bits. -/
def sizeN : Nat → Nat
  | 0 => 0
  | n + 1 => (n + 1) % 2 + sizeN ((n + 1) / 2)
decreasing_by omega
theorem sizeN_pos {n : Nat} (h : 0 < n) : sizeN n = n % 2 + sizeN (n / 2) := by
  obtain ⟨m, rfl⟩ : ∃ m, n = m + 1 := ⟨n - 1, by omega⟩
  rw [sizeN]
/-! ### Readings, and blocks -/
abbrev Rd := Int × Int × Int × Int
def rdC (r : Rd) : List SV := [.si .i64 r.1, .si .i64 r.2.1, .si .i64 r.2.2.1, .si .i64 r.2.2.2]
def rdAt (get : Nat → List SV) (i : Nat) : Rd := match get i with
  | [.si .i64 a, .si .i64 b, .si .i64 c, .si .i64 d] => (a, b, c, d)
  | _ => (0, 0, 0, 0)
def Rds (n : Nat) (get : Nat → List SV) : Prop := ∀ i, i < n → get i = rdC (rdAt get i)
def rdL (n : Nat) (get : Nat → List SV) : List Rd := (List.range n).map (rdAt get)
theorem rds_rd (n : Nat) (rd : Nat → Rd) : Rds n (fun i => rdC (rd i)) := fun i hi => rfl
structure Blk where
  mark : Int
  l1 : Int
  l2 : Int
  c1 : Int
  c2 : Int
  rs : List Rd
def wA (mk l1 l2 c1 c2 : Int) (id : Nat) : SV := .agg [.si .i64 mk, .si .i64 l1, .si .i64 l2, .si .i64 c1, .si .i64 c2, .sl id]

/-- A contract of a function of a block, and of more that holds no ids. -/
def wmCt (k : Blk → List SV → Option (Option Prop × SV)) : Ct := fun _ args H =>
  match args with
  | .agg [.si .i64 mk, .si .i64 l1, .si .i64 l2, .si .i64 c1, .si .i64 c2, .sl id] :: r => (match sliceOf 4 H id with
    | some (n, get) => (match k ⟨mk, l1, l2, c1, c2, rdL n get⟩ r with
      | some (p, v) => some ⟨some (Rds n get ∧ knL 0 [] r = true ∧ PreH p), none, v, []⟩
      | none => none)
    | none => none)
  | _ => none
theorem wmCt_mono (k : Blk → List SV → Option (Option Prop × SV)) : CtMono (wmCt k) := by
  intro fr args H H' out hH h
  unfold wmCt at h ⊢
  split at h
  · split at h
    · rename_i e
      simp only [sliceOf_mono hH e]
      exact h
    · cases h
  · cases h

theorem wmWalk {C : Nat → Option Ct} {fn : Func} {c : Code} {k : Blk → List SV → Option (Option Prop × SV)} {fr : Nat} {args : List SV} {H : LH} {out : COut} (ho : wmCt k fr args H = some out) (hp : PreH out.pre)
    (h : ∀ (mk l1 l2 c1 c2 : Int) (n : Nat) (rd : Nat → Rd) (r : List SV) (p : Option Prop) (v : SV) (Rv : SV → St → Prop) (Rp : List PanicEntry → St → Prop), k ⟨mk, l1, l2, c1, c2, (List.range n).map rd⟩ r = some (p, v) → PreH p →
      (∀ v' st, SVeq v' v → knSV 0 [] v' = true → Rv v' st) → r.length + 1 ≤ fn.ntmps ∧
      ∀ G : Base, (∀ j, 1 ≤ j → G.ρ j = none) → exec ⟨P, T, C, G, none, fn.ntmps⟩ c (start (wA mk l1 l2 c1 c2 0 :: r) [(0, .ro 4 n fun i => rdC (rd i))] 1) (Fin ⟨P, T, C, G, none, fn.ntmps⟩ fn.results.toList Rv Rp)) :
    Walk P T C fn c H args fr out := by
  unfold wmCt at ho
  split at ho
  · rename_i mk l1 l2 c1 c2 id r
    split at ho
    · rename_i n get e
      split at ho
      · rename_i p v hk
        cases ho
        obtain ⟨hs, hr, hp⟩ : Rds n get ∧ knL 0 [] r = true ∧ PreH p := hp
        have hh : Hand H [(id, .ro 4 n fun i => rdC (rdAt get i))] := hand_one e (fun i => rfl) (fun i hi => (hs i hi).symm)
        have h0 := h mk l1 l2 c1 c2 n (rdAt get) r p v (fun v' st => ((none : Option (Bool × List PanicEntry)) = none ∨ ∃ ch, (none : Option (Bool × List PanicEntry)) = some (false, ch)) ∧ EndOk [(id, .ro 4 n fun i => rdC (rdAt get i))] [] fr ⟨some (Rds n get ∧ knL 0 [] r = true ∧ PreH p), none, v, []⟩ v' st)
          (fun ch st => (none : Option (Bool × List PanicEntry)) = some (true, ch) ∧ keepP st.H [(0, .ro 4 n fun i => rdC (rdAt get i))]) hk hp
          (fun v' st h1 h2 => ⟨.inl rfl, end_noid h1 h2 rfl ⟨trivial, trivial⟩⟩)
        refine ⟨[(id, .ro 4 n fun i => rdC (rdAt get i))], wA mk l1 l2 c1 c2 0 :: r, [(0, .ro 4 n fun i => rdC (rdAt get i))], 1, [], ?_, ?_, h0.1, hh, rfl, rfl, h0.2⟩
        · show _ = renSV _ _ :: renL _ r
          rw [renL_none r hr]
          rfl
        · show (match knSV 1 [] (wA mk l1 l2 c1 c2 0) with
            | true => knL 1 [] r
            | false => false) = true
          exact knL_up r hr
      · cases ho
    · cases ho
  · cases ho
/-- The walk of one with a deferred answer. -/
theorem wmWalkD {C : Nat → Option Ct} {fn : Func} {c : Code} {k : Blk → List SV → Option (Option Prop × SV)} {fr : Nat} {args : List SV} {H : LH} {out : COut} (ho : wmCt k fr args H = some out) (hp : PreH out.pre)
    (h : ∀ (mk l1 l2 c1 c2 : Int) (n : Nat) (rd : Nat → Rd) (r : List SV) (p : Option Prop) (v : SV) (Rv : SV → St → Prop), k ⟨mk, l1, l2, c1, c2, (List.range n).map rd⟩ r = some (p, v) → PreH p →
      (∀ v' st, SVeq v' v → knSV 0 [] v' = true → Rv v' st) → r.length + 1 ≤ fn.ntmps ∧
      ∀ G : Base, (∀ j, 1 ≤ j → G.ρ j = none) → exec ⟨P, T, C, G, none, fn.ntmps⟩ c (start (wA mk l1 l2 c1 c2 0 :: r) [(0, .ro 4 n fun i => rdC (rd i))] 1) (FinDM ⟨P, T, C, G, none, fn.ntmps⟩ 56 142 44 fn.results.toList Rv)) :
    WalkDM P T C 56 142 44 fn c H args fr out := by
  unfold wmCt at ho
  split at ho
  · rename_i mk l1 l2 c1 c2 id r
    split at ho
    · rename_i n get e
      split at ho
      · rename_i p v hk
        cases ho
        obtain ⟨hs, hr, hp⟩ : Rds n get ∧ knL 0 [] r = true ∧ PreH p := hp
        have hh : Hand H [(id, .ro 4 n fun i => rdC (rdAt get i))] := hand_one e (fun i => rfl) (fun i hi => (hs i hi).symm)
        have h0 := h mk l1 l2 c1 c2 n (rdAt get) r p v (fun v' st => ((none : Option (Bool × List PanicEntry)) = none ∨ ∃ ch, (none : Option (Bool × List PanicEntry)) = some (false, ch)) ∧ EndOk [(id, .ro 4 n fun i => rdC (rdAt get i))] [] fr ⟨some (Rds n get ∧ knL 0 [] r = true ∧ PreH p), none, v, []⟩ v' st)
          hk hp
          (fun v' st h1 h2 => ⟨.inl rfl, end_noid h1 h2 rfl ⟨trivial, trivial⟩⟩)
        refine ⟨[(id, .ro 4 n fun i => rdC (rdAt get i))], wA mk l1 l2 c1 c2 0 :: r, [(0, .ro 4 n fun i => rdC (rdAt get i))], 1, [], ?_, ?_, h0.1, hh, rfl, rfl, h0.2⟩
        · show _ = renSV _ _ :: renL _ r
          rw [renL_none r hr]
          rfl
        · show (match knSV 1 [] (wA mk l1 l2 c1 c2 0) with
            | true => knL 1 [] r
            | false => false) = true
          exact knL_up r hr
      · cases ho
    · cases ho
  · cases ho
end Go.X.W
end

section
set_option linter.unusedVariables false
set_option linter.unusedSimpArgs false
set_option linter.unusedSectionVars false
/- Warm: what a block shows by the document, valid blocks, and small functions of the statements. -/
set_option linter.unusedVariables false
set_option linter.unusedSimpArgs false
set_option maxRecDepth 10000
set_option maxHeartbeats 1000000
namespace Go.X.W
open Go Go.Proofs Go.X

def c17 : Ct := wmCt fun B r => match r with
  | [.agg [.si .i64 n, .si .i64 a], .si .i64 t] => some (some (smB 1000000 n ∧ smB 1000 B.mark ∧ smB 1000 a ∧ smB 1000 t), .si .i64 (showV B.mark (n, a) t))
  | _ => none
theorem k17 {l : List (Nat × Ct)} (g : Good P T l) : COk P 17 c17 := by
  refine cok (C := tabC _) g.ok Try.func17 (c := code Try.f17) rfl fun fr args H out h hp => wmWalk h hp fun mk l1 l2 c1 c2 n rd r p v Rv Rp hk hp hR => ?_
  split at hk
  · rename_i x a t
    cases hk
    obtain ⟨h0, h1, h2, h3⟩ : smB 1000000 x ∧ smB 1000 mk ∧ smB 1000 a ∧ smB 1000 t := hp
    have hma := mul_sm h1 h2 (by decide) (by decide)
    obtain ⟨hb, hg⟩ := growV_le h1 h2 h3
    have hv : showV mk (x, a) t = x + mk * a * t / 10 := rfl
    unfold smB at hb hma h0
    refine ⟨Nat.le_of_ble_eq_true rfl, fun G hG => ?_⟩
    refine Chk.mk (show _ ≤ mk * a ∧ mk * a ≤ _ from ⟨by omega, by omega⟩) (Chk.mk (show _ ≤ mk * a * t ∧ mk * a * t ≤ _ from ⟨by omega, by omega⟩) ?_)
    refine Br.mk (fun h => ?_) (fun h => ?_)
    · have h : mk * a * t < 0 := of_decide_eq_true h
      have hd : (9 - mk * a * t).tdiv 10 = (9 - mk * a * t) / 10 := Int.tdiv_eq_ediv_of_nonneg (by omega)
      refine Chk.mk (show _ ≤ 9 - mk * a * t ∧ 9 - mk * a * t ≤ _ from ⟨by omega, by omega⟩) (Chk.mk (show (10 : Int) ≠ 0 ∧ _ ≤ (9 - mk * a * t).tdiv 10 ∧ (9 - mk * a * t).tdiv 10 ≤ _ from ⟨by decide, by omega, by omega⟩)
        (Chk.mk (show _ ≤ x - (9 - mk * a * t).tdiv 10 ∧ x - (9 - mk * a * t).tdiv 10 ≤ _ from ⟨by omega, by omega⟩) (hR _ _ ⟨rfl, ?_⟩ rfl)))
      show x - (9 - mk * a * t).tdiv 10 = showV mk (x, a) t
      omega
    · have h : ¬ mk * a * t < 0 := of_decide_eq_false h
      have hd : (mk * a * t).tdiv 10 = (mk * a * t) / 10 := Int.tdiv_eq_ediv_of_nonneg (by omega)
      refine Chk.mk (show (10 : Int) ≠ 0 ∧ _ ≤ (mk * a * t).tdiv 10 ∧ (mk * a * t).tdiv 10 ≤ _ from ⟨by decide, by omega, by omega⟩)
        (Chk.mk (show _ ≤ x + (mk * a * t).tdiv 10 ∧ x + (mk * a * t).tdiv 10 ≤ _ from ⟨by omega, by omega⟩) (hR _ _ ⟨rfl, ?_⟩ rfl))
      show x + (mk * a * t).tdiv 10 = showV mk (x, a) t
      omega
  · cases hk
/-! ### Valid blocks -/
def rdOk (r : Rd) : Bool := spanB r.1 r.2.1 (-100) 100 4 && spanB r.2.2.1 r.2.2.2 (-30000) 30000 60000
def headOk (mk l1 l2 c1 c2 : Int) (n : Nat) : Bool := inB mk 1 100 && spanB l1 l2 (-1000) 1000 24 && spanB c1 c2 0 20 3 && decide ((n : Int) ≤ 5)
def blkOk (B : Blk) : Bool := headOk B.mark B.l1 B.l2 B.c1 B.c2 B.rs.length && B.rs.all rdOk
theorem blkOk_eq (mk l1 l2 c1 c2 : Int) (n : Nat) (rd : Nat → Rd) : blkOk ⟨mk, l1, l2, c1, c2, (List.range n).map rd⟩ = (headOk mk l1 l2 c1 c2 n && (List.range n).all fun i => rdOk (rd i)) := by
  simp only [blkOk, List.length_map, List.length_range, List.all_map]
  rfl
theorem all_succ {q : Nat → Bool} {i : Nat} : (List.range (i + 1)).all q = ((List.range i).all q && q i) := by
  rw [List.range_succ, List.all_append]; simp
theorem all_false {q : Nat → Bool} {i n : Nat} (h : i < n) (hq : q i = false) : (List.range n).all q = false := by
  rw [List.all_eq_false]
  exact ⟨i, List.mem_range.2 h, by rw [hq]; exact Bool.false_ne_true⟩

def c16 : Ct := wmCt fun B r => match r with
  | [] => some (none, .sb (blkOk B))
  | _ => none
theorem k16 {l : List (Nat × Ct)} (g0 : Good P T l) : COk P 16 c16 := by
  have g := g55 (g54 g0)
  refine cok (C := tabC _) g.ok Try.func16 (c := code Try.f16) rfl fun fr args H out h hp => wmWalk h hp fun mk l1 l2 c1 c2 n rd r p v Rv Rp hk hp hR => ?_
  split at hk
  · cases hk
    rw [blkOk_eq] at hR
    refine ⟨Nat.le_of_ble_eq_true rfl, fun G hG => ?_⟩
    refine Chk.mk (fun _ => ⟨by decide, by decide⟩) (Chk.mk (fun _ => ⟨by decide, by decide⟩) ?_)
    refine Br.mk (fun h => ?_) (fun h => ?_)
    · have h : headOk mk l1 l2 c1 c2 n = false := by
        have h : (!inB mk 1 100 || !spanB l1 l2 (-1000) 1000 24 || !spanB c1 c2 0 20 3 || decide ((5 : Int) < (n : Int))) = true := h
        unfold headOk
        cases h1 : inB mk 1 100 <;> cases h2 : spanB l1 l2 (-1000) 1000 24 <;> cases h3 : spanB c1 c2 0 20 3 <;> simp [h1, h2, h3] at h ⊢
        omega
      rw [h] at hR
      exact hR _ _ rfl rfl
    · have h : headOk mk l1 l2 c1 c2 n = true := by
        have h : (!inB mk 1 100 || !spanB l1 l2 (-1000) 1000 24 || !spanB c1 c2 0 20 3 || decide ((5 : Int) < (n : Int))) = false := h
        unfold headOk
        cases h1 : inB mk 1 100 <;> cases h2 : spanB l1 l2 (-1000) 1000 24 <;> cases h3 : spanB c1 c2 0 20 3 <;> simp [h1, h2, h3] at h ⊢
        omega
      rw [h, Bool.true_and] at hR
      have hn : n ≤ 5 := by
        simp only [headOk, Bool.and_eq_true, decide_eq_true_eq] at h
        omega
      refine loop_ok (g.ok _ _ _) (fun x : {i : Nat // i ≤ n ∧ ((List.range i).all fun i => rdOk (rd i)) = true} => ⟨[(1, ⟨[], .sp 1 0⟩), (3, ⟨[], .si .i64 x.1⟩)], [],
        [(0, .ro 4 n fun i => rdC (rd i)), (1, .cells 36 [.si .i64 mk, .si .i64 l1, .si .i64 l2, .si .i64 c1, .si .i64 c2, .sl 0])], 2, []⟩) (fun x => n - x.1) (fun _ j hj => hG j (by have : 2 ≤ j := hj; omega)) ⟨0, Nat.zero_le _, rfl⟩ ?_ ?_
      · refine ⟨?_, ?_, rfl, rfl, rfl⟩ <;> repeat' (first | exact trivial | exact rfl | (intro i hi; exact rfl) | refine And.intro ?_ ?_)
      · rintro ⟨i, hi, hall⟩
        refine Br.mk (fun h => ?_) (fun h => ?_)
        · have h : (i : Int) < (n : Int) := of_decide_eq_true h
          refine Chk.mk (show (0 : Int) ≤ (i : Int) ∧ (i : Int) < (n : Int) from ⟨by omega, h⟩) (Chk.mk ⟨by decide, by decide⟩ (Chk.mk (fun _ => (show (0 : Int) ≤ (i : Int) ∧ (i : Int) < (n : Int) from ⟨by omega, h⟩)) (Chk.mk (fun _ => ⟨by decide, by decide⟩) ?_)))
          have hq : (!spanB (rd i).1 (rd i).2.1 (-100) 100 4 || !spanB (rd i).2.2.1 (rd i).2.2.2 (-30000) 30000 60000) = !rdOk (rd i) := by
            rw [rdOk, Bool.not_and]
          refine Br.mk (fun h2 => ?_) (fun h2 => ?_)
          · have h2 : (!spanB (rd i).1 (rd i).2.1 (-100) 100 4 || !spanB (rd i).2.2.1 (rd i).2.2.2 (-30000) 30000 60000) = true := h2
            rw [hq] at h2
            have := all_false (q := fun i => rdOk (rd i)) (i := i) (n := n) (by omega) (by simpa using h2)
            rw [this] at hR
            exact hR _ _ rfl rfl
          · have h2 : (!spanB (rd i).1 (rd i).2.1 (-100) 100 4 || !spanB (rd i).2.2.1 (rd i).2.2.2 (-30000) 30000 60000) = false := h2
            rw [hq] at h2
            refine Chk.mk (show InK .i64 ((i : Int) + 1) from ⟨by omega, by omega⟩) ⟨⟨i + 1, by omega, by rw [all_succ, hall]; simpa using h2⟩, ?_, by show n - (i + 1) < n - i; omega⟩
            refine ⟨?_, ?_, rfl, rfl, rfl⟩ <;> repeat' (first | exact trivial | exact rfl | (intro i hi; exact rfl) | refine And.intro ?_ ?_)
        · have h : ¬ (i : Int) < (n : Int) := of_decide_eq_false h
          have hin : i = n := by omega
          subst hin
          rw [hall] at hR
          exact hR _ _ rfl rfl
  · cases hk
theorem g16 {l : List (Nat × Ct)} (g : Good P T l) : Good P T ((16, c16) :: l) := g.add (k16 g) (wmCt_mono _) (body_of Try.func16 (c := code Try.f16) rfl (by decide))
end Go.X.W
end

section
set_option linter.unusedVariables false
set_option linter.unusedSimpArgs false
set_option linter.unusedSectionVars false
/- Warm: small functions of the document and of the statements. -/
set_option linter.unusedVariables false
set_option linter.unusedSimpArgs false
set_option maxRecDepth 10000
set_option maxHeartbeats 1000000
namespace Go.X.W
open Go Go.Proofs Go.X

/-! ### every -/
/-! ### far, fine -/
/-! ### inside, span, shows, reading -/
def c41 : Ct := plainCt fun
  | [.si .i64 n, .agg [.si .i64 a, .si .i64 b]] => some ⟨none, none, .sb (inB n a b), []⟩
  | _ => none
theorem k41 {l : List (Nat × Ct)} (g : Good P T l) : COk P 41 c41 := by
  refine cok (C := tabC _) g.ok Try.func41 (c := code Try.f41) rfl fun fr args H out h hp => ?_
  simp only [c41, plainCt] at h
  split at h
  · cases h
    refine walk_plain rfl (Nat.le_of_ble_eq_true rfl) fun G hG => ?_
    exact ⟨.inl rfl, end_plain rfl rfl rfl⟩
  · cases h
theorem g41 {l : List (Nat × Ct)} (g : Good P T l) : Good P T ((41, c41) :: l) := g.add (k41 g) (plainCt_mono _) (body_of Try.func41 (c := code Try.f41) rfl (by decide))
end Go.X.W
end

section
set_option linter.unusedVariables false
set_option linter.unusedSimpArgs false
set_option linter.unusedSectionVars false
/- Warm: open; functions of a block that is looked at. -/
set_option linter.unusedVariables false
set_option linter.unusedSimpArgs false
set_option maxRecDepth 10000
set_option maxHeartbeats 1000000
namespace Go.X.W
open Go Go.Proofs Go.X

/-- The error of a block, of so many offers, and of what else is asked; 0: none. -/
def errV (B : Blk) (offers : Int) (is : Bool) : Int := if blkOk B = true then (if offers ≤ 6 then (if is = true then 0 else 2) else 3) else 1
theorem errV_zero {B : Blk} {o : Int} {is : Bool} (h : errV B o is = 0) : blkOk B = true ∧ o ≤ 6 ∧ is = true := by
  unfold errV at h
  split at h
  · rename_i h1
    split at h
    · rename_i h2
      split at h
      · rename_i h3; exact ⟨h1, h2, h3⟩
      · cases h
    · cases h
  · cases h
def bC (mk l1 l2 c1 c2 : Int) (id : Nat) : List SV := [.si .i64 mk, .si .i64 l1, .si .i64 l2, .si .i64 c1, .si .i64 c2, .sl id]
def c57 : Ct := fun fr args H =>
  match args with
  | [.agg [.si .i64 mk, .si .i64 l1, .si .i64 l2, .si .i64 c1, .si .i64 c2, .sl id], .si .i64 o, .sb is] => (match sliceOf 4 H id with
    | some (n, get) => some ⟨some (Rds n get), some (!decide (errV ⟨mk, l1, l2, c1, c2, rdL n get⟩ o is = 0), refP (errV ⟨mk, l1, l2, c1, c2, rdL n get⟩ o is)), .sp fr 0,
        [(fr, .cells 138 (bC mk l1 l2 c1 c2 id))]⟩
    | none => none)
  | _ => none
theorem c57_mono : CtMono c57 := by
  intro fr args H H' out hH h
  unfold c57 at h ⊢
  split at h
  · split at h
    · rename_i e
      simp only [sliceOf_mono hH e]
      exact h
    · cases h
  · cases h
theorem k57 {l : List (Nat × Ct)} (g0 : Good P T l) : COk P 57 c57 := by
  have g := g95 (g99 (g66 g0))
  refine cok (C := tabC _) g.ok Try.func57 (c := code Try.f57) rfl fun fr args H out h hp => ?_
  unfold c57 at h
  split at h
  · rename_i mk l1 l2 c1 c2 id o is
    split at h
    · rename_i n get e
      cases h
      have hs : Rds n get := hp
      have hh : Hand H [(id, .ro 4 n fun i => rdC (rdAt get i))] := hand_one e (fun i => rfl) (fun i hi => (hs i hi).symm)
      refine ⟨[(id, .ro 4 n fun i => rdC (rdAt get i))], [wA mk l1 l2 c1 c2 0, .si .i64 o, .sb is], [(0, .ro 4 n fun i => rdC (rdAt get i))], 1, [2], rfl, rfl, Nat.le_of_ble_eq_true rfl, hh, rfl, rfl, fun G hG => ?_⟩
      have hE : errV ⟨mk, l1, l2, c1, c2, rdL n get⟩ o is = if headOk mk l1 l2 c1 c2 n = true then (if (List.range n).all (fun i => rdOk (rdAt get i)) = true then (if o ≤ 6 then (if is = true then 0 else 2) else 3) else 1) else 1 := by
        have := blkOk_eq mk l1 l2 c1 c2 n (rdAt get)
        unfold errV
        rw [show rdL n get = (List.range n).map (rdAt get) from rfl, this]
        cases headOk mk l1 l2 c1 c2 n <;> simp
      generalize errV ⟨mk, l1, l2, c1, c2, rdL n get⟩ o is = E at hE
      generalize rdAt get = rd at hE
      refine Chk.mk (fun _ => ⟨by decide, by decide⟩) (Chk.mk (fun _ => ⟨by decide, by decide⟩) ?_)
      refine Br.mk (fun h => ?_) (fun h => ?_)
      · have h : (!headOk mk l1 l2 c1 c2 n) = true := h
        have h : headOk mk l1 l2 c1 c2 n = false := by simpa only [Bool.not_eq_true'] using h
        rw [h] at hE
        simp at hE
        subst hE
        exact ⟨rfl, trivial, trivial⟩
      · have h : (!headOk mk l1 l2 c1 c2 n) = false := h
        have h : headOk mk l1 l2 c1 c2 n = true := by simpa only [Bool.not_eq_false'] using h
        rw [h] at hE
        simp only [if_true] at hE
        have h5 : n ≤ 5 := by
          simp only [headOk, Bool.and_eq_true, decide_eq_true_eq] at h
          omega
        refine loop_ok (g.ok _ _ _) (fun x : {i : Nat // i ≤ n ∧ ((List.range i).all fun i => rdOk (rd i)) = true} => ⟨[(1, ⟨[], .si .i64 o⟩), (2, ⟨[], .sb is⟩), (3, ⟨[], .sp 1 0⟩), (30, ⟨[], .sl 0⟩), (31, ⟨[], .si .i64 n⟩), (32, ⟨[], .si .i64 x.1⟩)], [],
          [(0, .ro 4 n fun i => rdC (rd i)), (1, .cells 36 (bC mk l1 l2 c1 c2 0))], 2, []⟩) (fun x => n - x.1) (fun _ j hj => hG j (by have : 2 ≤ j := hj; omega)) ⟨0, Nat.zero_le _, rfl⟩ ?_ ?_
        · refine ⟨?_, ?_, rfl, rfl, rfl⟩ <;> repeat' (first | exact trivial | exact rfl | (intro i hi; exact rfl) | refine And.intro ?_ ?_)
        · rintro ⟨i, hi, hall⟩
          refine Br.mk (fun h1 => ?_) (fun h1 => ?_)
          · have h1 : (i : Int) < (n : Int) := of_decide_eq_true h1
            refine Chk.mk (show (0 : Int) ≤ (i : Int) ∧ (i : Int) < (n : Int) from ⟨by omega, h1⟩) (Chk.mk ⟨by decide, by decide⟩ (Chk.mk (fun _ => ⟨by decide, by decide⟩) ?_))
            refine Br.mk (fun h2 => ?_) (fun h2 => ?_)
            · have h2 : (!rdOk (rd i)) = true := h2
              have h3 := all_false (q := fun i => rdOk (rd i)) (i := i) (n := n) (by omega) (by simpa using h2)
              rw [h3] at hE
              simp at hE
              subst hE
              exact ⟨rfl, trivial, trivial⟩
            · have h2 : (!rdOk (rd i)) = false := h2
              refine Chk.mk (show InK .i64 ((i : Int) + 1) from ⟨by omega, by omega⟩) ⟨⟨i + 1, by omega, by rw [all_succ, hall]; simpa using h2⟩, ?_, by show n - (i + 1) < n - i; omega⟩
              refine ⟨?_, ?_, rfl, rfl, rfl⟩ <;> repeat' (first | exact trivial | exact rfl | (intro i hi; exact rfl) | refine And.intro ?_ ?_)
          · have h1 : ¬ (i : Int) < (n : Int) := of_decide_eq_false h1
            have hin' : i = n := by omega
            subst hin'
            rw [hall] at hE
            simp only [if_true] at hE
            refine Br.mk (fun h2 => ?_) (fun h2 => ?_)
            · have h2 : (!decide (o ≤ 6)) = true := h2
              have h2 : ¬ o ≤ 6 := by simpa using h2
              rw [if_neg h2] at hE
              subst hE
              exact ⟨rfl, trivial, trivial⟩
            · have h2 : (!decide (o ≤ 6)) = false := h2
              have h2 : o ≤ 6 := by simpa using h2
              rw [if_pos h2] at hE
              refine Br.mk (fun h3 => ?_) (fun h3 => ?_)
              · have h3 : (!is) = true := h3
                have h3 : is = false := by simpa only [Bool.not_eq_true'] using h3
                subst h3
                simp at hE
                subst hE
                exact ⟨rfl, trivial, trivial⟩
              · have h3 : (!is) = false := h3
                have h3 : is = true := by simpa only [Bool.not_eq_false'] using h3
                subst h3
                simp at hE
                subst hE
                exact ⟨.inr ⟨_, rfl⟩, ⟨⟨rfl, rfl⟩, rfl, ⟨rfl, ⟨⟨rfl, ⟨rfl, rfl⟩, ⟨rfl, rfl⟩, ⟨rfl, rfl⟩, ⟨rfl, rfl⟩, ⟨rfl, rfl⟩, rfl, trivial⟩, rfl⟩, trivial⟩, ⟨trivial, trivial⟩, rfl, rfl⟩⟩
    · cases h
  · cases h
theorem g57 {l : List (Nat × Ct)} (g : Good P T l) : Good P T ((57, c57) :: l) := g.add (k57 g) c57_mono (body_of Try.func57 (c := code Try.f57) rfl (by decide))

/-! ### Functions of a block that is looked at -/
def bkP (bid id n : Nat) (mk l1 l2 c1 c2 : Int) (rd : Nat → Rd) : List (Nat × HB) := [(bid, .cells 138 (bC mk l1 l2 c1 c2 1)), (id, .ro 4 n fun i => rdC (rd i))]
def bkH (n : Nat) (mk l1 l2 c1 c2 : Int) (rd : Nat → Rd) : List (Nat × HB) := [(0, .cells 138 (bC mk l1 l2 c1 c2 1)), (1, .ro 4 n fun i => rdC (rd i))]
theorem bkHand {H : LH} {bid id n : Nat} {mk l1 l2 c1 c2 : Int} {get : Nat → List SV} (h1 : H bid = some (.cells 138 (bC mk l1 l2 c1 c2 id))) (h2 : sliceOf 4 H id = some (n, get)) (hs : Rds n get) :
    Hand H (bkP bid id n mk l1 l2 c1 c2 (rdAt get)) where
  ok j c hb h := by
    match j, h with
    | 0, h => simp [bkP] at h; obtain ⟨rfl, rfl⟩ := h; exact h1
    | 1, h =>
      simp [bkP] at h; obtain ⟨rfl, rfl⟩ := h
      exact sliceOf_piece h2 fun i hi => by rw [hs i hi]; rfl
    | j + 2, h => simp [bkP] at h
  ids j c hb h := by
    match j, h with
    | 0, h => simp [bkP] at h; obtain ⟨rfl, rfl⟩ := h; exact ⟨trivial, trivial, trivial, trivial, trivial, (by show 1 < 2; decide), trivial⟩
    | 1, h => simp [bkP] at h; obtain ⟨rfl, rfl⟩ := h; exact fun i hi => ⟨trivial, trivial, trivial, trivial, trivial⟩
    | j + 2, h => simp [bkP] at h
  inj i j c hb hb' h1 h2 o1 o2 := by
    match i, j, h1, h2 with
    | 0, 0, _, _ => rfl
    | 1, 1, _, _ => rfl
    | 0, 1, h1, h2 => simp [bkP] at h2; obtain ⟨_, rfl⟩ := h2; cases o2
    | 1, 0, h1, h2 => simp [bkP] at h1; obtain ⟨_, rfl⟩ := h1; cases o1
    | i + 2, _, h, _ => simp [bkP] at h
    | _, j + 2, _, h => simp [bkP] at h
end Go.X.W
end

section
set_option linter.unusedVariables false
set_option linter.unusedSimpArgs false
set_option linter.unusedSectionVars false
/- Warm: warmths that are gone through; can. -/
set_option linter.unusedVariables false
set_option linter.unusedSimpArgs false
set_option maxRecDepth 10000
set_option maxHeartbeats 1000000
namespace Go.X.W
open Go Go.Proofs Go.X

/-- The numbers from one to another one. -/
def iota (a b : Int) : List Int := (List.range (b + 1 - a).toNat).map fun i : Nat => a + (i : Int)
theorem mem_iota {a b t : Int} : t ∈ iota a b ↔ a ≤ t ∧ t ≤ b := by
  simp only [iota, List.mem_map, List.mem_range]
  constructor
  · rintro ⟨i, hi, rfl⟩; omega
  · rintro ⟨h1, h2⟩; exact ⟨(t - a).toNat, by omega, by omega⟩
theorem iota_nil {a b : Int} (h : b < a) : iota a b = [] := by
  simp only [iota]
  rw [show (b + 1 - a).toNat = 0 by omega]
  rfl
theorem iota_snoc {a b : Int} (h : a ≤ b) : iota a b = iota a (b - 1) ++ [b] := by
  simp only [iota]
  obtain ⟨k, hk⟩ : ∃ k : Nat, (b + 1 - a).toNat = k + 1 := ⟨(b - a).toNat, by omega⟩
  rw [hk, show (b - 1 + 1 - a).toNat = k by omega, List.range_succ, List.map_append]
  simp only [List.map_cons, List.map_nil]
  congr 2
  omega
theorem iota_len (a b : Int) : (iota a b).length = (b + 1 - a).toNat := by simp [iota]

def hitB (mk : Int) (p : Int × Int) (r : Rd) (t : Int) : Bool := inB (showV mk p t) r.2.2.1 r.2.2.2
def canV (mk : Int) (p : Int × Int) (r : Rd) : Bool := (iota r.1 r.2.1).any (hitB mk p r)

/-! ### (anywhere).warm, (reading).warm -/
def c101 : Ct := fun fr args _ => match args with
  | [.agg [.si .i64 a, .si .i64 b], .si .i64 m, .agg [.si .i64 n, .si .i64 x]] => some ⟨none, none, .fn (.func 114) [] [.sp fr 0], [(fr, .cells 116 [.si .i64 a, .si .i64 b])]⟩
  | _ => none
theorem c101_mono : CtMono c101 := by
  intro fr args H H' out hH h
  unfold c101 at h ⊢
  exact h
theorem k101 {l : List (Nat × Ct)} (g : Good P T l) : COk P 101 c101 := by
  refine cok (C := tabC _) g.ok Try.func101 (c := code Try.f101) rfl fun fr args H out h hp => ?_
  unfold c101 at h
  split at h
  · rename_i a b m n x
    cases h
    refine ⟨[], [.agg [.si .i64 a, .si .i64 b], .si .i64 m, .agg [.si .i64 n, .si .i64 x]], [], 0, [0], rfl, rfl, Nat.le_of_ble_eq_true rfl, hand_nil H, rfl, rfl, fun G hG => ?_⟩
    exact ⟨.inl rfl, ⟨rfl, rfl, ⟨rfl, ⟨⟨rfl, ⟨rfl, rfl⟩, ⟨rfl, rfl⟩, trivial⟩, rfl⟩, trivial⟩, trivial, rfl, rfl⟩⟩
  · cases h
theorem g101 {l : List (Nat × Ct)} (g : Good P T l) : Good P T ((101, c101) :: l) := g.add (k101 g) c101_mono (body_of Try.func101 (c := code Try.f101) rfl (by decide))
def c76 : Ct := fun fr args _ => match args with
  | [.agg [.si .i64 a, .si .i64 b, .si .i64 c, .si .i64 d], .si .i64 m, .agg [.si .i64 n, .si .i64 x]] => some ⟨none, none, .fn (.func 105) [] [.sp fr 0, .sp (fr + 1) 0, .sp (fr + 2) 0],
    [(fr, .cells 118 (rdC (a, b, c, d))), (fr + 1, .cells 3 [.si .i64 m]), (fr + 2, .cells 90 [.si .i64 n, .si .i64 x])]⟩
  | _ => none
theorem c76_mono : CtMono c76 := by
  intro fr args H H' out hH h
  unfold c76 at h ⊢
  exact h
theorem k76 {l : List (Nat × Ct)} (g : Good P T l) : COk P 76 c76 := by
  refine cok (C := tabC _) g.ok Try.func76 (c := code Try.f76) rfl fun fr args H out h hp => ?_
  unfold c76 at h
  split at h
  · rename_i a b c d m n x
    cases h
    refine ⟨[], [.agg [.si .i64 a, .si .i64 b, .si .i64 c, .si .i64 d], .si .i64 m, .agg [.si .i64 n, .si .i64 x]], [], 0, [0, 1, 2], rfl, rfl, Nat.le_of_ble_eq_true rfl, hand_nil H, rfl, rfl, fun G hG => ?_⟩
    exact ⟨.inl rfl, ⟨rfl, rfl, ⟨rfl, ⟨⟨rfl, ⟨rfl, rfl⟩, ⟨rfl, rfl⟩, ⟨rfl, rfl⟩, ⟨rfl, rfl⟩, trivial⟩, rfl⟩, rfl, ⟨⟨rfl, ⟨rfl, rfl⟩, trivial⟩, rfl⟩, rfl, ⟨⟨rfl, ⟨rfl, rfl⟩, ⟨rfl, rfl⟩, trivial⟩, rfl⟩, trivial⟩, trivial, rfl, rfl⟩⟩
  · cases h
theorem g76 {l : List (Nat × Ct)} (g : Good P T l) : Good P T ((76, c76) :: l) := g.add (k76 g) c76_mono (body_of Try.func76 (c := code Try.f76) rfl (by decide))

/-! ### can -/
theorem m118 : MethOk P 118 "blockworks/warm.warm" 76 := meth_of' (by kernel_rfl)
theorem b76 : Body P 76 := body_of Try.func76 (c := code Try.f76) rfl (by decide)
theorem b105 : Body P 105 := body_of Try.func105 (c := code Try.f105) rfl (by decide)
theorem b114 : Body P 114 := body_of Try.func114 (c := code Try.f114) rfl (by decide)
def c109 : Ct := fun fr args H =>
  match args with
  | [.sp bid 0, .ifc 118 (.agg [.si .i64 a, .si .i64 b, .si .i64 c, .si .i64 d]), .agg [.si .i64 x, .si .i64 y]] => (match H bid with
    | some (.cells 138 [.si .i64 mk, .si .i64 l1, .si .i64 l2, .si .i64 c1, .si .i64 c2, .sl id]) => (match sliceOf 4 H id with
      | some (n, get) => some ⟨some (Rds n get ∧ smB 1000 mk ∧ smB 1000000 x ∧ smB 1000 y ∧ smB 1000 a ∧ smB 1000 b), none, .sb (canV mk (x, y) (a, b, c, d)), []⟩
      | none => none)
    | _ => none)
  | _ => none
theorem c109_mono : CtMono c109 := by
  intro fr args H H' out hH h
  unfold c109 at h ⊢
  split at h
  · split at h
    · rename_i e1
      rw [hH _ _ e1]
      split at h
      · rename_i e
        simp only [sliceOf_mono hH e]
        exact h
      · cases h
    · cases h
  · cases h
theorem k109 : COk P 109 c109 := by
  have g := g101 (g81 (g66 good0))
  refine cokM (C := tabC _) g.ok Try.func109 (c := code Try.f109) rfl fun fr args H out h hp => ?_
  unfold c109 at h
  split at h
  · rename_i bid a b c d x y
    split at h
    · rename_i mk l1 l2 c1 c2 id e1
      split at h
      · rename_i n get e
        cases h
        obtain ⟨hs, hmk, hx, hy, ha, hb⟩ : Rds n get ∧ smB 1000 mk ∧ smB 1000000 x ∧ smB 1000 y ∧ smB 1000 a ∧ smB 1000 b := hp
        have hh := bkHand e1 e hs
        refine ⟨bkP bid id n mk l1 l2 c1 c2 (rdAt get), [.sp 0 0, .ifc 118 (.agg [.si .i64 a, .si .i64 b, .si .i64 c, .si .i64 d]), .agg [.si .i64 x, .si .i64 y]], bkH n mk l1 l2 c1 c2 (rdAt get), 2, [], rfl, rfl, Nat.le_of_ble_eq_true rfl, hh, rfl, rfl, fun G hG => ?_⟩
        generalize rdAt get = rd
        refine drawn_ok (g.ok _ _ _) fol [0,0,2,6,14,30,0,1,129,385,1023] [] 10 (by kernel_rfl) ?_
        refine Chk.mk (by kernel_rfl) ?_
        refine fb_invoke 76 (g.ok _ _ _) cont_std rfl rfl rfl rfl rfl rfl rfl m118 b76 ?_
        refine callS_ct (k76 good0) (out := ⟨none, none, _, _⟩) rfl trivial (fun hz => ?_) (fun ch h => by cases h)
        clear hz
        refine rangeFunc_ok (g.ok _ _ _) rfl rfl rfl b105 ?_
        intro fn
        refine callS_execM g.ok Try.func105 (c := code Try.f105) rfl (Nat.le_of_ble_eq_true rfl) fun G2 hG2 => ?_
        refine rangeFunc_ok (g.ok _ _ _) rfl rfl rfl b114 ?_
        intro fn2
        refine callS_exec g.ok Try.func114 (c := code Try.f114) rfl (Nat.le_of_ble_eq_true rfl) fun G3 hG3 => ?_
        have hit : ∀ t, hitB mk (x, y) (a, b, c, d) t = inB (showV mk (x, y) t) c d := fun t => rfl
        unfold smB at ha hb
        have hab : a ≤ b + 1 ∨ b + 1 < a := by omega
        refine loop_okR (g.ok _ _ _) 57 (fun z : {t : Int // a ≤ t ∧ (t ≤ b + 1 ∨ t = a) ∧ ∀ u, a ≤ u → u < t → hitB mk (x, y) (a, b, c, d) u = false} => ⟨[(0, ⟨[], .fy 56⟩), (1, ⟨[], .sp 51 0⟩), (3, ⟨[], .si .i64 z.1⟩)], [],
          [(56, .loop [(1, .sp 44 0), (2, .sp 45 0), (3, .sp 46 0), (4, .sp 50 0)] Try.f105.ntmps fn2 [11] (rfA (code Try.f105)) (rfB (code Try.f105)) 55 .ready none), (55, .dfr), (51, .cells 116 [.si .i64 a, .si .i64 b]), (50, .cells 75 [.fy 49]),
           (49, .loop [(6, .sp 3 0)] Try.f109.ntmps fn [18] (rfA (code Try.f109)) (rfB (code Try.f109)) 48 .ready none), (48, .dfr), (44, .cells 118 (rdC (a, b, c, d))), (45, .cells 3 [.si .i64 mk]), (46, .cells 90 [.si .i64 x, .si .i64 y]), (3, .cells 4 [.sb false])] ++ bkH n mk l1 l2 c1 c2 rd, 57, []⟩)
          (fun z => (b + 1 - z.1).toNat) hG3 ⟨a, by omega, .inr rfl, fun u h1 h2 => by omega⟩ (fun j => j) ?_ ?_
        · refine ⟨?_, ?_, rfl, rfl, rfl, rfl, trivial⟩
          · repeat' (first | exact trivial | exact rfl | refine And.intro ?_ ?_)
          · repeat' (first | exact trivial | exact rfl | (intro i hi; exact ⟨rfl, rfl⟩) | refine allV_find ?_ | refine And.intro ?_ ?_)
        · rintro ⟨t, h1, h2, h3⟩
          refine Br.mk (fun h => ?_) (fun h => ?_)
          · replace h : t ≤ b := of_decide_eq_true h
            refine fb_yield 56 g.ok (g.ok _ _ _) cont_std rfl rfl rfl rfl rfl rfl rfl rfl rfl (by decide) ?_
            intro G4 r hG4
            refine drawn_ok (g.ok _ _ _) fol [0,0,0,7,0,16,48,0,128,384,1023,2047] [] 12 (by kernel_rfl) ?_
            refine Chk.mk ⟨hx, hmk, hy, ⟨(show -1000 ≤ t by omega), (show t ≤ 1000 by omega)⟩⟩ ?_
            refine Br.mk (fun hq => ?_) (fun hq => ?_)
            · have hq : (!hitB mk (x, y) (a, b, c, d) t) = true := hq
              refine Br.mk (fun h => by cases h) (fun _ => ?_)
              refine Chk.mk (show InK .i64 (t + 1) from ⟨by omega, by omega⟩) ⟨⟨t + 1, by omega, .inl (by omega), fun u hu1 hu2 => ?_⟩, (fun j => j), ?_, ?_⟩
              · rcases Int.lt_or_eq_of_le (show u ≤ t by omega) with h | h
                · exact h3 u hu1 h
                · subst h; simpa using hq
              · refine ⟨?_, ?_, rfl, rfl, rfl, rfl, trivial⟩
                · repeat' (first | exact trivial | exact rfl | refine And.intro ?_ ?_)
                · repeat' (first | exact trivial | exact rfl | (intro i hi; exact ⟨rfl, rfl⟩) | refine allV_find ?_ | refine And.intro ?_ ?_)
              · show (b + 1 - (t + 1)).toNat < (b + 1 - t).toNat
                omega
            · have hq : (!hitB mk (x, y) (a, b, c, d) t) = false := hq
              have hcan : canV mk (x, y) (a, b, c, d) = true := by
                rw [canV, List.any_eq_true]
                exact ⟨t, mem_iota.2 ⟨h1, h⟩, by simpa using hq⟩
              refine fb_yield 49 g.ok (g.ok _ _ _) cont_std rfl rfl rfl rfl rfl rfl rfl rfl rfl (by decide) ?_
              intro G5 r5 hG5
              refine Br.mk (fun _ => ?_) (fun h => by cases h)
              refine Br.mk (fun _ => ?_) (fun h => by cases h)
              rw [hcan]
              exact ⟨.inl rfl, end_noid rfl rfl rfl ⟨⟨rfl, ⟨rfl, rfl⟩, ⟨rfl, rfl⟩, ⟨rfl, rfl⟩, ⟨rfl, rfl⟩, ⟨rfl, rfl⟩, rfl, trivial⟩, trivial, trivial⟩⟩
          · replace h : ¬ t ≤ b := of_decide_eq_false h
            have hcan : canV mk (x, y) (a, b, c, d) = false := by
              rw [canV, List.any_eq_false]
              intro u hu
              obtain ⟨u1, u2⟩ := mem_iota.1 hu
              have u2 : u ≤ b := u2
              rw [h3 u u1 (by omega)]
              exact Bool.false_ne_true
            rw [hcan]
            exact ⟨.inl rfl, end_noid rfl rfl rfl ⟨⟨rfl, ⟨rfl, rfl⟩, ⟨rfl, rfl⟩, ⟨rfl, rfl⟩, ⟨rfl, rfl⟩, ⟨rfl, rfl⟩, rfl, trivial⟩, trivial, trivial⟩⟩
      · cases h
    · cases h
  · cases h
theorem g109 {l : List (Nat × Ct)} (g : Good P T l) : Good P T ((109, c109) :: l) := g.add k109 c109_mono (body_of Try.func109 (c := code Try.f109) rfl (by decide))
end Go.X.W
end

section
set_option linter.unusedVariables false
set_option linter.unusedSimpArgs false
set_option linter.unusedSectionVars false
/- Warm: readings that are looked at; whether none of them clashes with a pair. -/
set_option linter.unusedVariables false
set_option linter.unusedSimpArgs false
set_option maxRecDepth 10000
set_option maxHeartbeats 1000000
namespace Go.X.W
open Go Go.Proofs Go.X

/-! ### readings -/
def c74 : Ct := fun fr args H =>
  match args with
  | [.sp bid 0] => (match H bid with
    | some (.cells 138 [.si .i64 mk, .si .i64 l1, .si .i64 l2, .si .i64 c1, .si .i64 c2, .sl id]) => (match sliceOf 4 H id with
      | some (n, get) => some ⟨some (Rds n get ∧ n ≤ 40), none, .sl fr, [(fr, .ro 4 n fun i => rdC (rdAt get i))]⟩
      | none => none)
    | _ => none)
  | _ => none
theorem c74_mono : CtMono c74 := by
  intro fr args H H' out hH h
  unfold c74 at h ⊢
  split at h
  · split at h
    · rename_i e1
      rw [hH _ _ e1]
      split at h
      · rename_i e
        simp only [sliceOf_mono hH e]
        exact h
      · cases h
    · cases h
  · cases h
theorem k74 {l : List (Nat × Ct)} (g : Good P T l) : COk P 74 c74 := by
  refine cok (C := tabC _) g.ok Try.func74 (c := code Try.f74) rfl fun fr args H out h hp => ?_
  unfold c74 at h
  split at h
  · rename_i bid
    split at h
    · rename_i mk l1 l2 c1 c2 id e1
      split at h
      · rename_i n get e
        cases h
        obtain ⟨hs, hn⟩ : Rds n get ∧ n ≤ 40 := hp
        have hh := bkHand e1 e hs
        refine ⟨bkP bid id n mk l1 l2 c1 c2 (rdAt get), [.sp 0 0], bkH n mk l1 l2 c1 c2 (rdAt get), 2, [2], rfl, rfl, Nat.le_of_ble_eq_true rfl, hh, rfl, rfl, fun G hG => ?_⟩
        generalize rdAt get = rd
        refine nil_slot 2 118 4 (fun i => rdC (rd i)) rfl ?_
        refine loop_okR (g.ok _ _ _) 2 (fun x : {i : Nat // i ≤ n} => ⟨[(0, ⟨[], .sp 0 0⟩), (2, ⟨[], .sl 2⟩), (9, ⟨[], .sl 1⟩), (10, ⟨[], .si .i64 n⟩), (11, ⟨[], .si .i64 x.1⟩)], [],
          (2, .vec 118 4 x.1 (fun i => rdC (rd i))) :: bkH n mk l1 l2 c1 c2 rd, 3, []⟩) (fun x => n - x.1) hG ⟨0, Nat.zero_le _⟩ (fun j => j) ?_ ?_
        · refine ⟨?_, ?_, rfl, rfl, rfl, rfl, trivial⟩
          · repeat' (first | exact trivial | exact rfl | refine And.intro ?_ ?_)
          · repeat' (first | exact trivial | exact rfl | (intro i hi; exact ⟨rfl, rfl⟩) | refine And.intro ?_ ?_)
        · rintro ⟨i, hi⟩
          refine Br.mk (fun h => ?_) (fun h => ?_)
          · have h : (i : Int) < (n : Int) := of_decide_eq_true h
            refine Chk.mk (show (0 : Int) ≤ (i : Int) ∧ (i : Int) < (n : Int) from ⟨by omega, h⟩) ?_
            refine fb_append (Te := 0) 2 4 i 1 _ _ (fun i => rdC (rd i)) (g.ok _ _ _) cont_std rfl rfl rfl rfl rfl rfl rfl rfl rfl rfl rfl rfl (by decide) (by decide) rfl rfl rfl rfl ?_ ?_ ?_
            · omega
            · intro j hj
              split
              · rfl
              · have : j = i := by omega
                subst this
                rw [Nat.sub_self]
                rfl
            · refine Chk.mk (show InK .i64 ((i : Int) + 1) from ⟨by omega, by omega⟩) ⟨⟨i + 1, by omega⟩, (fun j => if j = 2 then 5 else j), ?_, by show n - (i + 1) < n - i; omega⟩
              refine ⟨?_, ?_, rfl, rfl, rfl, rfl, trivial⟩
              · repeat' (first | exact trivial | exact rfl | refine And.intro ?_ ?_)
              · repeat' (first | exact trivial | exact rfl | (intro i hi; exact ⟨rfl, rfl⟩) | refine And.intro ?_ ?_)
          · have h : ¬ (i : Int) < (n : Int) := of_decide_eq_false h
            have hin : i = n := by omega
            subst hin
            exact ⟨.inl rfl, ⟨rfl, rfl, ⟨rfl, ⟨rfl, rfl, fun i hi => ⟨rfl, rfl⟩⟩, trivial⟩, ⟨⟨rfl, ⟨rfl, rfl⟩, ⟨rfl, rfl⟩, ⟨rfl, rfl⟩, ⟨rfl, rfl⟩, ⟨rfl, rfl⟩, rfl, trivial⟩, trivial, trivial⟩, rfl, rfl⟩⟩
      · cases h
    · cases h
  · cases h
theorem g74 {l : List (Nat × Ct)} (g : Good P T l) : Good P T ((74, c74) :: l) := g.add (k74 g) c74_mono (body_of Try.func74 (c := code Try.f74) rfl (by decide))

/-! ### Does a reading clash with a pair? -/
/-- The pieces of the closure that asks. -/
def askP (bx bid id px n : Nat) (mk l1 l2 c1 c2 x y : Int) (rd : Nat → Rd) : List (Nat × HB) :=
  [(bx, .cells 86 [.sp 1 0]), (bid, .cells 138 (bC mk l1 l2 c1 c2 2)), (id, .ro 4 n fun i => rdC (rd i)), (px, .cells 90 [.si .i64 x, .si .i64 y])]
def askQ (n : Nat) (get : Nat → List SV) (mk x y : Int) (r : Rd) : Prop := Rds n get ∧ smB 1000 mk ∧ smB 1000000 x ∧ smB 1000 y ∧ smB 1000 r.1 ∧ smB 1000 r.2.1
def c108 : Ct := fun fr args H =>
  match args with
  | [.agg [.si .i64 a, .si .i64 b, .si .i64 c, .si .i64 d], .sp bx 0, .sp px 0] => (match H bx, H px with
    | some (.cells 86 [.sp bid 0]), some (.cells 90 [.si .i64 x, .si .i64 y]) => (match H bid with
      | some (.cells 138 [.si .i64 mk, .si .i64 l1, .si .i64 l2, .si .i64 c1, .si .i64 c2, .sl id]) => (match sliceOf 4 H id with
        | some (n, get) => some ⟨some (askQ n get mk x y (a, b, c, d)), none, .sb (!canV mk (x, y) (a, b, c, d)), []⟩
        | none => none)
      | _ => none)
    | _, _ => none)
  | _ => none
theorem c108_mono : CtMono c108 := by
  intro fr args H H' out hH h
  unfold c108 at h ⊢
  split at h
  · split at h
    · rename_i e1 e2
      split at h
      · rename_i e3
        split at h
        · rename_i e
          simp only [hH _ _ e1, hH _ _ e2, hH _ _ e3, sliceOf_mono hH e]
          exact h
        · cases h
      · cases h
    · cases h
  · cases h
theorem k108 {l : List (Nat × Ct)} (g0 : Good P T l) : COk P 108 c108 := by
  have g := g109 g0
  refine cok (C := tabC _) g.ok Try.func108 (c := code Try.f108) rfl fun fr args H out h hp => ?_
  unfold c108 at h
  split at h
  · rename_i a b c d bx px
    split at h
    · rename_i bid x y e1 e2
      split at h
      · rename_i mk l1 l2 c1 c2 id e3
        split at h
        · rename_i n get e
          cases h
          obtain ⟨hs, hmk, hx, hy, ha, hb⟩ : askQ n get mk x y (a, b, c, d) := hp
          have hh : Hand H (askP bx bid id px n mk l1 l2 c1 c2 x y (rdAt get)) := hand_mk ⟨e1, e3, sliceOf_piece e fun i hi => by rw [hs i hi]; rfl, e2, trivial⟩
            (by repeat' (first | exact trivial | (intro i hi; exact ⟨trivial, trivial, trivial, trivial, trivial⟩) | refine And.intro ?_ ?_ | exact (by decide : (1 : Nat) < 4) | exact (by decide : (2 : Nat) < 4))) rfl
          refine ⟨askP bx bid id px n mk l1 l2 c1 c2 x y (rdAt get), [.agg [.si .i64 a, .si .i64 b, .si .i64 c, .si .i64 d], .sp 0 0, .sp 3 0], _, 4, [], rfl, rfl, Nat.le_of_ble_eq_true rfl, hh, rfl, rfl, fun G hG => ?_⟩
          generalize rdAt get = rd
          refine Chk.mk ⟨rds_rd _ _, hmk, hx, hy, ha, hb⟩ ?_
          exact ⟨.inl rfl, end_noid rfl rfl rfl ⟨⟨rfl, ⟨rfl, rfl⟩, trivial⟩, ⟨rfl, ⟨rfl, rfl⟩, ⟨rfl, rfl⟩, ⟨rfl, rfl⟩, ⟨rfl, rfl⟩, ⟨rfl, rfl⟩, rfl, trivial⟩, trivial, ⟨rfl, ⟨rfl, rfl⟩, ⟨rfl, rfl⟩, trivial⟩, trivial⟩⟩
        · cases h
      · cases h
    · cases h
  · cases h
theorem g108 {l : List (Nat × Ct)} (g : Good P T l) : Good P T ((108, c108) :: l) := g.add (k108 g) c108_mono (body_of Try.func108 (c := code Try.f108) rfl (by decide))
end Go.X.W
end

section
set_option linter.unusedVariables false
set_option linter.unusedSimpArgs false
set_option linter.unusedSectionVars false
/- Warm: does any reading clash with a pair: the library's functions. -/
set_option linter.unusedVariables false
set_option linter.unusedSimpArgs false
set_option maxRecDepth 10000
set_option maxHeartbeats 1000000
namespace Go.X.W
open Go Go.Proofs Go.X

/-- The first number of which something is so; -1: of none. -/
def idxV (q : Nat → Bool) (n : Nat) : Int := match (List.range n).find? q with
  | some i => i
  | none => -1
theorem idxV_none {q : Nat → Bool} {n : Nat} (h : ∀ i, i < n → q i = false) : idxV q n = -1 := by
  unfold idxV
  rw [List.find?_eq_none.2]
  intro x hx
  rw [h x (List.mem_range.1 hx)]
  exact Bool.false_ne_true
theorem range_split {i n : Nat} (h : i ≤ n) : List.range n = List.range i ++ (List.range (n - i)).map (· + i) := by
  have : n = i + (n - i) := by omega
  rw [this, List.range_add]
  simp [Nat.add_comm]
theorem idxV_some {q : Nat → Bool} {n i : Nat} (hi : i < n) (hq : q i = true) (h : ∀ j, j < i → q j = false) : idxV q n = i := by
  unfold idxV
  have : (List.range n).find? q = some i := by
    rw [range_split (Nat.le_of_lt hi), List.find?_append]
    rw [List.find?_eq_none.2 (fun x hx => by rw [h x (List.mem_range.1 hx)]; exact Bool.false_ne_true)]
    obtain ⟨k, hk⟩ : ∃ k, n - i = k + 1 := ⟨n - i - 1, by omega⟩
    rw [hk, List.range_succ_eq_map]
    simp [List.find?_cons, hq]
  rw [this]
theorem idxV_any {q : Nat → Bool} {n : Nat} : decide (0 ≤ idxV q n) = (List.range n).any q := by
  cases h : (List.range n).any q with
  | false =>
    rw [List.any_eq_false] at h
    rw [idxV_none (fun i hi => by simpa using h i (List.mem_range.2 hi))]
    decide
  | true =>
    rw [List.any_eq_true] at h
    unfold idxV
    cases e : (List.range n).find? q with
    | some i => simp
    | none =>
      rw [List.find?_eq_none] at e
      obtain ⟨x, h1, h2⟩ := h
      exact absurd h2 (e x h1)

def allQ (m : Nat) (g2 : Nat → List SV) (n : Nat) (get : Nat → List SV) (mk x y : Int) : Prop := Rds m g2 ∧ Rds n get ∧ smB 1000 mk ∧ smB 1000000 x ∧ smB 1000 y ∧ m ≤ 40 ∧ ∀ i, i < m → smB 1000 (rdAt g2 i).1 ∧ smB 1000 (rdAt g2 i).2.1
def getCt (k : (Nat → Bool) → Nat → SV) : Ct := fun fr args H =>
  match args with
  | [.sl lid, .fn (.func 108) [] [.sp bx 0, .sp px 0]] => (match sliceOf 4 H lid, H bx, H px with
    | some (m, g2), some (.cells 86 [.sp bid 0]), some (.cells 90 [.si .i64 x, .si .i64 y]) => (match H bid with
      | some (.cells 138 [.si .i64 mk, .si .i64 l1, .si .i64 l2, .si .i64 c1, .si .i64 c2, .sl id]) => (match sliceOf 4 H id with
        | some (n, get) => some ⟨some (allQ m g2 n get mk x y), none, k (fun i => !canV mk (x, y) (rdAt g2 i)) m, []⟩
        | none => none)
      | _ => none)
    | _, _, _ => none)
  | _ => none
theorem getCt_mono (k : (Nat → Bool) → Nat → SV) : CtMono (getCt k) := by
  intro fr args H H' out hH h
  unfold getCt at h ⊢
  split at h
  · split at h
    · rename_i e0 e1 e2
      split at h
      · rename_i e3
        split at h
        · rename_i e
          simp only [sliceOf_mono hH e0, hH _ _ e1, hH _ _ e2, hH _ _ e3, sliceOf_mono hH e]
          exact h
        · cases h
      · cases h
    · cases h
  · cases h
def getP (lid m bx bid id px n : Nat) (mk l1 l2 c1 c2 x y : Int) (r2 rd : Nat → Rd) : List (Nat × HB) :=
  [(lid, .ro 4 m fun i => rdC (r2 i)), (bx, .cells 86 [.sp 2 0]), (bid, .cells 138 (bC mk l1 l2 c1 c2 3)), (id, .ro 4 n fun i => rdC (rd i)), (px, .cells 90 [.si .i64 x, .si .i64 y])]
def getH (m n : Nat) (mk l1 l2 c1 c2 x y : Int) (r2 rd : Nat → Rd) : List (Nat × HB) :=
  [(0, .ro 4 m fun i => rdC (r2 i)), (1, .cells 86 [.sp 2 0]), (2, .cells 138 (bC mk l1 l2 c1 c2 3)), (3, .ro 4 n fun i => rdC (rd i)), (4, .cells 90 [.si .i64 x, .si .i64 y])]
theorem getWalk {C : Nat → Option Ct} {fn : Func} {c : Code} {k : (Nat → Bool) → Nat → SV} {fr : Nat} {args : List SV} {H : LH} {out : COut} (hk : ∀ q m, knSV 0 [] (k q m) = true) (ho : getCt k fr args H = some out) (hp : PreH out.pre)
    (hl : 2 ≤ fn.ntmps)
    (h : ∀ (m n : Nat) (mk l1 l2 c1 c2 x y : Int) (r2 rd : Nat → Rd) (Rv : SV → St → Prop) (Rp : List PanicEntry → St → Prop), smB 1000 mk → smB 1000000 x → smB 1000 y → m ≤ 40 → (∀ i, i < m → smB 1000 (r2 i).1 ∧ smB 1000 (r2 i).2.1) →
      (∀ v' st, SVeq v' (k (fun i => !canV mk (x, y) (r2 i)) m) → keepP st.H (getH m n mk l1 l2 c1 c2 x y r2 rd) → knSV 0 [] v' = true → Rv v' st) →
      ∀ G : Base, (∀ j, 5 ≤ j → G.ρ j = none) → exec ⟨P, T, C, G, none, fn.ntmps⟩ c (start [.sl 0, .fn (.func 108) [] [.sp 1 0, .sp 4 0]] (getH m n mk l1 l2 c1 c2 x y r2 rd) 5) (Fin ⟨P, T, C, G, none, fn.ntmps⟩ fn.results.toList Rv Rp)) :
    Walk P T C fn c H args fr out := by
  unfold getCt at ho
  split at ho
  · rename_i lid bx px
    split at ho
    · rename_i m g2 bid x y e0 e1 e2
      split at ho
      · rename_i mk l1 l2 c1 c2 id e3
        split at ho
        · rename_i n get e
          cases ho
          obtain ⟨hs2, hs, hmk, hx, hy, hm, hr⟩ : allQ m g2 n get mk x y := hp
          have hh : Hand H (getP lid m bx bid id px n mk l1 l2 c1 c2 x y (rdAt g2) (rdAt get)) := hand_mk ⟨sliceOf_piece e0 fun i hi => by rw [hs2 i hi]; rfl, e1, e3, sliceOf_piece e fun i hi => by rw [hs i hi]; rfl, e2, trivial⟩
            (by repeat' (first | exact trivial | (intro i hi; exact ⟨trivial, trivial, trivial, trivial, trivial⟩) | refine And.intro ?_ ?_ | exact (by decide : (2 : Nat) < 5) | exact (by decide : (3 : Nat) < 5))) rfl
          refine ⟨getP lid m bx bid id px n mk l1 l2 c1 c2 x y (rdAt g2) (rdAt get), [.sl 0, .fn (.func 108) [] [.sp 1 0, .sp 4 0]], _, 5, [], rfl, rfl, hl, hh, rfl, rfl, ?_⟩
          exact h m n mk l1 l2 c1 c2 x y (rdAt g2) (rdAt get) _ _ hmk hx hy hm hr (fun v' st h1 h2 h3 => ⟨.inl rfl, end_noid h1 h3 rfl h2⟩)
        · cases ho
      · cases ho
    · cases ho
  · cases ho

def c118 : Ct := getCt fun q m => .si .i64 (idxV q m)
theorem k118 {l : List (Nat × Ct)} (g0 : Good P T l) : COk P 118 c118 := by
  have g := g108 g0
  refine cok (C := tabC _) g.ok Try.func118 (c := code Try.f118) rfl fun fr args H out h hp => getWalk (fun _ _ => rfl) h hp (Nat.le_of_ble_eq_true rfl) fun m n mk l1 l2 c1 c2 x y r2 rd Rv Rp hmk hx hy hm hr hR G hG => ?_
  refine loop_ok (g.ok _ _ _) (fun z : {i : Nat // i ≤ m ∧ ∀ j, j < i → (!canV mk (x, y) (r2 j)) = false} => ⟨[(0, ⟨[], .sl 0⟩), (1, ⟨[], .fn (.func 108) [] [.sp 1 0, .sp 4 0]⟩), (7, ⟨[], .si .i64 m⟩), (8, ⟨[], .si .i64 z.1⟩)], [], getH m n mk l1 l2 c1 c2 x y r2 rd, 5, []⟩)
    (fun z => m - z.1) (fun _ j hj => hG j hj) ⟨0, Nat.zero_le _, fun j hj => by omega⟩ ?_ ?_
  · refine ⟨?_, ?_, rfl, rfl, rfl⟩ <;> repeat' (first | exact trivial | exact rfl | (intro i hi; exact rfl) | refine And.intro ?_ ?_)
  · rintro ⟨i, hi, hall⟩
    refine Br.mk (fun h => ?_) (fun h => ?_)
    · have h : (i : Int) < (m : Int) := of_decide_eq_true h
      have hri := hr i (by omega)
      refine Chk.mk (show (0 : Int) ≤ (i : Int) ∧ (i : Int) < (m : Int) from ⟨by omega, h⟩) (Chk.mk ⟨rds_rd _ _, hmk, hx, hy, hri.1, hri.2⟩ ?_)
      refine Br.mk (fun h2 => ?_) (fun h2 => ?_)
      · have h2 : (!canV mk (x, y) (r2 i)) = true := h2
        have e := idxV_some (q := fun i => !canV mk (x, y) (r2 i)) (n := m) (by omega) h2 hall
        refine hR _ _ ⟨rfl, e.symm⟩ ?_ rfl
        repeat' (first | exact trivial | exact rfl | refine And.intro ?_ ?_)
      · have h2 : (!canV mk (x, y) (r2 i)) = false := h2
        refine Chk.mk (show InK .i64 ((i : Int) + 1) from ⟨by omega, by omega⟩) ⟨⟨i + 1, by omega, fun j hj => ?_⟩, ?_, by show m - (i + 1) < m - i; omega⟩
        · rcases Nat.lt_or_eq_of_le (show j ≤ i by omega) with h | h
          · exact hall j h
          · subst h; exact h2
        · refine ⟨?_, ?_, rfl, rfl, rfl⟩ <;> repeat' (first | exact trivial | exact rfl | (intro i hi; exact rfl) | refine And.intro ?_ ?_)
    · have h : ¬ (i : Int) < (m : Int) := of_decide_eq_false h
      have e := idxV_none (q := fun i => !canV mk (x, y) (r2 i)) (n := m) (fun j hj => hall j (by omega))
      refine hR _ _ ⟨rfl, e.symm⟩ ?_ rfl
      repeat' (first | exact trivial | exact rfl | refine And.intro ?_ ?_)
theorem g118 {l : List (Nat × Ct)} (g : Good P T l) : Good P T ((118, c118) :: l) := g.add (k118 g) (getCt_mono _) (body_of Try.func118 (c := code Try.f118) rfl (by decide))
def c107 : Ct := getCt fun q m => .sb ((List.range m).any q)
theorem k107 {l : List (Nat × Ct)} (g0 : Good P T l) : COk P 107 c107 := by
  have g := g118 g0
  refine cok (C := tabC _) g.ok Try.func107 (c := code Try.f107) rfl fun fr args H out h hp => getWalk (fun _ _ => rfl) h hp (Nat.le_of_ble_eq_true rfl) fun m n mk l1 l2 c1 c2 x y r2 rd Rv Rp hmk hx hy hm hr hR G hG => ?_
  refine Chk.mk ⟨rds_rd _ _, rds_rd _ _, hmk, hx, hy, hm, hr⟩ (hR _ _ idxV_any ?_ rfl)
  repeat' (first | exact trivial | exact rfl | refine And.intro ?_ ?_)
theorem g107 {l : List (Nat × Ct)} (g : Good P T l) : Good P T ((107, c107) :: l) := g.add (k107 g) (getCt_mono _) (body_of Try.func107 (c := code Try.f107) rfl (by decide))
end Go.X.W
end

section
set_option linter.unusedVariables false
set_option linter.unusedSimpArgs false
set_option linter.unusedSectionVars false
/- Warm: all pairs, plainly; pairs as keys of maps. -/
set_option linter.unusedVariables false
set_option linter.unusedSimpArgs false
set_option maxRecDepth 10000
set_option maxHeartbeats 1000000
namespace Go.X.W
open Go Go.Proofs Go.X

abbrev Pr := Int × Int
def row (q : Pr → Bool) (n c1 a : Int) : List Pr := ((iota c1 (a - 1)).map fun a => (n, a)).filter q
/-- The pairs that come before a row. -/
def rows (q : Pr → Bool) (l1 c1 c2 n : Int) : List Pr := (iota l1 (n - 1)).flatMap fun n => row q n c1 (c2 + 1)
def okP (mk : Int) (rs : List Rd) (p : Pr) : Bool := rs.all (canV mk p)
/-- All pairs. -/
def pairsV (B : Blk) : List Pr := rows (okP B.mark B.rs) B.l1 B.c1 B.c2 (B.l2 + 1)

theorem row_first (q : Pr → Bool) (n c1 : Int) : row q n c1 c1 = [] := by
  unfold row
  rw [iota_nil (by omega)]
  rfl
theorem row_next {q : Pr → Bool} {n c1 a : Int} (h : c1 ≤ a) : row q n c1 (a + 1) = row q n c1 a ++ (if q (n, a) = true then [(n, a)] else []) := by
  unfold row
  rw [show a + 1 - 1 = a by omega, iota_snoc h, List.map_append, List.filter_append]
  congr 1
  simp only [List.map_cons, List.map_nil, List.filter_cons, List.filter_nil]
theorem rows_first (q : Pr → Bool) (l1 c1 c2 : Int) : rows q l1 c1 c2 l1 = [] := by
  unfold rows
  rw [iota_nil (by omega)]
  rfl
theorem rows_next {q : Pr → Bool} {l1 c1 c2 n : Int} (h : l1 ≤ n) : rows q l1 c1 c2 (n + 1) = rows q l1 c1 c2 n ++ row q n c1 (c2 + 1) := by
  unfold rows
  rw [show n + 1 - 1 = n by omega, iota_snoc h, List.flatMap_append]
  simp
theorem row_len (q : Pr → Bool) (n c1 a : Int) : (row q n c1 a).length ≤ (a - c1).toNat := by
  unfold row
  refine Nat.le_trans (List.length_filter_le _ _) ?_
  rw [List.length_map, iota_len]
  omega
theorem rows_len (q : Pr → Bool) (l1 c1 c2 : Int) (hc : c2 - c1 ≤ 3) : ∀ (k : Nat), (rows q l1 c1 c2 (l1 + k)).length ≤ 4 * k
  | 0 => by rw [Int.natCast_zero, Int.add_zero, rows_first]; simp
  | k + 1 => by
    rw [show l1 + ((k + 1 : Nat) : Int) = l1 + k + 1 by push_cast; omega, rows_next (by omega), List.length_append]
    have h1 := rows_len q l1 c1 c2 hc k
    have h2 := row_len q (l1 + k) c1 (c2 + 1)
    omega
theorem row_mem {q : Pr → Bool} {n c1 a : Int} {p : Pr} : p ∈ row q n c1 a ↔ (p.1 = n ∧ c1 ≤ p.2 ∧ p.2 < a) ∧ q p = true := by
  unfold row
  rw [List.mem_filter, List.mem_map]
  constructor
  · rintro ⟨⟨x, hx, rfl⟩, h2⟩
    have := mem_iota.1 hx
    exact ⟨⟨rfl, this.1, by show x < a; omega⟩, h2⟩
  · rintro ⟨⟨h1, h2, h3⟩, h4⟩
    exact ⟨⟨p.2, mem_iota.2 ⟨h2, by omega⟩, by rw [← h1]⟩, h4⟩
theorem rows_mem {q : Pr → Bool} {l1 c1 c2 n : Int} {p : Pr} : p ∈ rows q l1 c1 c2 n ↔ (l1 ≤ p.1 ∧ p.1 < n ∧ c1 ≤ p.2 ∧ p.2 ≤ c2) ∧ q p = true := by
  unfold rows
  rw [List.mem_flatMap]
  constructor
  · rintro ⟨m, hm, h⟩
    have h1 := mem_iota.1 hm
    obtain ⟨⟨h2, h3, h4⟩, h5⟩ := row_mem.1 h
    exact ⟨⟨by omega, by omega, h3, by omega⟩, h5⟩
  · rintro ⟨⟨h1, h2, h3, h4⟩, h5⟩
    exact ⟨p.1, mem_iota.2 ⟨h1, by omega⟩, row_mem.2 ⟨⟨rfl, h3, by omega⟩, h5⟩⟩
theorem pairs_mem {B : Blk} {p : Pr} : p ∈ pairsV B ↔ (B.l1 ≤ p.1 ∧ p.1 ≤ B.l2 ∧ B.c1 ≤ p.2 ∧ p.2 ≤ B.c2) ∧ okP B.mark B.rs p = true := by
  unfold pairsV
  rw [rows_mem]
  constructor
  · rintro ⟨⟨h1, h2, h3, h4⟩, h5⟩; exact ⟨⟨h1, by omega, h3, h4⟩, h5⟩
  · rintro ⟨⟨h1, h2, h3, h4⟩, h5⟩; exact ⟨⟨h1, by omega, h3, h4⟩, h5⟩
theorem nodup_map {α β : Type} {f : α → β} {l : List α} (h : l.Nodup) (hf : ∀ x y, f x = f y → x = y) : (l.map f).Nodup := by
  unfold List.Nodup
  rw [List.pairwise_map]
  exact List.Pairwise.imp (fun hne e => hne (hf _ _ e)) h
theorem iota_nodup (a b : Int) : (iota a b).Nodup := by
  unfold iota
  refine nodup_map List.nodup_range fun x y h => ?_
  have h : a + (x : Int) = a + (y : Int) := h
  omega
theorem row_nodup (q : Pr → Bool) (n c1 a : Int) : (row q n c1 a).Nodup := by
  unfold row
  exact List.Pairwise.filter _ (nodup_map (iota_nodup _ _) fun x y h => (Prod.mk.inj h).2)
theorem rows_nodup (q : Pr → Bool) (l1 c1 c2 : Int) : ∀ (k : Nat), (rows q l1 c1 c2 (l1 + k)).Nodup
  | 0 => by rw [Int.natCast_zero, Int.add_zero, rows_first]; exact List.nodup_nil
  | k + 1 => by
    rw [show l1 + ((k + 1 : Nat) : Int) = l1 + k + 1 by push_cast; omega, rows_next (by omega), List.nodup_append]
    refine ⟨rows_nodup q l1 c1 c2 k, row_nodup _ _ _ _, fun x hx y hy h => ?_⟩
    subst h
    have h1 := (rows_mem.1 hx).1
    have h2 := (row_mem.1 hy).1
    omega
theorem pairs_nodup (B : Blk) : (pairsV B).Nodup := by
  unfold pairsV
  rcases Int.le_total B.l1 (B.l2 + 1) with h | h
  · obtain ⟨k, hk⟩ : ∃ k : Nat, B.l2 + 1 = B.l1 + k := ⟨(B.l2 + 1 - B.l1).toNat, by omega⟩
    rw [hk]
    exact rows_nodup _ _ _ _ _
  · unfold rows
    rw [iota_nil (by omega)]
    exact List.nodup_nil

/-! ### Pairs as keys -/
def encP (p : Pr) : SV := .agg [.si .i64 p.1, .si .i64 p.2]
def encB (b : Bool) : SV := .sb b
theorem encP_key : KeyT T 90 encP where
  ty := ⟨_, rfl⟩
  chk := fun a => by kernel_rfl
  eq := fun a b => by
    have h : eqC T 9 90 (encP a) (encP b) = some (decide (a.1 = b.1) && (decide (a.2 = b.2) && true)) := by kernel_rfl
    rw [h]
    congr 1
    rw [Bool.eq_iff_iff]
    obtain ⟨a1, a2⟩ := a
    obtain ⟨b1, b2⟩ := b
    simp
  cl := fun a => ⟨.agg #[.int .i64 a.1, .int .i64 a.2], rfl⟩
  same := fun a => by
    have : cv (encP a) = .agg #[.int .i64 a.1, .int .i64 a.2] := rfl
    rw [this]
    simp [Instr.sameBits]
theorem encB_cl : Closed encB := fun a => ⟨.bool a, rfl⟩
/-- What is told, entry by entry. -/
def tellM (l : List Pr) : List (Pr × Bool) := l.foldl (fun m p => updA m p true) []
theorem tellM_snoc (l : List Pr) (p : Pr) : tellM (l ++ [p]) = updA (tellM l) p true := by
  simp [tellM, List.foldl_append]
theorem updA_new {κ ν : Type} [DecidableEq κ] : ∀ {m : List (κ × ν)} {k : κ} {v : ν}, k ∉ m.map (·.1) → updA m k v = m ++ [(k, v)]
  | [], _, _, _ => rfl
  | p :: r, k, v, h => by
    simp only [List.map_cons, List.mem_cons, not_or] at h
    rw [updA, if_neg (Ne.symm h.1), updA_new h.2]
    rfl
theorem tellM_eq {l : List Pr} (h : l.Nodup) : tellM l = l.map fun p => (p, true) := by
  have key : ∀ (l : List Pr) (m : List (Pr × Bool)), (m.map (·.1) ++ l).Nodup → l.foldl (fun m p => updA m p true) m = m ++ l.map fun p => (p, true) := by
    intro l
    induction l with
    | nil => intro m _; simp
    | cons x r ih =>
      intro m hm
      have hx : x ∉ m.map (·.1) := by
        intro hx
        have := (List.nodup_append.1 hm).2.2 x hx x List.mem_cons_self
        exact this rfl
      rw [List.foldl_cons, updA_new hx, ih _ (by simpa [List.append_assoc] using hm)]
      simp
  have := key l [] (by simpa using h)
  simpa [tellM] using this
end Go.X.W
end

section
set_option linter.unusedVariables false
set_option linter.unusedSimpArgs false
set_option linter.unusedSectionVars false
/- Warm: all pairs, as the program tells them. -/
set_option linter.unusedVariables false
set_option linter.unusedSimpArgs false
set_option maxRecDepth 10000
set_option maxHeartbeats 2000000
namespace Go.X.W
open Go Go.Proofs Go.X

theorem rdOk_b {r : Rd} (h : rdOk r = true) : -100 ≤ r.1 ∧ r.1 ≤ r.2.1 ∧ r.2.1 ≤ 100 ∧ r.2.1 - r.1 ≤ 4 ∧ -30000 ≤ r.2.2.1 ∧ r.2.2.1 ≤ r.2.2.2 ∧ r.2.2.2 ≤ 30000 := by
  simp only [rdOk, spanB, Bool.and_eq_true, decide_eq_true_eq] at h
  omega
theorem blk_b {B : Blk} (h : blkOk B = true) : (1 ≤ B.mark ∧ B.mark ≤ 100) ∧ (-1000 ≤ B.l1 ∧ B.l1 ≤ B.l2 ∧ B.l2 ≤ 1000 ∧ B.l2 - B.l1 ≤ 24) ∧ (0 ≤ B.c1 ∧ B.c1 ≤ B.c2 ∧ B.c2 ≤ 20 ∧ B.c2 - B.c1 ≤ 3) ∧ B.rs.length ≤ 5 ∧ ∀ r ∈ B.rs, rdOk r = true := by
  simp only [blkOk, headOk, inB, spanB, Bool.and_eq_true, decide_eq_true_eq, List.all_eq_true] at h
  obtain ⟨⟨⟨⟨h1, h2⟩, h3⟩, h4⟩, h5⟩ := h
  exact ⟨h1, by omega, by omega, by omega, h5⟩
theorem okP_any {n : Nat} {mk x y : Int} {rd : Nat → Rd} : (List.range n).any (fun i => !canV mk (x, y) (rd i)) = !okP mk ((List.range n).map rd) (x, y) := by
  unfold okP
  rw [List.all_map, List.not_all_eq_any_not]
  rfl

/-! ### pairs -/
def c85 : Ct := fun fr args H => match args with
  | [.sp bid 0] => (match H bid with
    | some (.cells 138 [.si .i64 mk, .si .i64 l1, .si .i64 l2, .si .i64 c1, .si .i64 c2, .sl id]) => (match sliceOf 4 H id with
      | some (n, get) => some ⟨some (Rds n get), none, .fn (.func 106) [] [.sp fr 0], [(fr, .cells 86 [.sp bid 0])]⟩
      | none => none)
    | _ => none)
  | _ => none
theorem c85_mono : CtMono c85 := by
  intro fr args H H' out hH h
  unfold c85 at h ⊢
  split at h
  · split at h
    · rename_i e1
      rw [hH _ _ e1]
      split at h
      · rename_i e
        simp only [sliceOf_mono hH e]
        exact h
      · cases h
    · cases h
  · cases h
theorem k85 {l : List (Nat × Ct)} (g : Good P T l) : COk P 85 c85 := by
  refine cok (C := tabC _) g.ok Try.func85 (c := code Try.f85) rfl fun fr args H out h hp => ?_
  unfold c85 at h
  split at h
  · rename_i bid
    split at h
    · rename_i mk l1 l2 c1 c2 id e1
      split at h
      · rename_i n get e
        cases h
        have hh := bkHand e1 e hp
        refine ⟨bkP bid id n mk l1 l2 c1 c2 (rdAt get), [.sp 0 0], bkH n mk l1 l2 c1 c2 (rdAt get), 2, [2], rfl, rfl, Nat.le_of_ble_eq_true rfl, hh, rfl, rfl, fun G hG => ?_⟩
        exact ⟨.inl rfl, ⟨rfl, rfl, ⟨rfl, ⟨⟨rfl, ⟨rfl, rfl⟩, trivial⟩, rfl⟩, trivial⟩, ⟨⟨rfl, ⟨rfl, rfl⟩, ⟨rfl, rfl⟩, ⟨rfl, rfl⟩, ⟨rfl, rfl⟩, ⟨rfl, rfl⟩, rfl, trivial⟩, trivial, trivial⟩, rfl, rfl⟩⟩
      · cases h
    · cases h
  · cases h
theorem g85 {l : List (Nat × Ct)} (g : Good P T l) : Good P T ((85, c85) :: l) := g.add (k85 g) c85_mono (body_of Try.func85 (c := code Try.f85) rfl (by decide))
theorem b106 : Body P 106 := body_of Try.func106 (c := code Try.f106) rfl (by decide)
theorem tellM_len (B : Blk) : (tellM (pairsV B)).length = (pairsV B).length := by rw [tellM_eq (pairs_nodup B), List.length_map]

/-! ### told -/
def c67 : Ct := fun fr args H =>
  match args with
  | [.sp bid 0] => (match H bid with
    | some (.cells 138 [.si .i64 mk, .si .i64 l1, .si .i64 l2, .si .i64 c1, .si .i64 c2, .sl id]) => (match sliceOf 4 H id with
      | some (n, get) => some ⟨some (Rds n get ∧ blkOk ⟨mk, l1, l2, c1, c2, rdL n get⟩ = true), some (!decide ((0 : Int) < ((pairsV ⟨mk, l1, l2, c1, c2, rdL n get⟩).length : Int)), refP 10), .sm fr,
          [(fr, .mp (encM encP encB (tellM (pairsV ⟨mk, l1, l2, c1, c2, rdL n get⟩))))]⟩
      | none => none)
    | _ => none)
  | _ => none
theorem c67_mono : CtMono c67 := by
  intro fr args H H' out hH h
  unfold c67 at h ⊢
  split at h
  · split at h
    · rename_i e1
      rw [hH _ _ e1]
      split at h
      · rename_i e
        simp only [sliceOf_mono hH e]
        exact h
      · cases h
    · cases h
  · cases h
theorem k67 : COk P 67 c67 := by
  have g := g85 (g74 (g107 (g95 good0)))
  refine cokM (C := tabC _) g.ok Try.func67 (c := code Try.f67) rfl fun fr args H out h hp => ?_
  unfold c67 at h
  split at h
  · rename_i bid
    split at h
    · rename_i mk l1 l2 c1 c2 id e1
      split at h
      · rename_i n get e
        cases h
        obtain ⟨hs, hok⟩ : Rds n get ∧ blkOk ⟨mk, l1, l2, c1, c2, rdL n get⟩ = true := hp
        have hh := bkHand e1 e hs
        refine ⟨bkP bid id n mk l1 l2 c1 c2 (rdAt get), [.sp 0 0], bkH n mk l1 l2 c1 c2 (rdAt get), 2, [2], rfl, rfl, Nat.le_of_ble_eq_true rfl, hh, rfl, rfl, fun G hG => ?_⟩
        rw [show rdL n get = (List.range n).map (rdAt get) from rfl] at hok ⊢
        generalize rdAt get = rd at hok ⊢
        obtain ⟨hmk, hl, hc, hn, hr⟩ := blk_b hok
        simp only at hmk hl hc
        have hn : n ≤ 5 := by simpa using hn
        have hr : ∀ i, i < n → rdOk (rd i) = true := fun i hi => hr _ (List.mem_map.2 ⟨i, List.mem_range.2 hi, rfl⟩)
        have hr' : ∀ i, i < n → smB 1000 (rd i).1 ∧ smB 1000 (rd i).2.1 := fun i hi => by have := rdOk_b (hr i hi); unfold smB; omega
        refine fb_makeMap (g.ok _ _ _) cont_std rfl rfl rfl rfl rfl ?_
        refine Chk.mk (rds_rd _ _) ?_
        refine rangeFunc_ok (g.ok _ _ _) rfl rfl rfl b106 ?_
        intro fn
        refine callS_exec g.ok Try.func106 (c := code Try.f106) rfl (Nat.le_of_ble_eq_true rfl) fun G2 hG2 => ?_
        refine Chk.mk ⟨rds_rd _ _, by omega⟩ ?_
        obtain ⟨q, hq⟩ : ∃ q : Pr → Bool, okP mk ((List.range n).map rd) = q := ⟨_, rfl⟩
        refine loop_okR (g.ok _ _ _) 10 (fun z : {t : Int // l1 ≤ t ∧ t ≤ l2 + 1} => ⟨[(0, ⟨[], .fy 9⟩), (1, ⟨[], .sp 4 0⟩), (3, ⟨[], .sl 10⟩), (4, ⟨[], .si .i64 z.1⟩)], [],
          [(9, .loop [(3, .sp 3 0)] Try.f67.ntmps fn [8] (rfA (code Try.f67)) (rfB (code Try.f67)) 8 .ready none), (8, .dfr), (10, .ro 4 n fun i => rdC (rd i)), (4, .cells 86 [.sp 0 0]), (3, .cells 107 [.sm 2]), (2, .mp (encM encP encB (tellM (rows q l1 c1 c2 z.1))))] ++ bkH n mk l1 l2 c1 c2 rd, 14, []⟩)
          (fun z => (l2 + 1 - z.1).toNat) hG2 ⟨l1, by omega, by omega⟩ (fun j => j) ?_ ?_
        · refine ⟨?_, ?_, rfl, rfl, rfl, rfl, trivial⟩
          · repeat' (first | exact trivial | exact rfl | refine And.intro ?_ ?_)
          · repeat' (first | exact trivial | exact rfl | (intro i hi; exact ⟨rfl, rfl⟩) | refine allV_find ?_ | refine And.intro ?_ ?_)
            · show List.Perm [] (encM encP encB (tellM (rows q l1 c1 c2 l1)))
              rw [rows_first]
              exact List.Perm.refl _
        · rintro ⟨t, ht1, ht2⟩
          refine Br.mk (fun h => ?_) (fun h => ?_)
          · replace h : t ≤ l2 := of_decide_eq_true h
            refine loop_okR (g.ok _ _ _) 10 (fun z : {a : Int // c1 ≤ a ∧ a ≤ c2 + 1} => ⟨[(0, ⟨[], .fy 9⟩), (1, ⟨[], .sp 4 0⟩), (3, ⟨[], .sl 10⟩), (4, ⟨[], .si .i64 t⟩), (5, ⟨[], .si .i64 z.1⟩)], [],
              [(9, .loop [(3, .sp 3 0)] Try.f67.ntmps fn [8] (rfA (code Try.f67)) (rfB (code Try.f67)) 8 .ready none), (8, .dfr), (10, .ro 4 n fun i => rdC (rd i)), (4, .cells 86 [.sp 0 0]), (3, .cells 107 [.sm 2]), (2, .mp (encM encP encB (tellM (rows q l1 c1 c2 t ++ row q t c1 z.1))))] ++ bkH n mk l1 l2 c1 c2 rd, 14, []⟩)
              (fun z => (c2 + 1 - z.1).toNat) hG2 ⟨c1, by omega, by omega⟩ (fun j => j) ?_ ?_
            · refine ⟨?_, ?_, rfl, rfl, rfl, rfl, trivial⟩
              · repeat' (first | exact trivial | exact rfl | refine And.intro ?_ ?_)
              · repeat' (first | exact trivial | exact rfl | (intro i hi; exact ⟨rfl, rfl⟩) | refine allV_find ?_ | refine And.intro ?_ ?_)
                · show List.Perm (encM encP encB (tellM (rows q l1 c1 c2 t))) (encM encP encB (tellM (rows q l1 c1 c2 t ++ row q t c1 c1)))
                  rw [row_first, List.append_nil]
            · rintro ⟨a, ha1, ha2⟩
              refine Br.mk (fun h2 => ?_) (fun h2 => ?_)
              · replace h2 : a ≤ c2 := of_decide_eq_true h2
                refine Chk.mk ⟨rds_rd _ _, rds_rd _ _, ⟨by omega, by omega⟩, ⟨(show -1000000 ≤ t by omega), (show t ≤ 1000000 by omega)⟩, ⟨(show -1000 ≤ a by omega), (show a ≤ 1000 by omega)⟩, by omega, hr'⟩ ?_
                have hany := okP_any (n := n) (mk := mk) (x := t) (y := a) (rd := rd)
                rw [hq] at hany
                have hrn := row_next (q := q) (n := t) (c1 := c1) (a := a) ha1
                cases hqa : q (t, a) with
                | false =>
                  rw [hqa] at hany hrn
                  refine fb_skip 48 true (g.ok _ _ _) cont_std rfl rfl rfl rfl rfl rfl rfl trivial (by show (!(List.range n).any (fun i => !canV mk (t, a) (rd i))) = !true; rw [hany]; rfl) ?_
                  refine Br.mk (fun h3 => ?_) (fun _ => ?_)
                  · exfalso
                    have h3 : ((!(List.range n).any (fun i => !canV mk (t, a) (rd i))) && _) = true := h3
                    rw [hany] at h3
                    simp at h3
                  refine Chk.mk (show InK .i64 (a + 1) from ⟨by omega, by omega⟩) ⟨⟨a + 1, by omega, by omega⟩, (fun j => j), ?_, (by show (c2 + 1 - (a + 1)).toNat < (c2 + 1 - a).toNat; omega)⟩
                  refine ⟨?_, ?_, rfl, rfl, rfl, rfl, trivial⟩
                  · repeat' (first | exact trivial | exact rfl | refine And.intro ?_ ?_)
                  · repeat' (first | exact trivial | exact rfl | (intro i hi; exact ⟨rfl, rfl⟩) | refine allV_find ?_ | refine And.intro ?_ ?_)
                    · show List.Perm (encM encP encB (tellM (rows q l1 c1 c2 t ++ row q t c1 a))) (encM encP encB (tellM (rows q l1 c1 c2 t ++ row q t c1 (a + 1))))
                      rw [hrn]
                      simp
                | true =>
                  rw [hqa] at hany hrn
                  refine fb_run rfl rfl ⟨trivial, rfl, (by show (!(List.range n).any (fun i => !canV mk (t, a) (rd i))) = true; rw [hany]; rfl)⟩ ?_
                  refine fb_yield 9 g.ok (g.ok _ _ _) cont_std rfl rfl rfl rfl rfl rfl rfl rfl rfl (by decide) ?_
                  intro G4 r hG4
                  refine fb_update encP encB (tellM (rows q l1 c1 c2 t ++ row q t c1 a)) (t, a) true (tellM (rows q l1 c1 c2 t ++ row q t c1 (a + 1))) (by rw [hrn, if_pos rfl, ← List.append_assoc, tellM_snoc]) 2 (g.ok _ _ _) cont_std rfl (.inl rfl) rfl rfl rfl rfl encP_key encB_cl rfl rfl rfl rfl ?_
                  intro _
                  refine Br.mk (fun h3 => ?_) (fun _ => ?_)
                  · exfalso
                    have h3 : ((!(List.range n).any (fun i => !canV mk (t, a) (rd i))) && false) = true := h3
                    simp at h3
                  refine Chk.mk (show InK .i64 (a + 1) from ⟨by omega, by omega⟩) ⟨⟨a + 1, by omega, by omega⟩, (fun j => j), ?_, (by show (c2 + 1 - (a + 1)).toNat < (c2 + 1 - a).toNat; omega)⟩
                  refine ⟨?_, ?_, rfl, rfl, rfl, rfl, trivial⟩
                  · repeat' (first | exact trivial | exact rfl | refine And.intro ?_ ?_)
                  · repeat' (first | exact trivial | exact rfl | (intro i hi; exact ⟨rfl, rfl⟩) | refine allV_find ?_ | refine And.intro ?_ ?_)
                    · exact List.Perm.refl _
              · replace h2 : ¬ a ≤ c2 := of_decide_eq_false h2
                obtain rfl : a = c2 + 1 := by omega
                refine Chk.mk (show InK .i64 (t + 1) from ⟨by omega, by omega⟩) ⟨⟨t + 1, by omega, by omega⟩, (fun j => j), ?_, (by show (l2 + 1 - (t + 1)).toNat < (l2 + 1 - t).toNat; omega)⟩
                refine ⟨?_, ?_, rfl, rfl, rfl, rfl, trivial⟩
                · repeat' (first | exact trivial | exact rfl | refine And.intro ?_ ?_)
                · repeat' (first | exact trivial | exact rfl | (intro i hi; exact ⟨rfl, rfl⟩) | refine allV_find ?_ | refine And.intro ?_ ?_)
                  · show List.Perm (encM encP encB (tellM (rows q l1 c1 c2 t ++ row q t c1 (c2 + 1)))) (encM encP encB (tellM (rows q l1 c1 c2 (t + 1))))
                    rw [rows_next ht1]
          · replace h : ¬ t ≤ l2 := of_decide_eq_false h
            obtain rfl : t = l2 + 1 := by omega
            have hpv : pairsV ⟨mk, l1, l2, c1, c2, (List.range n).map rd⟩ = rows q l1 c1 c2 (l2 + 1) := by rw [← hq]; rfl
            have hlen := tellM_len ⟨mk, l1, l2, c1, c2, (List.range n).map rd⟩
            rw [hpv] at hlen ⊢
            refine fb_mapLen encP encB (tellM (rows q l1 c1 c2 (l2 + 1))) 2 (g.ok _ _ _) cont_std rfl rfl rfl rfl rfl rfl rfl rfl rfl rfl encP_key encB_cl rfl rfl ?_
            rw [hlen]
            refine Br.mk (fun h => ?_) (fun h => ?_)
            · have h : (!decide ((0 : Int) < ((rows q l1 c1 c2 (l2 + 1)).length : Int))) = true := h
              exact ⟨by rw [h], ⟨rfl, ⟨rfl, rfl⟩, ⟨rfl, rfl⟩, ⟨rfl, rfl⟩, ⟨rfl, rfl⟩, ⟨rfl, rfl⟩, rfl, trivial⟩, trivial, trivial⟩
            · have h : (!decide ((0 : Int) < ((rows q l1 c1 c2 (l2 + 1)).length : Int))) = false := h
              exact ⟨.inr ⟨_, by rw [h]⟩, ⟨rfl, rfl, ⟨rfl, List.Perm.refl _, trivial⟩, ⟨⟨rfl, ⟨rfl, rfl⟩, ⟨rfl, rfl⟩, ⟨rfl, rfl⟩, ⟨rfl, rfl⟩, ⟨rfl, rfl⟩, rfl, trivial⟩, trivial, trivial⟩, rfl, rfl⟩⟩
      · cases h
    · cases h
  · cases h
theorem g67 {l : List (Nat × Ct)} (g : Good P T l) : Good P T ((67, c67) :: l) := g.add k67 c67_mono (body_of Try.func67 (c := code Try.f67) rfl (by decide))
end Go.X.W
end

section
set_option linter.unusedVariables false
set_option linter.unusedSimpArgs false
set_option linter.unusedSectionVars false
/- Warm: the ends of numbers; closures that are asked for numbers. -/
set_option linter.unusedVariables false
set_option linter.unusedSimpArgs false
set_option maxRecDepth 10000
set_option maxHeartbeats 2000000
namespace Go.X.W
open Go Go.Proofs Go.X

def endF (s : Int × Int) (n : Int) : Int × Int := (min s.1 n, max s.2 n)
def endsV (l : List Int) : Int × Int := l.foldl endF (1099511627776, -1099511627776)
theorem endsV_append (l m : List Int) : endsV (l ++ m) = m.foldl endF (endsV l) := by simp [endsV, List.foldl_append]
theorem endF_comm (s : Int × Int) (a b : Int) : endF (endF s a) b = endF (endF s b) a := by
  simp only [endF, Prod.mk.injEq]
  omega
theorem endsV_perm {l m : List Int} (h : l.Perm m) : endsV l = endsV m := by
  have key : ∀ (l m : List Int), l.Perm m → ∀ s, l.foldl endF s = m.foldl endF s := by
    intro l m h
    induction h with
    | nil => intro s; rfl
    | cons x _ ih => intro s; exact ih _
    | swap x y l => intro s; simp only [List.foldl_cons]; rw [endF_comm]
    | trans _ _ ih1 ih2 => intro s; rw [ih1, ih2]
  exact key l m h _

/-! ### with, one -/
def c100 : Ct := plainCt fun
  | [.agg [.si .i64 a, .si .i64 b], .si .i64 n] => some ⟨none, none, .agg [.si .i64 (endF (a, b) n).1, .si .i64 (endF (a, b) n).2], []⟩
  | _ => none
theorem k100 {l : List (Nat × Ct)} (g : Good P T l) : COk P 100 c100 := by
  refine cok (C := tabC _) g.ok Try.func100 (c := code Try.f100) rfl fun fr args H out h hp => ?_
  simp only [c100, plainCt] at h
  split at h
  · rename_i a b n
    cases h
    refine walk_plain rfl (Nat.le_of_ble_eq_true rfl) fun G hG => ?_
    exact Chk.mk ⟨by decide, by decide⟩ (Chk.mk ⟨by decide, by decide⟩ ⟨.inl rfl, end_plain ⟨⟨rfl, rfl⟩, ⟨rfl, rfl⟩, trivial⟩ rfl rfl⟩)
  · cases h
theorem g100 {l : List (Nat × Ct)} (g : Good P T l) : Good P T ((100, c100) :: l) := g.add (k100 g) (plainCt_mono _) (body_of Try.func100 (c := code Try.f100) rfl (by decide))
def c60 : Ct := fun fr args _ => match args with
  | [.si .i64 n] => some ⟨none, none, .fn (.func 114) [] [.sp fr 0], [(fr, .cells 116 [.si .i64 n, .si .i64 n])]⟩
  | _ => none
theorem c60_mono : CtMono c60 := by
  intro fr args H H' out hH h
  unfold c60 at h ⊢
  exact h
theorem k60 {l : List (Nat × Ct)} (g0 : Good P T l) : COk P 60 c60 := by
  have g := g101 g0
  refine cok (C := tabC _) g.ok Try.func60 (c := code Try.f60) rfl fun fr args H out h hp => ?_
  unfold c60 at h
  split at h
  · rename_i n
    cases h
    refine ⟨[], [.si .i64 n], [], 0, [0], rfl, rfl, Nat.le_of_ble_eq_true rfl, hand_nil H, rfl, rfl, fun G hG => ?_⟩
    exact ⟨.inl rfl, ⟨rfl, rfl, ⟨rfl, ⟨⟨rfl, ⟨rfl, rfl⟩, ⟨rfl, rfl⟩, trivial⟩, rfl⟩, trivial⟩, trivial, rfl, rfl⟩⟩
  · cases h
theorem g60 {l : List (Nat × Ct)} (g : Good P T l) : Good P T ((60, c60) :: l) := g.add (k60 g) c60_mono (body_of Try.func60 (c := code Try.f60) rfl (by decide))
def c59 : Ct := fun fr args _ => match args with
  | [.agg [.si .i64 n, .si .i64 a]] => some ⟨none, none, .fn (.func 114) [] [.sp fr 0], [(fr, .cells 116 [.si .i64 n, .si .i64 n])]⟩
  | _ => none
theorem c59_mono : CtMono c59 := by
  intro fr args H H' out hH h
  unfold c59 at h ⊢
  exact h
theorem k59 {l : List (Nat × Ct)} (g0 : Good P T l) : COk P 59 c59 := by
  have g := g60 g0
  refine cok (C := tabC _) g.ok Try.func59 (c := code Try.f59) rfl fun fr args H out h hp => ?_
  unfold c59 at h
  split at h
  · rename_i n a
    cases h
    refine ⟨[], [.agg [.si .i64 n, .si .i64 a]], [], 0, [1], rfl, rfl, Nat.le_of_ble_eq_true rfl, hand_nil H, rfl, rfl, fun G hG => ?_⟩
    exact ⟨.inl rfl, ⟨rfl, rfl, ⟨rfl, ⟨⟨rfl, ⟨rfl, rfl⟩, ⟨rfl, rfl⟩, trivial⟩, rfl⟩, trivial⟩, trivial, rfl, rfl⟩⟩
  · cases h
theorem g59 {l : List (Nat × Ct)} (g : Good P T l) : Good P T ((59, c59) :: l) := g.add (k59 g) c59_mono (body_of Try.func59 (c := code Try.f59) rfl (by decide))
/-- Of all pairs. -/
def hullV (B : Blk) (L : Pr → List Int) : Int × Int := endsV ((pairsV B).flatMap L)
theorem hull_step (L : Pr → List Int) (vis : List ((Pr × Bool) × Nat)) (p : (Pr × Bool) × Nat) : endsV ((vis ++ [p]).flatMap fun x => L x.1.1) = (L p.1.1).foldl endF (endsV (vis.flatMap fun x => L x.1.1)) := by
  rw [List.flatMap_append, endsV_append]
  simp
theorem hull_end {B : Blk} {L : Pr → List Int} {ts : List ((Pr × Bool) × Nat)} (h : (ts.map fun x => x.1).Perm (tellM (pairsV B))) {vis : List ((Pr × Bool) × Nat)} (hv : ts.Perm vis) : endsV (vis.flatMap fun x => L x.1.1) = hullV B L := by
  have h1 : (vis.map fun x => x.1.1).Perm (pairsV B) := by
    have h2 := (((hv.map fun x => x.1).symm.trans h).map fun x : Pr × Bool => x.1)
    rw [tellM_eq (pairs_nodup B), List.map_map, List.map_map] at h2
    simpa [Function.comp_def] using h2
  unfold hullV
  refine endsV_perm ?_
  have h3 := h1.flatMap_right L
  rwa [List.flatMap_map] at h3
end Go.X.W
end

section
set_option linter.unusedVariables false
set_option linter.unusedSimpArgs false
set_option linter.unusedSectionVars false
/- Warm: the span of the numbers that a closure yields of all pairs: lengths, coefficients. -/
set_option linter.unusedVariables false
set_option linter.unusedSimpArgs false
set_option maxRecDepth 10000
set_option maxHeartbeats 4000000
namespace Go.X.W
open Go Go.Proofs Go.X

def spanCt (k : Nat) (L : Blk → Pr → List Int) : Ct := fun fr args H =>
  match args with
  | [.sp bid 0, .fn (.func k') [] []] => (match Nat.beq k' k, H bid with
    | true, some (.cells 138 [.si .i64 mk, .si .i64 l1, .si .i64 l2, .si .i64 c1, .si .i64 c2, .sl id]) => (match sliceOf 4 H id with
      | some (n, get) => some ⟨some (Rds n get ∧ blkOk ⟨mk, l1, l2, c1, c2, rdL n get⟩ = true), some (!decide ((0 : Int) < ((pairsV ⟨mk, l1, l2, c1, c2, rdL n get⟩).length : Int)), refP 10),
          .agg [.si .i64 (hullV ⟨mk, l1, l2, c1, c2, rdL n get⟩ (L ⟨mk, l1, l2, c1, c2, rdL n get⟩)).1, .si .i64 (hullV ⟨mk, l1, l2, c1, c2, rdL n get⟩ (L ⟨mk, l1, l2, c1, c2, rdL n get⟩)).2], []⟩
      | none => none)
    | _, _ => none)
  | _ => none
theorem spanCt_mono (k : Nat) (L : Blk → Pr → List Int) : CtMono (spanCt k L) := by
  intro fr args H H' out hH h
  unfold spanCt at h ⊢
  split at h
  · split at h
    · rename_i e0 e1
      split at h
      · rename_i e
        simp only [e0, hH _ _ e1, sliceOf_mono hH e]
        exact h
      · cases h
    · cases h
  · cases h
theorem pairs_len {B : Blk} (h : blkOk B = true) : (pairsV B).length ≤ 100 := by
  obtain ⟨-, hl, hc, -, -⟩ := blk_b h
  unfold pairsV
  obtain ⟨k, hk⟩ : ∃ k : Nat, B.l2 + 1 = B.l1 + k := ⟨(B.l2 + 1 - B.l1).toNat, by omega⟩
  rw [hk]
  have := rows_len (okP B.mark B.rs) B.l1 B.c1 B.c2 (by omega) k
  omega
theorem k58a : COk P 58 (spanCt 59 fun _ p => [p.1]) := by
  have g := g67 (g59 (g100 good0))
  refine cokB (C := tabC _) g.ok Try.func58 (c := code Try.f58) rfl fun fr args H out h hp => ?_
  unfold spanCt at h
  split at h
  · rename_i bid k'
    split at h
    · rename_i mk l1 l2 c1 c2 id e0 e1
      split at h
      · rename_i n get e
        cases h
        have e0 : k' = 59 := by simpa using e0
        subst e0
        obtain ⟨hs, hok⟩ : Rds n get ∧ blkOk ⟨mk, l1, l2, c1, c2, rdL n get⟩ = true := hp
        have hh := bkHand e1 e hs
        refine ⟨bkP bid id n mk l1 l2 c1 c2 (rdAt get), [.sp 0 0, .fn (.func 59) [] []], bkH n mk l1 l2 c1 c2 (rdAt get), 2, [], rfl, rfl, Nat.le_of_ble_eq_true rfl, hh, rfl, rfl, fun G hG => ?_⟩
        rw [show rdL n get = (List.range n).map (rdAt get) from rfl] at hok ⊢
        generalize rdAt get = rd at hok ⊢
        obtain ⟨hmk, hl, hc, hn, hr⟩ := blk_b hok
        simp only at hmk hl hc
        have hok' : blkOk ⟨mk, l1, l2, c1, c2, rdL n fun i => rdC (rd i)⟩ = true := hok
        have hG' : ∀ j, 10 ≤ j → G.ρ j = none := fun j hj => hG j (by omega)
        refine Chk.mk ⟨rds_rd _ _, hok'⟩ ?_
        obtain ⟨B, hB⟩ : ∃ B : Blk, B = ⟨mk, l1, l2, c1, c2, (List.range n).map rd⟩ := ⟨_, rfl⟩
        refine Br.mk (fun h => ?_) (fun h => ?_)
        · have h : (!decide ((0 : Int) < ((pairsV ⟨mk, l1, l2, c1, c2, (List.range n).map rd⟩).length : Int))) = true := h
          exact FinB.mk ⟨by rw [h], ⟨rfl, ⟨rfl, rfl⟩, ⟨rfl, rfl⟩, ⟨rfl, rfl⟩, ⟨rfl, rfl⟩, ⟨rfl, rfl⟩, rfl, trivial⟩, trivial, trivial⟩
        · have hne : (!decide ((0 : Int) < ((pairsV ⟨mk, l1, l2, c1, c2, (List.range n).map rd⟩).length : Int))) = false := h
          have hmem : ∀ p ∈ pairsV B, (-1000 ≤ p.1 ∧ p.1 ≤ 1000) ∧ (0 ≤ p.2 ∧ p.2 ≤ 20) := fun p hp => by
            have := (pairs_mem.1 hp).1
            subst hB
            simp only at this
            omega
          refine fb_range encP encB (tellM (pairsV B)) 5 (g.ok _ _ _) cont_std rfl rfl rfl rfl rfl rfl rfl encP_key encB_cl rfl (by rw [hB]; rfl) ?_
          intro hnd ts clock hts
          have hlen : ts.length ≤ 100 := by
            have h1 := hts.length_eq
            rw [List.length_map] at h1
            rw [h1, tellM_len]
            exact pairs_len (by rw [hB]; exact hok)
          refine loop_okM (g.ok _ _ _) 10 (fun x : {p : List ((Pr × Bool) × Nat) × List ((Pr × Bool) × Nat) // ts.Perm (p.1 ++ p.2)} => ⟨[(0, ⟨[], .sp 0 0⟩), (1, ⟨[], .fn (.func 59) [] []⟩), (4, ⟨[], .sp 2 0⟩), (5, ⟨[], .sp 3 0⟩), (6, ⟨[], .sp 4 0⟩), (12, ⟨[], .sp 9 0⟩)], [],
            [(9, .it 5 clock (x.1.1.map (·.2)) clock), (5, .map (encS encP encB ts) clock), (4, .cells 146 [.fn (.func 100) [] []]), (3, .cells 145 [.si .i64 (endsV (x.1.1.flatMap fun y => [y.1.1.1])).1, .si .i64 (endsV (x.1.1.flatMap fun y => [y.1.1.1])).2]), (2, .cells 24 [.si .i64 0, .si .i64 0])] ++ bkH n mk l1 l2 c1 c2 rd, 10, []⟩)
            (fun x => x.1.1.length) (fun x => x.1.2.length) hG' ⟨([], ts), by simp⟩ (fun j => j) ?_ rfl (show (10 : Nat) ≤ 1000 by decide) rfl ?_
          · refine ⟨?_, ?_, rfl, rfl, rfl, rfl, trivial⟩
            · repeat' (first | exact trivial | exact rfl | refine And.intro ?_ ?_)
            · repeat' (first | exact trivial | exact rfl | (intro i hi; exact ⟨rfl, rfl⟩) | refine allV_find ?_ | refine And.intro ?_ ?_)
          · rintro ⟨⟨vis, rest⟩, hp⟩
            have hvl : vis.length ≤ ts.length := by rw [hp.length_eq]; simp
            refine fb_next encP encB 5 9 clock ts vis rest (g.ok _ _ _) cont_std rfl rfl rfl rfl rfl encP_key encB_cl rfl rfl rfl hp ⟨fun hr => ?_, ?_⟩
            · replace hr : rest = [] := hr
              subst hr
              have hv : ts.Perm vis := by simpa using hp
              refine Br.mk (fun h => by cases h) (fun _ => ?_)
              have hend := hull_end (L := fun p => [p.1]) hts hv
              refine Chk.mk ⟨by decide, by decide⟩ (Chk.mk ⟨by decide, by decide⟩ ?_)
              refine FinB.mk (finM_ret vis.length rfl (by omega) (fun t t1 t2 => ?_) rfl (fun H' hH' => ?_))
              · repeat' (first | exact rfl | refine (findH_out rfl t1 t2).trans ?_)
              · subst hB
                refine ⟨.inr ⟨_, by rw [hne]⟩, end_noid ⟨⟨rfl, ?_⟩, ⟨rfl, ?_⟩, trivial⟩ rfl rfl (keepP_same hH' rfl ⟨⟨rfl, ⟨rfl, rfl⟩, ⟨rfl, rfl⟩, ⟨rfl, rfl⟩, ⟨rfl, rfl⟩, ⟨rfl, rfl⟩, rfl, trivial⟩, trivial, trivial⟩)⟩
                · show (endsV (vis.flatMap fun y => [y.1.1.1])).1 = _
                  rw [hend]
                · show (endsV (vis.flatMap fun y => [y.1.1.1])).2 = _
                  rw [hend]
            · rintro ⟨⟨⟨x, y⟩, bb⟩, b⟩ rest' hrest
              refine Br.mk (fun _ => ?_) (fun h => by cases h)
              have hpts : (((x, y), bb), b) ∈ ts := hp.mem_iff.2 (List.mem_append_right _ (hrest.mem_iff.2 List.mem_cons_self))
              refine fb_entry encP encB 5 9 clock ts vis (((x, y), bb), b) (g.ok _ _ _) cont_std rfl rfl rfl rfl rfl encP_key encB_cl rfl rfl rfl hpts ?_
              refine rangeFunc_ok (g.ok _ _ _) rfl rfl rfl b114 ?_
              intro fn
              refine callS_exec g.ok Try.func114 (c := code Try.f114) rfl (Nat.le_of_ble_eq_true rfl) fun G2 hG2 => ?_
              obtain ⟨S, hS⟩ : ∃ S : Int × Int, endsV (vis.flatMap fun y => [y.1.1.1]) = S := ⟨_, rfl⟩
              obtain ⟨D0, hD0⟩ : ∃ m : Nat, vis.length = m := ⟨_, rfl⟩
              have hx := (hmem (x, y) (by
                have h1 := hts.mem_iff.1 (List.mem_map_of_mem (f := fun x => x.1) hpts)
                rw [tellM_eq (pairs_nodup B)] at h1
                obtain ⟨p, h2, h3⟩ := List.mem_map.1 h1
                cases h3
                exact h2)).1
              refine loop_okR (g.ok _ _ _) 2007 (fun z : {i : Nat // i ≤ 1} => ⟨[(0, ⟨[], .fy 2006⟩), (1, ⟨[], .sp 2001 0⟩), (3, ⟨[], .si .i64 (x + (z.1 : Int))⟩)], [],
                [(2006, .loop [(5, .sp 3 0), (6, .sp 4 0)] Try.f58.ntmps fn [20] (rfA (code Try.f58)) (rfB (code Try.f58)) 2005 .ready none), (2005, .dfr), (2001, .cells 116 [.si .i64 x, .si .i64 x]),
                 (9, .it 5 clock ((vis ++ [(((x, y), bb), b)]).map (·.2)) clock), (5, .map (encS encP encB ts) clock), (4, .cells 146 [.fn (.func 100) [] []]), (3, .cells 145 [.si .i64 (if z.1 = 0 then S else endF S x).1, .si .i64 (if z.1 = 0 then S else endF S x).2]), (2, .cells 24 [.si .i64 0, .si .i64 0])] ++ bkH n mk l1 l2 c1 c2 rd ++ dfrL D0, 2007, []⟩)
                (fun z => 1 - z.1) hG2 ⟨0, by omega⟩ (fun j => j) ?_ ?_
              · subst hD0
                refine ⟨?_, ?_, injI_id _, fixI_id _, rfl, rfl, trivial⟩
                · repeat' (first | exact trivial | exact rfl | refine And.intro ?_ ?_)
                  show x = x + ((0 : Nat) : Int)
                  omega
                · repeat' (first | exact trivial | exact rfl | (intro i hi; exact ⟨rfl, rfl⟩) | refine allV_find ?_ | refine And.intro ?_ ?_)
                  · show (endsV (vis.flatMap fun y => [y.1.1.1])).1 = S.1
                    rw [hS]
                  · show (endsV (vis.flatMap fun y => [y.1.1.1])).2 = S.2
                    rw [hS]
                  · refine weakRH_tail (by omega) (Nat.le_of_ble_eq_true rfl) (fun t t1 t2 => ?_)
                    repeat' (first | exact dfrL_some t1 t2 | refine (findH_out rfl t1 (by omega)).trans ?_)
              · rintro ⟨i, hi⟩
                refine Br.mk (fun h => ?_) (fun h => ?_)
                · have h : x + (i : Int) ≤ x := of_decide_eq_true h
                  obtain rfl : i = 0 := by omega
                  refine fb_yield 2006 g.ok (g.ok _ _ _) cont_std rfl rfl rfl rfl rfl rfl rfl rfl rfl (by decide) ?_
                  intro G4 r hG4
                  refine Br.mk (fun h => by cases h) (fun _ => ?_)
                  refine Chk.mk (show InK .i64 (x + ((0 : Nat) : Int) + 1) from ⟨by omega, by omega⟩) ⟨⟨1, by omega⟩, (fun j => j), ?_, (by show 1 - 1 < 1 - 0; omega)⟩
                  refine ⟨?_, ?_, injI_id _, fixI_id _, rfl, rfl, trivial⟩
                  · repeat' (first | exact trivial | exact rfl | refine And.intro ?_ ?_)
                    show x + ((0 : Nat) : Int) + 1 = x + ((1 : Nat) : Int)
                    omega
                  · repeat' (first | exact trivial | exact rfl | (intro i hi; exact ⟨rfl, rfl⟩) | refine allV_find ?_ | refine And.intro ?_ ?_)
                    · show (endF S (x + ((0 : Nat) : Int))).1 = (endF S x).1
                      rw [Int.natCast_zero, Int.add_zero]
                    · show (endF S (x + ((0 : Nat) : Int))).2 = (endF S x).2
                      rw [Int.natCast_zero, Int.add_zero]
                    · refine weakRH_tail (by omega) (Nat.le_of_ble_eq_true rfl) (fun t t1 t2 => ?_)
                      repeat' (first | exact dfrL_some t1 t2 | refine (findH_out rfl t1 (by omega)).trans ?_)
                · have h : ¬ x + (i : Int) ≤ x := of_decide_eq_false h
                  obtain rfl : i = 1 := by omega
                  have hpm : ts.Perm ((vis ++ [(((x, y), bb), b)]) ++ rest') := by
                    rw [List.append_assoc]
                    exact hp.trans (List.Perm.append_left _ hrest)
                  have hst := hull_step (fun p => [p.1]) vis (((x, y), bb), b)
                  rw [hS] at hst
                  have hst : endsV ((vis ++ [(((x, y), bb), b)]).flatMap fun y => [y.1.1.1]) = endF S x := hst
                  subst hD0
                  refine ⟨⟨(vis ++ [(((x, y), bb), b)], rest'), hpm⟩, (fun j => j), 2005, ?_, (show (10 : Nat) ≤ 1000 by decide), (by show (vis ++ [(((x, y), bb), b)]).length = vis.length + 1; simp), (by show vis.length < 900; omega), rfl, rfl, rfl, ?_, rfl, (by show rest'.length < rest.length; rw [hrest.length_eq]; simp)⟩
                  · refine ⟨?_, ?_, rfl, rfl, rfl, rfl, trivial⟩
                    · repeat' (first | exact trivial | exact rfl | refine And.intro ?_ ?_)
                    · repeat' (first | exact trivial | exact rfl | (intro i hi; exact ⟨rfl, rfl⟩) | refine allV_find ?_ | refine And.intro ?_ ?_)
                      · show (endF S x).1 = (endsV ((vis ++ [(((x, y), bb), b)]).flatMap fun y => [y.1.1.1])).1
                        rw [hst]
                      · show (endF S x).2 = (endsV ((vis ++ [(((x, y), bb), b)]).flatMap fun y => [y.1.1.1])).2
                        rw [hst]
                  · intro t t1 t2
                    repeat' (first | exact rfl | refine (findH_out rfl t1 (by omega)).trans ?_)
      · cases h
    · cases h
  · cases h
end Go.X.W
end

section
set_option linter.unusedVariables false
set_option linter.unusedSimpArgs false
set_option linter.unusedSectionVars false
/- Warm: the span of coefficients. -/
set_option linter.unusedVariables false
set_option linter.unusedSimpArgs false
set_option maxRecDepth 10000
set_option maxHeartbeats 4000000
namespace Go.X.W
open Go Go.Proofs Go.X

theorem b73 : Body P 73 := body_of Try.func73 (c := code Try.f73) rfl (by decide)
end Go.X.W
end

section
set_option linter.unusedVariables false
set_option linter.unusedSimpArgs false
set_option linter.unusedSectionVars false
/- Warm: the span of how warm a block was at a reading. -/
set_option linter.unusedVariables false
set_option linter.unusedSimpArgs false
set_option maxRecDepth 10000
set_option maxHeartbeats 4000000
namespace Go.X.W
open Go Go.Proofs Go.X

def c75 : Ct := fun fr args H =>
  match args with
  | [.agg [.si .i64 x, .si .i64 y], .sp rx 0, .sp wx 0] => (match H rx, H wx with
    | some (.cells 118 [.si .i64 a, .si .i64 b, .si .i64 c, .si .i64 d]), some (.cells 36 [.si .i64 m2, .si .i64 k1, .si .i64 k2, .si .i64 d1, .si .i64 d2, .sl id2]) => (match sliceOf 4 H id2 with
      | some (n2, get2) => some ⟨some (Rds n2 get2), none, .fn (.func 105) [] [.sp fr 0, .sp (fr + 1) 0, .sp (fr + 2) 0],
          [(fr, .cells 118 (rdC (a, b, c, d))), (fr + 1, .cells 3 [.si .i64 m2]), (fr + 2, .cells 90 [.si .i64 x, .si .i64 y])]⟩
      | none => none)
    | _, _ => none)
  | _ => none
theorem c75_mono : CtMono c75 := by
  intro fr args H H' out hH h
  unfold c75 at h ⊢
  split at h
  · split at h
    · rename_i e1 e2
      split at h
      · rename_i e
        simp only [hH _ _ e1, hH _ _ e2, sliceOf_mono hH e]
        exact h
      · cases h
    · cases h
  · cases h
theorem k75 {l : List (Nat × Ct)} (g0 : Good P T l) : COk P 75 c75 := by
  have g := g76 g0
  refine cok (C := tabC _) g.ok Try.func75 (c := code Try.f75) rfl fun fr args H out h hp => ?_
  unfold c75 at h
  split at h
  · rename_i x y rx wx
    split at h
    · rename_i a b c d m2 k1 k2 d1 d2 id2 e1 e2
      split at h
      · rename_i n2 get2 e
        cases h
        have hs : Rds n2 get2 := hp
        have hh : Hand H [(rx, .cells 118 (rdC (a, b, c, d))), (wx, .cells 36 (bC m2 k1 k2 d1 d2 2)), (id2, .ro 4 n2 fun i => rdC (rdAt get2 i))] := hand_mk ⟨e1, e2, sliceOf_piece e fun i hi => by rw [hs i hi]; rfl, trivial⟩
          (by repeat' (first | exact trivial | (intro i hi; exact ⟨trivial, trivial, trivial, trivial, trivial⟩) | refine And.intro ?_ ?_ | exact (by decide : (2 : Nat) < 3))) rfl
        refine ⟨_, [.agg [.si .i64 x, .si .i64 y], .sp 0 0, .sp 1 0], _, 3, [4, 5, 6], rfl, rfl, Nat.le_of_ble_eq_true rfl, hh, rfl, rfl, fun G hG => ?_⟩
        generalize rdAt get2 = rd
        refine ⟨.inl rfl, ⟨rfl, rfl, ⟨rfl, ⟨⟨rfl, ⟨rfl, rfl⟩, ⟨rfl, rfl⟩, ⟨rfl, rfl⟩, ⟨rfl, rfl⟩, trivial⟩, rfl⟩, rfl, ⟨⟨rfl, ⟨rfl, rfl⟩, trivial⟩, rfl⟩, rfl, ⟨⟨rfl, ⟨rfl, rfl⟩, ⟨rfl, rfl⟩, trivial⟩, rfl⟩, trivial⟩, ?_, rfl, rfl⟩⟩
        exact ⟨⟨rfl, ⟨rfl, rfl⟩, ⟨rfl, rfl⟩, ⟨rfl, rfl⟩, ⟨rfl, rfl⟩, trivial⟩, ⟨rfl, ⟨rfl, rfl⟩, ⟨rfl, rfl⟩, ⟨rfl, rfl⟩, ⟨rfl, rfl⟩, ⟨rfl, rfl⟩, rfl, trivial⟩, trivial, trivial⟩
      · cases h
    · cases h
  · cases h
theorem g75 {l : List (Nat × Ct)} (g : Good P T l) : Good P T ((75, c75) :: l) := g.add (k75 g) c75_mono (body_of Try.func75 (c := code Try.f75) rfl (by decide))
end Go.X.W
end

section
set_option linter.unusedVariables false
set_option linter.unusedSimpArgs false
set_option linter.unusedSectionVars false
/- Warm: the span of what a block will show. -/
set_option linter.unusedVariables false
set_option linter.unusedSimpArgs false
set_option maxRecDepth 10000
set_option maxHeartbeats 4000000
namespace Go.X.W
open Go Go.Proofs Go.X

end Go.X.W
end

section
set_option linter.unusedVariables false
set_option linter.unusedSimpArgs false
set_option linter.unusedSectionVars false
/- Warm: Length, Coeff. -/
set_option linter.unusedVariables false
set_option linter.unusedSimpArgs false
set_option maxRecDepth 10000
set_option maxHeartbeats 4000000
namespace Go.X.W
open Go Go.Proofs Go.X

/-- The error of what is told of all pairs; 0: none. -/
def tellE (B : Blk) (o : Int) (is : Bool) : Int := if errV B o is = 0 then (if (pairsV B).length = 0 then 10 else 0) else errV B o is
def hullE (B : Blk) (is : Bool) (L : Pr → List Int) : (Int × Int) × Int := if tellE B 0 is = 0 then (hullV B L, 0) else ((0, 0), tellE B 0 is)
theorem hullE_err {B : Blk} {is : Bool} {L : Pr → List Int} (h : ¬ errV B 0 is = 0) : hullE B is L = ((0, 0), errV B 0 is) := by
  have : tellE B 0 is = errV B 0 is := by rw [tellE, if_neg h]
  rw [hullE, this, if_neg h]
theorem hullE_clash {B : Blk} {is : Bool} {L : Pr → List Int} (h : errV B 0 is = 0) (h2 : (pairsV B).length = 0) : hullE B is L = ((0, 0), 10) := by
  have : tellE B 0 is = 10 := by rw [tellE, if_pos h, if_pos h2]
  rw [hullE, this, if_neg (by decide)]
theorem hullE_ok {B : Blk} {is : Bool} {L : Pr → List Int} (h : errV B 0 is = 0) (h2 : ¬ (pairsV B).length = 0) : hullE B is L = (hullV B L, 0) := by
  have : tellE B 0 is = 0 := by rw [tellE, if_pos h, if_neg h2]
  rw [hullE, this, if_pos rfl]
def hullS (x : (Int × Int) × Int) : SV := .tup [.agg [.si .i64 x.1.1, .si .i64 x.1.2], .si .i64 x.2]
theorem g58a {l : List (Nat × Ct)} (g : Good P T l) : Good P T ((58, spanCt 59 fun _ p => [p.1]) :: l) := g.add k58a (spanCt_mono _ _) (body_of Try.func58 (c := code Try.f58) rfl (by decide))
def c19 : Ct := wmCt fun B r => match r with
  | [] => some (none, hullS (hullE B true fun p => [p.1]))
  | _ => none
theorem k19 {l : List (Nat × Ct)} (g0 : Good P T l) : COk P 19 c19 := by
  have g := g58a (g57 g0)
  refine cokDM (C := tabC _) g.ok answer_ok Try.func19 (c := code Try.f19) rfl fun fr args H out h hp => wmWalkD h hp fun mk l1 l2 c1 c2 n rd r p v Rv hk hp hR => ?_
  split at hk
  · cases hk
    refine ⟨Nat.le_of_ble_eq_true rfl, fun G hG => ?_⟩
    refine fb_defer (g.ok _ _ _) rfl cont_std rfl rfl rfl rfl ?_
    refine Chk.mk (rds_rd _ _) ?_
    obtain ⟨B, hB⟩ : ∃ B : Blk, (⟨mk, l1, l2, c1, c2, (List.range n).map rd⟩ : Blk) = B := ⟨_, rfl⟩
    rw [hB] at hR
    have hB' : (⟨mk, l1, l2, c1, c2, rdL n fun i => rdC (rd i)⟩ : Blk) = B := hB
    refine Br.mk (fun h => ?_) (fun h => ?_)
    · have h : (!decide (errV ⟨mk, l1, l2, c1, c2, rdL n fun i => rdC (rd i)⟩ 0 true = 0)) = true := h
      rw [hB'] at h
      have h : ¬ errV B 0 true = 0 := by simpa using h
      have hw := hullE_err (L := fun p => [p.1]) h
      rw [hw] at hR
      exact hR _ _ ⟨⟨⟨rfl, rfl⟩, ⟨rfl, rfl⟩, trivial⟩, ⟨rfl, (by show errV ⟨mk, l1, l2, c1, c2, rdL n fun i => rdC (rd i)⟩ 0 true = errV B 0 true; rw [hB'])⟩, trivial⟩ rfl
    · have h : (!decide (errV ⟨mk, l1, l2, c1, c2, rdL n fun i => rdC (rd i)⟩ 0 true = 0)) = false := h
      rw [hB'] at h
      have h : errV B 0 true = 0 := by simpa using h
      obtain ⟨q1, q2, q3⟩ := errV_zero h
      refine Chk.mk ⟨rds_rd _ _, by rw [hB']; exact q1⟩ ?_
      refine Br.mk (fun h2 => ?_) (fun h2 => ?_)
      · have h2 : (!decide ((0 : Int) < ((pairsV ⟨mk, l1, l2, c1, c2, rdL n fun i => rdC (rd i)⟩).length : Int))) = true := h2
        rw [hB'] at h2
        have h2 : (pairsV B).length = 0 := by
          have : ¬ (0 : Int) < ((pairsV B).length : Int) := by simpa using h2
          omega
        rw [hullE_clash h h2] at hR
        exact hR _ _ ⟨⟨⟨rfl, rfl⟩, ⟨rfl, rfl⟩, trivial⟩, ⟨rfl, rfl⟩, trivial⟩ rfl
      · have h2 : (!decide ((0 : Int) < ((pairsV ⟨mk, l1, l2, c1, c2, rdL n fun i => rdC (rd i)⟩).length : Int))) = false := h2
        rw [hB'] at h2
        have h2 : ¬ (pairsV B).length = 0 := by
          have : (0 : Int) < ((pairsV B).length : Int) := by simpa using h2
          omega
        rw [hullE_ok h h2] at hR
        refine hR _ _ ⟨⟨⟨rfl, ?_⟩, ⟨rfl, ?_⟩, trivial⟩, ⟨rfl, rfl⟩, trivial⟩ rfl
        · show (hullV ⟨mk, l1, l2, c1, c2, rdL n fun i => rdC (rd i)⟩ fun p => [p.1]).1 = _
          rw [hB']
        · show (hullV ⟨mk, l1, l2, c1, c2, rdL n fun i => rdC (rd i)⟩ fun p => [p.1]).2 = _
          rw [hB']
  · cases hk
theorem g19 {l : List (Nat × Ct)} (g : Good P T l) : Good P T ((19, c19) :: l) := g.add (k19 g) (wmCt_mono _) (body_of Try.func19 (c := code Try.f19) rfl (by decide))
end Go.X.W
end

section
set_option linter.unusedVariables false
set_option linter.unusedSimpArgs false
set_option linter.unusedSectionVars false
/- Warm: Count. -/
set_option linter.unusedVariables false
set_option linter.unusedSimpArgs false
set_option maxRecDepth 10000
set_option maxHeartbeats 4000000
namespace Go.X.W
open Go Go.Proofs Go.X

end Go.X.W
end

section
set_option linter.unusedVariables false
set_option linter.unusedSimpArgs false
set_option linter.unusedSectionVars false
/- Warm: Room. -/
set_option linter.unusedVariables false
set_option linter.unusedSimpArgs false
set_option maxRecDepth 10000
set_option maxHeartbeats 4000000
namespace Go.X.W
open Go Go.Proofs Go.X

/-- Colder by so much no pair is shorter by more than is allowed. -/
def coldB (mk off : Int) (l : List Pr) (m : Nat) : Bool := l.all fun p => decide (-off ≤ growV mk p.2 (-(m : Int)))
def downTo (q : Nat → Bool) : Nat → Nat
  | 0 => 0
  | n + 1 => if q (n + 1) = true then n + 1 else downTo q n
theorem downTo_eq {q : Nat → Bool} {m : Nat} : ∀ {n : Nat}, m ≤ n → (m = 0 ∨ q m = true) → (∀ k, m < k → k ≤ n → q k = false) → downTo q n = m
  | 0, h, _, _ => by simp only [downTo]; omega
  | n + 1, h, h1, h2 => by
    simp only [downTo]
    by_cases e : m = n + 1
    · subst e
      rcases h1 with h1 | h1
      · omega
      · rw [if_pos h1]
    · rw [h2 (n + 1) (by omega) (Nat.le_refl _), if_neg Bool.false_ne_true]
      exact downTo_eq (by omega) h1 fun k k1 k2 => h2 k k1 (by omega)
def roomV (B : Blk) (off : Int) : Int := (downTo (coldB B.mark off (pairsV B)) 100 : Nat)
theorem growV_anti {mk a : Int} (h1 : 0 ≤ mk) (h2 : 0 ≤ a) {s t : Int} (h : s ≤ t) : growV mk a s ≤ growV mk a t := by
  unfold growV
  have : mk * a * s ≤ mk * a * t := Int.mul_le_mul_of_nonneg_left h (Int.mul_nonneg h1 h2)
  omega
theorem coldB_less {mk off : Int} {l : List Pr} (h1 : 0 ≤ mk) (h2 : ∀ p ∈ l, 0 ≤ p.2) {m k : Nat} (h : m ≤ k) (hc : coldB mk off l k = true) : coldB mk off l m = true := by
  unfold coldB at *
  rw [List.all_eq_true] at *
  intro p hp
  have := hc p hp
  simp only [decide_eq_true_eq] at *
  have := growV_anti h1 (h2 p hp) (show -(k : Int) ≤ -(m : Int) by omega)
  omega
theorem coldB_zero {mk off : Int} {l : List Pr} (h : 0 ≤ off) : coldB mk off l 0 = true := by
  unfold coldB
  rw [List.all_eq_true]
  intro p hp
  simp only [decide_eq_true_eq, growV]
  simp
  omega
theorem coldB_snoc {mk off : Int} {l : List Pr} {p : Pr} {m : Nat} : coldB mk off (l ++ [p]) m = (coldB mk off l m && decide (-off ≤ growV mk p.2 (-(m : Int)))) := by
  simp [coldB, List.all_append]
theorem coldB_perm {mk off : Int} {l l' : List Pr} (h : l.Perm l') (m : Nat) : coldB mk off l m = coldB mk off l' m := by
  unfold coldB
  rw [Bool.eq_iff_iff, List.all_eq_true, List.all_eq_true]
  exact ⟨fun hl p hp => hl p (h.mem_iff.2 hp), fun hl p hp => hl p (h.mem_iff.1 hp)⟩

def roomE (B : Blk) (off : Int) : Int × Int := if tellE B 0 (inB off 0 30000) = 0 then (roomV B off, 0) else (0, tellE B 0 (inB off 0 30000))
def c22 : Ct := wmCt fun B r => match r with
  | [.si .i64 off] => some (none, .tup [.si .i64 (roomE B off).1, .si .i64 (roomE B off).2])
  | _ => none
theorem k22 {l : List (Nat × Ct)} (g0 : Good P T l) : COk P 22 c22 := by
  have g := g67 (g68 (g66 (g57 g0)))
  refine cokDM (C := tabC _) g.ok answer_ok Try.func22 (c := code Try.f22) rfl fun fr args H out h hp => wmWalkD h hp fun mk l1 l2 c1 c2 n rd r p v Rv hk hp hR => ?_
  split at hk
  · rename_i off
    cases hk
    refine ⟨Nat.le_of_ble_eq_true rfl, fun G hG => ?_⟩
    refine fb_defer (g.ok _ _ _) rfl cont_std rfl rfl rfl rfl ?_
    refine drawn_ok (g.ok _ _ _) fol [0,0,2,7,15] [] 5 (by kernel_rfl) ?_
    refine Chk.mk (rds_rd _ _) ?_
    obtain ⟨is, his⟩ : ∃ is : Bool, inB off 0 30000 = is := ⟨_, rfl⟩
    obtain ⟨B, hB⟩ : ∃ B : Blk, (⟨mk, l1, l2, c1, c2, (List.range n).map rd⟩ : Blk) = B := ⟨_, rfl⟩
    have hmkB : B.mark = mk := by rw [← hB]
    have hB' : (⟨mk, l1, l2, c1, c2, rdL n fun i => rdC (rd i)⟩ : Blk) = B := hB
    rw [hB] at hR
    refine Br.mk (fun h => ?_) (fun h => ?_)
    · have h : (!decide (errV ⟨mk, l1, l2, c1, c2, rdL n fun i => rdC (rd i)⟩ 0 (inB off 0 30000) = 0)) = true := h
      rw [hB', his] at h
      have h : ¬ errV B 0 is = 0 := by simpa using h
      have hw : roomE B off = (0, errV B 0 is) := by rw [roomE, his, tellE, if_neg h, if_neg h]
      rw [hw] at hR
      exact hR _ _ ⟨⟨rfl, rfl⟩, ⟨rfl, (by show errV ⟨mk, l1, l2, c1, c2, rdL n fun i => rdC (rd i)⟩ 0 (inB off 0 30000) = errV B 0 is; rw [hB', his])⟩, trivial⟩ rfl
    · have h : (!decide (errV ⟨mk, l1, l2, c1, c2, rdL n fun i => rdC (rd i)⟩ 0 (inB off 0 30000) = 0)) = false := h
      rw [hB', his] at h
      have h : errV B 0 is = 0 := by simpa using h
      obtain ⟨q1, q2, q3⟩ := errV_zero h
      have hoff : 0 ≤ off ∧ off ≤ 30000 := by
        rw [q3] at his
        simpa only [inB, Bool.and_eq_true, decide_eq_true_eq] using his
      have hbb := blk_b q1
      have hm1 : 0 ≤ mk ∧ smB 1000 mk := by rw [← hmkB]; unfold smB; omega
      refine Chk.mk ⟨rds_rd _ _, by rw [hB']; exact q1⟩ ?_
      refine Br.mk (fun h2 => ?_) (fun h2 => ?_)
      · have h2 : (!decide ((0 : Int) < ((pairsV ⟨mk, l1, l2, c1, c2, rdL n fun i => rdC (rd i)⟩).length : Int))) = true := h2
        rw [hB'] at h2
        have h2 : (pairsV B).length = 0 := by
          have : ¬ (0 : Int) < ((pairsV B).length : Int) := by simpa using h2
          omega
        have hw : roomE B off = (0, 10) := by rw [roomE, his, tellE, if_pos h, if_pos h2, if_neg (by decide)]
        rw [hw] at hR
        exact hR _ _ ⟨⟨rfl, rfl⟩, ⟨rfl, rfl⟩, trivial⟩ rfl
      · have h2 : (!decide ((0 : Int) < ((pairsV ⟨mk, l1, l2, c1, c2, rdL n fun i => rdC (rd i)⟩).length : Int))) = false := h2
        rw [hB'] at h2
        have h2 : ¬ (pairsV B).length = 0 := by
          have : (0 : Int) < ((pairsV B).length : Int) := by simpa using h2
          omega
        have hw : roomE B off = (roomV B off, 0) := by rw [roomE, his, tellE, if_pos h, if_neg h2, if_pos rfl]
        rw [hw] at hR
        have hcf : ∀ p ∈ pairsV B, 0 ≤ p.2 ∧ smB 1000 p.2 := fun p hp => by
          have := (pairs_mem.1 hp).1
          unfold smB; omega
        refine fb_range encP encB (tellM (pairsV B)) 23 (g.ok _ _ _) cont_std rfl rfl rfl rfl rfl rfl rfl encP_key encB_cl rfl (by rw [← hB']; rfl) ?_
        intro hnd ts clock hts
        have hvp : ∀ {vis rest : List ((Pr × Bool) × Nat)}, ts.Perm (vis ++ rest) → ∀ x ∈ vis, x.1.1 ∈ pairsV B := fun hp x hx => by
          have h1 := hts.mem_iff.1 (List.mem_map_of_mem (f := fun x => x.1) (hp.mem_iff.2 (List.mem_append_left _ hx)))
          rw [tellM_eq (pairs_nodup B)] at h1
          obtain ⟨p, h2, h3⟩ := List.mem_map.1 h1
          rw [← h3]; exact h2
        refine loop_okR (g.ok _ _ _) 28 (fun x : {z : (List ((Pr × Bool) × Nat) × List ((Pr × Bool) × Nat)) × Nat // ts.Perm (z.1.1 ++ z.1.2) ∧ z.2 ≤ 100 ∧ coldB mk off (z.1.1.map (·.1.1)) z.2 = true ∧ ∀ k, z.2 < k → k ≤ 100 → coldB mk off (z.1.1.map (·.1.1)) k = false} =>
          ⟨[(1, ⟨[], .si .i64 off⟩), (2, ⟨[], .sp 1 0⟩), (5, ⟨[], .sp 2 0⟩), (7, ⟨[], .si .i64 x.1.2⟩), (15, ⟨[], .sp 27 0⟩)], [],
            [(27, .it 23 clock (x.1.1.1.map (·.2)) clock), (23, .map (encS encP encB ts) clock), (2, .cells 44 [.si .i64 0]), (1, .cells 36 (bC mk l1 l2 c1 c2 0)), (0, .ro 4 n fun i => rdC (rd i))], 28, [(56, [.sp 2 0])]⟩)
          (fun x => x.1.1.2.length) (fun j hj => hG j (by omega)) ⟨(([], ts), 100), by simp, by simp, by simp [coldB], fun k k1 k2 => by simp only at k1; omega⟩ (fun j => j) ?_ ?_
        · refine ⟨?_, ?_, rfl, rfl, rfl, rfl, ⟨rfl, ⟨⟨rfl, rfl⟩, trivial⟩, rfl, trivial⟩⟩
          · repeat' (first | exact trivial | exact rfl | refine And.intro ?_ ?_)
          · repeat' (first | exact trivial | exact rfl | (intro i hi; exact ⟨rfl, rfl⟩) | refine And.intro ?_ ?_)
        · rintro ⟨⟨⟨vis, rest⟩, m⟩, hp, hm, hgood, hbad⟩
          simp only at hp hm hgood hbad
          refine fb_next encP encB 23 27 clock ts vis rest (g.ok _ _ _) cont_std rfl rfl rfl rfl rfl encP_key encB_cl rfl rfl rfl hp ⟨fun hr => ?_, ?_⟩
          · replace hr : rest = [] := hr
            subst hr
            have hv : ts.Perm vis := by simpa using hp
            have hpv : (vis.map fun x => x.1.1).Perm (pairsV B) := by
              have h3 := (((hv.map fun x => x.1).symm.trans hts).map fun x : Pr × Bool => x.1)
              rw [tellM_eq (pairs_nodup B), List.map_map, List.map_map] at h3
              simpa [Function.comp_def] using h3
            have hroom : roomV B off = (m : Int) := by
              unfold roomV
              rw [hmkB, downTo_eq hm (.inr (by rw [← coldB_perm hpv]; exact hgood)) fun k k1 k2 => by rw [← coldB_perm hpv]; exact hbad k k1 k2]
            refine Br.mk (fun h => by cases h) (fun _ => ?_)
            rw [hroom] at hR
            exact hR _ _ ⟨⟨rfl, rfl⟩, ⟨rfl, rfl⟩, trivial⟩ rfl
          · rintro ⟨⟨⟨x, y⟩, bb⟩, b⟩ rest' hrest
            refine Br.mk (fun _ => ?_) (fun h => by cases h)
            have hpts : (((x, y), bb), b) ∈ ts := hp.mem_iff.2 (List.mem_append_right _ (hrest.mem_iff.2 List.mem_cons_self))
            have hpm : ts.Perm ((vis ++ [(((x, y), bb), b)]) ++ rest') := by
              rw [List.append_assoc]
              exact hp.trans (List.Perm.append_left _ hrest)
            have hy := hcf (x, y) (hvp hpm (((x, y), bb), b) (by simp))
            have hvn : ∀ p ∈ (vis ++ [(((x, y), bb), b)]).map (·.1.1), 0 ≤ p.2 := fun p hp' => by
              obtain ⟨z, hz, rfl⟩ := List.mem_map.1 hp'
              exact (hcf _ (hvp hpm z hz)).1
            have hvm : (vis ++ [(((x, y), bb), b)]).map (·.1.1) = vis.map (·.1.1) ++ [(x, y)] := by simp
            refine fb_entry encP encB 23 27 clock ts vis (((x, y), bb), b) (g.ok _ _ _) cont_std rfl rfl rfl rfl rfl encP_key encB_cl rfl rfl rfl hpts ?_
            refine loop_okR (g.ok _ _ _) 28 (fun z : {k : Nat // k ≤ m ∧ ∀ j, k < j → j ≤ 100 → coldB mk off (vis.map (·.1.1) ++ [(x, y)]) j = false} =>
              ⟨[(1, ⟨[], .si .i64 off⟩), (2, ⟨[], .sp 1 0⟩), (5, ⟨[], .sp 2 0⟩), (7, ⟨[], .si .i64 z.1⟩), (8, ⟨[], .sp 28 0⟩), (15, ⟨[], .sp 27 0⟩)], [],
                [(28, .cells 90 [.si .i64 x, .si .i64 y]), (27, .it 23 clock ((vis ++ [(((x, y), bb), b)]).map (·.2)) clock), (23, .map (encS encP encB ts) clock), (2, .cells 44 [.si .i64 0]), (1, .cells 36 (bC mk l1 l2 c1 c2 0)), (0, .ro 4 n fun i => rdC (rd i))], 29, [(56, [.sp 2 0])]⟩)
              (fun z => z.1) (fun j hj => hG j (by omega)) ⟨m, Nat.le_refl _, fun j j1 j2 => by rw [coldB_snoc, hbad j j1 j2]; rfl⟩ (fun j => j) ?_ ?_
            · refine ⟨?_, ?_, rfl, rfl, rfl, rfl, ⟨rfl, ⟨⟨rfl, rfl⟩, trivial⟩, rfl, trivial⟩⟩
              · repeat' (first | exact trivial | exact rfl | refine And.intro ?_ ?_)
              · repeat' (first | exact trivial | exact rfl | (intro i hi; exact ⟨rfl, rfl⟩) | refine And.intro ?_ ?_)
            · rintro ⟨k, hk1, hk2⟩
              refine Chk.mk (fun _ => (show InK .i64 (0 - (k : Int)) from ⟨by omega, by omega⟩)) ?_
              refine Chk.mk (fun _ => ⟨hm1.2, hy.2, (by show -1000 ≤ 0 - (k : Int) ∧ 0 - (k : Int) ≤ 1000; omega)⟩) ?_
              refine Chk.mk (fun _ => (show InK .i64 (0 - off) from ⟨by omega, by omega⟩)) ?_
              have hz : (0 : Int) - (k : Int) = -(k : Int) := by omega
              have hz2 : (0 : Int) - off = -off := by omega
              refine Br.mk (fun h3 => ?_) (fun h3 => ?_)
              · have h3 : (decide ((0 : Int) < (k : Int)) && decide (growV mk y (0 - (k : Int)) < 0 - off)) = true := h3
                rw [hz, hz2] at h3
                simp only [Bool.and_eq_true, decide_eq_true_eq] at h3
                refine Chk.mk (show InK .i64 ((k : Int) - 1) from ⟨by omega, by omega⟩) ⟨⟨k - 1, by omega, fun j j1 j2 => ?_⟩, (fun j => j), ?_, (by show k - 1 < k; omega)⟩
                · rcases Nat.lt_or_ge k j with h4 | h4
                  · exact hk2 j h4 j2
                  · obtain rfl : j = k := by omega
                    rw [coldB_snoc, decide_eq_false (by show ¬ -off ≤ growV mk y (-(j : Int)); omega), Bool.and_false]
                · refine ⟨?_, ?_, rfl, rfl, rfl, rfl, ⟨rfl, ⟨⟨rfl, rfl⟩, trivial⟩, rfl, trivial⟩⟩
                  · repeat' (first | exact trivial | exact rfl | refine And.intro ?_ ?_)
                    show (k : Int) - 1 = ((k - 1 : Nat) : Int)
                    omega
                  · repeat' (first | exact trivial | exact rfl | (intro i hi; exact ⟨rfl, rfl⟩) | refine And.intro ?_ ?_)
              · have h3 : (decide ((0 : Int) < (k : Int)) && decide (growV mk y (0 - (k : Int)) < 0 - off)) = false := h3
                rw [hz, hz2] at h3
                have hgk : coldB mk off (vis.map (·.1.1) ++ [(x, y)]) k = true := by
                  rcases Nat.eq_zero_or_pos k with rfl | hpos
                  · exact coldB_zero hoff.1
                  · rw [decide_eq_true (by omega), Bool.true_and, decide_eq_false_iff_not] at h3
                    rw [coldB_snoc, decide_eq_true (by show -off ≤ growV mk y (-(k : Int)); omega), Bool.and_true]
                    exact coldB_less hm1.1 (fun p hp' => hvn p (by rw [hvm]; exact List.mem_append_left _ hp')) hk1 hgood
                refine ⟨⟨((vis ++ [(((x, y), bb), b)], rest'), k), hpm, by simp only; omega, by simp only; rw [hvm]; exact hgk, fun j j1 j2 => by simp only; rw [hvm]; exact hk2 j j1 j2⟩, (fun j => j), ?_, (by show rest'.length < rest.length; rw [hrest.length_eq]; simp)⟩
                refine ⟨?_, ?_, rfl, rfl, rfl, rfl, ⟨rfl, ⟨⟨rfl, rfl⟩, trivial⟩, rfl, trivial⟩⟩
                · repeat' (first | exact trivial | exact rfl | refine And.intro ?_ ?_)
                · repeat' (first | exact trivial | exact rfl | (intro i hi; exact ⟨rfl, rfl⟩) | refine And.intro ?_ ?_)
  · cases hk
theorem g22 {l : List (Nat × Ct)} (g : Good P T l) : Good P T ((22, c22) :: l) := g.add (k22 g) (wmCt_mono _) (body_of Try.func22 (c := code Try.f22) rfl (by decide))
end Go.X.W
end

section
set_option linter.unusedVariables false
set_option linter.unusedSimpArgs false
set_option linter.unusedSectionVars false
/- TopWarmed: the samples, awake04. -/
set_option linter.unusedVariables false
set_option linter.unusedSimpArgs false
set_option maxRecDepth 10000
set_option maxHeartbeats 4000000
namespace Go.X.W
open Go Go.Proofs Go.X

def smpS (i : Nat) : Span := [((10 : Int), (10 : Int)), (12, 13), (20, 20), (31, 32)].getD i (0, 0)
def smpSL : List Span := [(10, 10), (12, 13), (20, 20), (31, 32)]
theorem e_few4 : S.fewW smpSL 1 2 42 45 = (9, 0) := by decide +kernel
def smpW : Blk := ⟨50, -3, 3, 10, 12, [(1, 2, 52, 58)]⟩
theorem e_room4 : roomE smpW 60 = (1, 0) := by decide +kernel
theorem e_smp : (spanL 4 fun i => spanC (smpS i)) = smpSL := by decide
def c51 : Ct := fun fr args H =>
  match args with
  | [] => some ⟨none, none, .agg [.sl fr, .si .i64 1, .si .i64 2], [(fr, .ro 2 4 fun i => spanC (smpS i))]⟩
  | _ => none
theorem c51_mono : CtMono c51 := by
  intro fr args H H' out hH h
  unfold c51 at h ⊢
  exact h
theorem hand_nil (H : LH) : Hand H [] where
  ok j c hb h := by simp at h
  ids j c hb h := by simp at h
  inj i j c hb hb' h _ _ _ := by simp at h
theorem k51 {l : List (Nat × Ct)} (g0 : Good P T l) : COk P 51 c51 := by
  have g := g18t g0
  refine cok (C := tabC _) g.ok Try.func51 (c := code Try.f51) rfl fun fr args H out h hp => ?_
  unfold c51 at h
  split at h
  · cases h
    refine ⟨[], [], [], 0, [1], rfl, rfl, Nat.le_of_ble_eq_true rfl, hand_nil H, rfl, rfl, fun G hG => ?_⟩
    refine ⟨.inl rfl, ⟨⟨rfl, ⟨rfl, rfl⟩, ⟨rfl, rfl⟩, trivial⟩, rfl, ⟨rfl, ⟨rfl, rfl, fun i hi => ?_⟩, trivial⟩, trivial, rfl, rfl⟩⟩
    have hi : i < 4 := hi
    rcases (show i = 0 ∨ i = 1 ∨ i = 2 ∨ i = 3 by omega) with rfl | rfl | rfl | rfl <;> exact ⟨rfl, rfl⟩
  · cases h
theorem g51 {l : List (Nat × Ct)} (g : Good P T l) : Good P T ((51, c51) :: l) := g.add (k51 g) c51_mono (body_of Try.func51 (c := code Try.f51) rfl (by decide))
def c52 : Ct := fun fr args H =>
  match args with
  | [] => some ⟨none, none, .agg [.si .i64 50, .si .i64 (-3), .si .i64 3, .si .i64 10, .si .i64 12, .sl fr], [(fr, .ro 4 1 fun i => rdC (1, 2, 52, 58))]⟩
  | _ => none
theorem c52_mono : CtMono c52 := by
  intro fr args H H' out hH h
  unfold c52 at h ⊢
  exact h
theorem k52 {l : List (Nat × Ct)} (g0 : Good P T l) : COk P 52 c52 := by
  have g := g18t g0
  refine cok (C := tabC _) g.ok Try.func52 (c := code Try.f52) rfl fun fr args H out h hp => ?_
  unfold c52 at h
  split at h
  · cases h
    refine ⟨[], [], [], 0, [1], rfl, rfl, Nat.le_of_ble_eq_true rfl, hand_nil H, rfl, rfl, fun G hG => ?_⟩
    refine ⟨.inl rfl, ⟨⟨⟨rfl, rfl⟩, ⟨rfl, rfl⟩, ⟨rfl, rfl⟩, ⟨rfl, rfl⟩, ⟨rfl, rfl⟩, rfl, trivial⟩, rfl, ⟨rfl, ⟨rfl, rfl, fun i hi => ?_⟩, trivial⟩, trivial, rfl, rfl⟩⟩
    have hi : i < 1 := hi
    obtain rfl : i = 0 := by omega
    exact ⟨rfl, rfl⟩
  · cases h
theorem g52 {l : List (Nat × Ct)} (g : Good P T l) : Good P T ((52, c52) :: l) := g.add (k52 g) c52_mono (body_of Try.func52 (c := code Try.f52) rfl (by decide))
theorem g21s {l : List (Nat × Ct)} (g : Good P T l) : Good P T ((21, S.c21) :: l) := g.add (S.k21 S.good0) (S.stCt_mono _) (body_of Try.func21 (c := code Try.f21) rfl (by decide))
theorem g20s {l : List (Nat × Ct)} (g : Good P T l) : Good P T ((20, S.c34) :: l) := g.add (S.k34 S.good0) (S.stCt_mono _) (body_of Try.func20 (c := code Try.f20) rfl (by decide))
def c14 : Ct := plainCt fun
  | [] => some ⟨none, none, .sb true, []⟩
  | _ => none
theorem k14 {l : List (Nat × Ct)} (g0 : Good P T l) : COk P 14 c14 := by
  have g := g22 (g21s (g52 (g51 (g18t good0))))
  refine cok (C := tabC _) g.ok Try.func14 (c := code Try.f14) rfl fun fr args H out h hp => ?_
  simp only [c14, plainCt] at h
  split at h
  · cases h
    refine walk_plain rfl (Nat.le_of_ble_eq_true rfl) fun G hG => ?_
    refine Chk.mk ⟨fun i hi => ?_, rfl, (show (spanL 4 fun i => spanC (smpS i)).length ≤ 40 by rw [e_smp]; decide)⟩ ?_
    · rcases (show i = 0 ∨ i = 1 ∨ i = 2 ∨ i = 3 by omega) with rfl | rfl | rfl | rfl <;> rfl
    refine Chk.mk ⟨fun i hi => ?_, rfl, ?_⟩ ?_
    · obtain rfl : i = 0 := by omega
      rfl
    · trivial
    refine ⟨.inl rfl, end_plain ?_ rfl rfl⟩
    show (_ : Bool) = true
    rw [e_smp, e_few4, show (⟨50, -3, 3, 10, 12, rdL 1 fun i => rdC (1, 2, 52, 58)⟩ : Blk) = smpW from rfl, e_room4]
    rfl
  · cases h
theorem g14 {l : List (Nat × Ct)} (g : Good P T l) : Good P T ((14, c14) :: l) := g.add (k14 g) (plainCt_mono _) (body_of Try.func14 (c := code Try.f14) rfl (by decide))
end Go.X.W
end

section
set_option linter.unusedVariables false
set_option linter.unusedSimpArgs false
set_option linter.unusedSectionVars false
/- Regions of any order: cells that get numbers of their own, whatever the order is (ids renumbered behind each operation). -/
set_option linter.unusedVariables false
set_option linter.unusedSimpArgs false
set_option maxRecDepth 10000
set_option maxHeartbeats 4000000
namespace Go.X
open Go

def keepN (s : Nat → Nat) (n : Nat) : List (Nat × FE) → Prop
  | [] => True
  | (_, ⟨[], v⟩) :: r => (SVeq v (renSV s v) ∧ idsSV n v = true) ∧ keepN s n r
  | _ :: _ => False
theorem keepN_mem {s : Nat → Nat} {n : Nat} : ∀ {L : List (Nat × FE)}, keepN s n L → ∀ p ∈ L, p.2.gp = [] ∧ SVeq p.2.v (renSV s p.2.v) ∧ idsSV n p.2.v = true
  | [], _, p, h => by cases h
  | (_, ⟨[], v⟩) :: r, hk, p, h => by
    rcases List.mem_cons.1 h with rfl | h
    · exact ⟨rfl, hk.1⟩
    · exact keepN_mem hk.2 p h
  | (_, ⟨_ :: _, _⟩) :: _, hk, p, h => hk.elim
theorem weakRF_mem {s : Nat → Nat} {n : Nat} {F : List (Nat × FE)} : ∀ {L : List (Nat × FE)}, weakRF s n F L → ∀ p ∈ L, p.2.gp = [] ∧ ∃ u, findF F p.1 = some ⟨[], u⟩ ∧ SVeq u (renSV s p.2.v) ∧ idsSV n p.2.v = true
  | [], _, p, h => by cases h
  | (t, ⟨[], v⟩) :: r, hk, p, h => by
    simp only [weakRF] at hk
    rcases List.mem_cons.1 h with rfl | h
    · have h1 := hk.1
      split at h1
      · rename_i u e1
        exact ⟨rfl, u, e1, h1.1, h1.2⟩
      · exact h1.elim
    · exact weakRF_mem hk.2 p h
  | (_, ⟨_ :: _, _⟩) :: _, hk, p, h => by simp only [weakRF] at hk
theorem weakRF_of {s : Nat → Nat} {n : Nat} {F : List (Nat × FE)} : ∀ {L : List (Nat × FE)}, (∀ p ∈ L, p.2.gp = [] ∧ ∃ u, findF F p.1 = some ⟨[], u⟩ ∧ SVeq u (renSV s p.2.v) ∧ idsSV n p.2.v = true) → weakRF s n F L
  | [], _ => trivial
  | (t, ⟨g, v⟩) :: r, h => by
    obtain ⟨h1, u, h2, h3, h4⟩ := h (t, ⟨g, v⟩) List.mem_cons_self
    have h1 : g = [] := h1
    subst h1
    simp only [weakRF]
    rw [h2]
    exact ⟨⟨h3, h4⟩, weakRF_of fun p hp => h p (List.mem_cons_of_mem _ hp)⟩
theorem findF_none {t : Nat} : ∀ {L : List (Nat × FE)}, (∀ p ∈ L, p.1 ≠ t) → ∀ B, findF (L ++ B) t = findF B t
  | [], _, B => rfl
  | (d, x) :: r, h, B => by
    have hd : Nat.beq d t = false := by
      cases hb : Nat.beq d t with
      | false => rfl
      | true => exact absurd (Nat.eq_of_beq_eq_true hb) (h (d, x) List.mem_cons_self)
    show findF ((d, x) :: (r ++ B)) t = _
    simp only [findF, hd]
    exact findF_none (fun q hq => h q (List.mem_cons_of_mem _ hq)) B
theorem findF_app {B : List (Nat × FE)} {t : Nat} {e : FE} : ∀ {L : List (Nat × FE)}, findF L t = some e → findF (L ++ B) t = some e
  | [], h => by cases h
  | (d, x) :: r, h => by
    show findF ((d, x) :: (r ++ B)) t = _
    simp only [findF] at h ⊢
    split at h
    · rename_i hd
      simp only [hd]
      exact h
    · rename_i hd
      simp only [hd]
      exact findF_app h

/-- A renumbering behind an operation. -/
structure NewR (n0 : Nat) (s : Nat → Nat) (N : Nat) (sl' sl : List (Nat × FE)) (H' H : List (Nat × HB)) (D : List SDef) : Prop where
  wF : weakRF s N sl' sl
  key : sl'.map (·.1) = sl.map (·.1)
  wH : weakRH s N H' H
  inj : injI s H = true
  fix : fixI s n0 = true
  ge : Nat.ble n0 N = true
  wD : weakRD s N D D
theorem any_latN {D : List SDef} {X : Cx} {ops : Array Oper} {K : Ex → St → Prop} (hX : X.Ok) (m : Nat) (arr : List Bool → Array Bool) (opi : Nat → Nat) (ex : List Bool → Bool) (slots : Nat → List (Nat × FE)) (base : List (Nat × FE)) (Hf : List Bool → List (Nat × HB)) (nxf : List Bool → Nat) (anc : Nat → List Nat) (rest : Nat) (n0 : Nat) (hn : ∀ j, n0 ≤ j → X.G.ρ j = none)
    (hanc : ∀ i, i < m → ∀ j ∈ anc i, j < m) (hchk : ∀ l ∈ allB m, latX ops m arr opi ex anc l = true) (hA : subF (slF slots base (List.replicate m true)) (slF slots base (List.replicate m true)))
    (hst : ∀ i, i < m → ∀ l : List Bool, l.length = m → l.getD i true = false → (∀ j ∈ anc i, l.getD j false = true) → clB2 anc l = true → ∃ o, ops[opi i]? = some o ∧ o.guard = none ∧
      ((∀ (tail : List (Nat × FE)) (Q : Exit → Act → World → Prop) (Kn : St → Prop), Cont X Q Kn (fun _ _ => False) → Kn ⟨slots i ++ ((anc i).flatMap slots ++ (base ++ tail)), [], Hf (l.set i true), nxf (l.set i true), D⟩ →
        execL X [o] Q Kn (fun _ _ => False) 0 [o] ⟨(anc i).flatMap slots ++ (base ++ tail), [], Hf l, nxf l, D⟩) ∨
      ∃ (s : Nat → Nat) (sl' : List (Nat × FE)) (H' : List (Nat × HB)) (nx' : Nat), NewR n0 s (nxf (l.set i true)) sl' (slots i) H' (Hf (l.set i true)) D ∧ keepN s (nxf (l.set i true)) base ∧ (∀ j, j < m → j ≠ i → keepN s (nxf (l.set i true)) (slots j)) ∧
        ∀ (tail : List (Nat × FE)) (Q : Exit → Act → World → Prop) (Kn : St → Prop), Cont X Q Kn (fun _ _ => False) → Kn ⟨sl' ++ ((anc i).flatMap slots ++ (base ++ tail)), [], H', nx', D⟩ →
          execL X [o] Q Kn (fun _ _ => False) 0 [o] ⟨(anc i).flatMap slots ++ (base ++ tail), [], Hf l, nxf l, D⟩))
    (hend : ∀ l : List Bool, l.length = m → ex l = true → AnyS X ops (l.count false + rest) (arr l) ⟨slF slots base l, [], Hf l, nxf l, D⟩ K) :
    ∀ l : List Bool, l.length = m → clB2 anc l = true → AnyS X ops (l.count false + rest) (arr l) ⟨slF slots base l, [], Hf l, nxf l, D⟩ K := by
  have hA' : ∀ p ∈ slF slots base (List.replicate m true), findF (slF slots base (List.replicate m true)) p.1 = some p.2 ∧ p.2.gp = [] := by
    generalize slF slots base (List.replicate m true) = A at hA
    have : ∀ L : List (Nat × FE), subF A L → ∀ p ∈ L, findF A p.1 = some p.2 ∧ p.2.gp = [] := by
      intro L
      induction L with
      | nil => intro _ p hp; cases hp
      | cons q r ih =>
        intro h p hp
        obtain ⟨d, e⟩ := q
        rcases List.mem_cons.1 hp with rfl | hp
        · exact h.1
        · exact ih h.2 p hp
    exact this A hA
  have hall : ∀ l : List Bool, l.length = m → ∀ p ∈ slF slots base l, p ∈ slF slots base (List.replicate m true) := by
    intro l hl p hp
    rcases slF_mem.1 hp with ⟨i, hi, _, h⟩ | h
    · refine slF_mem.2 (.inl ⟨i, by simpa [hl] using hi, ?_, h⟩)
      have : i < m := hl ▸ hi
      simp [List.getD, this]
    · exact slF_mem.2 (.inr h)
  have main : ∀ k, ∀ l : List Bool, l.length = m → clB2 anc l = true → l.count false = k → AnyS X ops (k + rest) (arr l) ⟨slF slots base l, [], Hf l, nxf l, D⟩ K := by
    intro k
    induction k with
    | zero =>
      intro l hl hcl hk
      have hc := hchk l (hl ▸ mem_allB l)
      cases he : ex l with
      | true => have := hend l hl he; rw [hk] at this; exact this
      | false =>
        unfold latX at hc
        rw [hcl, he] at hc
        simp only [Bool.not_true, Bool.false_or, Bool.and_eq_true, Bool.not_eq_true', List.all_eq_true, List.any_eq_true, beq_iff_eq] at hc
        obtain ⟨hne, hrs⟩ := hc
        cases hr : Region.ready .any ops (arr l) with
        | nil => rw [hr] at hne; cases hne
        | cons o r =>
          obtain ⟨i, him, -, hif, -⟩ := hrs o (by rw [hr]; exact List.mem_cons_self)
          have him : i < m := List.mem_range.1 him
          have hil : i < l.length := by omega
          have hli2 : l[i] = false := by
            rw [List.getD, List.getElem?_eq_getElem hil] at hif
            simpa using hif
          have : false ∈ l := hli2 ▸ List.getElem_mem hil
          have := List.count_pos_iff.2 this
          omega
    | succ k ih =>
      intro l hl hcl hk
      have hc := hchk l (hl ▸ mem_allB l)
      cases he : ex l with
      | true => have := hend l hl he; rw [hk] at this; exact this
      | false =>
      unfold latX at hc
      rw [hcl, he] at hc
      simp only [Bool.not_true, Bool.false_or, Bool.and_eq_true, Bool.not_eq_true', List.all_eq_true, List.any_eq_true, beq_iff_eq] at hc
      obtain ⟨hne, hrs⟩ := hc
      refine ⟨fun ρ a w hmod => ?_⟩
      rw [show k + 1 + rest = (k + rest) + 1 by omega]
      refine wpAnyIn_all (rs := Region.ready .any ops (arr l)) rfl (by intro h; rw [h] at hne; cases hne) fun oi hi => ?_
      obtain ⟨i, him, rfl, hif, hia, hset⟩ := hrs oi hi
      have him : i < m := List.mem_range.1 him
      have hil : i < l.length := by omega
      obtain ⟨o, ho, hg, hstep⟩ := hst i him l hl hif hia hcl
      rw [hset]
      have hlen : (l.set i true).length = m := by rw [List.length_set, hl]
      have hget : ∀ j, (l.set i true).getD j false = true ↔ j = i ∨ l.getD j false = true := by
        intro j
        simp only [List.getD, List.getElem?_set]
        by_cases e : i = j
        · subst e; simp [hil]
        · simp [e, Ne.symm e]
      have hcl' : clB2 anc (l.set i true) = true := by
        unfold clB2 at hcl ⊢
        rw [List.all_eq_true] at hcl ⊢
        intro j hj
        rw [List.length_set] at hj
        have h0 := hcl j hj
        cases hd : (l.set i true).getD j false with
        | false => rfl
        | true =>
          rw [Bool.not_true, Bool.false_or, List.all_eq_true]
          intro q hq
          refine (hget q).2 ?_
          rcases (hget j).1 hd with rfl | hd
          · exact .inr (hia q hq)
          · rw [hd] at h0
            rw [Bool.not_true, Bool.false_or, List.all_eq_true] at h0
            exact .inr (h0 q hq)
      have hcount : (l.set i true).count false = k := by
        have hli : l[i]? = some false := by
          have : l.getD i true = false := hif
          rw [List.getD, List.getElem?_eq_getElem hil] at this
          rw [List.getElem?_eq_getElem hil]
          simpa using this
        have hli2 : l[i] = false := by rw [List.getElem?_eq_getElem hil] at hli; simpa using hli
        have := List.count_set (a := true) (b := false) (l := l) (i := i) hil
        rw [hli2] at this
        simp at this
        omega
      have ihh := ih (l.set i true) hlen hcl' hcount
      have hmem : ∀ p ∈ (anc i).flatMap slots ++ (base ++ slF slots base l), p ∈ slF slots base l := by
        intro p hp
        rcases List.mem_append.1 hp with hp | hp
        · obtain ⟨j, hj, hp⟩ := List.mem_flatMap.1 hp
          exact slF_mem.2 (.inl ⟨j, hl ▸ hanc i him j hj, hia j hj, hp⟩)
        · rcases List.mem_append.1 hp with hp | hp
          · exact slF_mem.2 (.inr hp)
          · exact hp
      have hmod' := mod_sub (F' := (anc i).flatMap slots ++ (base ++ slF slots base l)) hA' (hall l hl) hmem (Nat.le_refl _) hmod
      refine stepsK_ok hX (l := [opi i]) (K := K) (st := ⟨(anc i).flatMap slots ++ (base ++ slF slots base l), [], Hf l, nxf l, D⟩) ⟨?_, trivial⟩ (opi i) (List.mem_singleton.2 rfl) ρ a w hmod' |> fun h => by rw [hset] at h; exact h
      have hnth : nth ops.toList (opi i) = some o := by rw [nth_eq, Array.getElem?_toList]; exact ho
      rw [hnth]
      show (match o.guard with
        | none => _
        | some _ => False)
      rw [hg]
      have hfin : AnyS X ops (k + rest) ((arr l).setIfInBounds (opi i) true) ⟨slots i ++ ((anc i).flatMap slots ++ (base ++ slF slots base l)), [], Hf (l.set i true), nxf (l.set i true), D⟩ K := by
        rw [hset]
        refine ⟨fun ρ a w hm2 => ?_⟩
        refine ihh.h ρ a w (mod_sub (F := slots i ++ ((anc i).flatMap slots ++ (base ++ slF slots base l))) (nx := nxf (l.set i true)) hA' ?_ ?_ (Nat.le_refl _) hm2)
        · intro p hp
          rcases List.mem_append.1 hp with hp | hp
          · refine slF_mem.2 (.inl ⟨i, by simpa using him, ?_, hp⟩)
            simp [List.getD, him]
          · exact hall l hl p (hmem p hp)
        · intro p hp
          rcases slF_mem.1 hp with ⟨j, hj, hd, hp2⟩ | hp2
          · rw [List.length_set] at hj
            rcases (hget j).1 hd with e | hd
            · exact List.mem_append_left _ (e ▸ hp2)
            · exact List.mem_append_right _ (List.mem_append_right _ (List.mem_append_right _ (slF_mem.2 (.inl ⟨j, hj, hd, hp2⟩))))
          · exact List.mem_append_right _ (List.mem_append_right _ (List.mem_append_left _ hp2))

      rcases hstep with hstep | ⟨s, sl', H', nx', hN, hkb, hks, hstep⟩
      · exact hstep _ _ _ cont_any hfin
      · refine hstep _ _ _ cont_any (any_weaken n0 s hn (st' := ⟨slots i ++ ((anc i).flatMap slots ++ (base ++ slF slots base l)), [], Hf (l.set i true), nxf (l.set i true), D⟩) ?_ hfin)
        refine ⟨weakRF_of fun p hp => ?_, hN.wH, hN.inj, hN.fix, hN.ge, rfl, hN.wD⟩
        have h1 : ∀ p ∈ slots i, p.2.gp = [] ∧ ∃ u, findF (sl' ++ ((anc i).flatMap slots ++ (base ++ slF slots base l))) p.1 = some ⟨[], u⟩ ∧ SVeq u (renSV s p.2.v) ∧ idsSV (nxf (l.set i true)) p.2.v = true := fun p hp => by
          obtain ⟨q1, u, q2, q3, q4⟩ := weakRF_mem hN.wF p hp
          exact ⟨q1, u, findF_app q2, q3, q4⟩
        rcases List.mem_append.1 hp with hp | hp
        · exact h1 p hp
        · have hpA := hall l hl p (hmem p hp)
          by_cases hk : ∃ q ∈ sl', q.1 = p.1
          · obtain ⟨q, hq, hqp⟩ := hk
            have : p.1 ∈ (slots i).map (·.1) := by rw [← hN.key]; exact List.mem_map.2 ⟨q, hq, hqp⟩
            obtain ⟨q2, hq2, hqp2⟩ := List.mem_map.1 this
            have hA2 : q2 ∈ slF slots base (List.replicate m true) := slF_mem.2 (.inl ⟨i, by simpa using him, by simp [List.getD, him], hq2⟩)
            have e1 := (hA' _ hA2).1
            have e2 := (hA' _ hpA).1
            rw [hqp2, e2] at e1
            have : p = q2 := Prod.ext hqp2.symm (Option.some.inj e1)
            exact h1 p (this ▸ hq2)
          · have hkeep : p.2.gp = [] ∧ SVeq p.2.v (renSV s p.2.v) ∧ idsSV (nxf (l.set i true)) p.2.v = true := by
              rcases slF_mem.1 (hmem p hp) with ⟨j, hj, hd, hp2⟩ | hp2
              · refine keepN_mem (hks j (hl ▸ hj) ?_) p hp2
                rintro rfl
                rw [List.getD, List.getElem?_eq_getElem hj] at hif hd
                simp at hif hd
                rw [hif] at hd; cases hd
              · exact keepN_mem hkb p hp2
            refine ⟨hkeep.1, p.2.v, ?_, hkeep.2⟩
            rw [findF_none fun q hq hqp => hk ⟨q, hq, hqp⟩]
            have e3 : findF ((anc i).flatMap slots ++ (base ++ slF slots base l)) p.1 = some p.2 := (findF_mem (A := slF slots base (List.replicate m true)) (L := (anc i).flatMap slots ++ (base ++ slF slots base l)) fun q hq => (hA' q (hall l hl q (hmem q hq))).1).2 hp
            rw [e3, ← hkeep.1]
  exact fun l hl hcl => main _ l hl hcl rfl
end Go.X
end

section
set_option linter.unusedVariables false
set_option linter.unusedSimpArgs false
set_option linter.unusedSectionVars false
/- Slices frozen, be they empty or not; nil in a struct's cell; rows whose arguments hold slices of slices. -/
set_option linter.unusedVariables false
set_option linter.unusedSimpArgs false
set_option maxRecDepth 10000
set_option maxHeartbeats 4000000
namespace Go.X
open Go Go.ChangeShapes Go.WideShapes Go.ChangeAt Go.RowKit
section
variable {X : Cx} {ρ : Env} {st : St} {a : Act} {w : World}
/-- A slice of none is told of. -/
theorem Mod.famAdd0 (hm : Mod X ρ st a w) {fid size : Nat} {C : Value → Nat → (Nat → List SV) → Prop} (h2 : findH st.H fid = some (.fam size C)) (v : Value) (get : Nat → List SV) (hv : famOk w size v 0 get) :
    Mod X ρ { st with H := (fid, .fam size (addC C v 0 get)) :: st.H } a w := by
  obtain ⟨nf, f1, f2⟩ := hm.hm.ok _ _ h2
  have hfz : ∀ b, Fz (findH ((fid, .fam size (addC C v 0 get)) :: st.H)) b → Fz (findH st.H) b := by
    rintro b ⟨id, s2, C', v', m, get', q1, q2, q3, q4⟩
    rw [findH_cons] at q1
    by_cases e1 : fid = id
    · subst e1
      rw [updL_self] at q1; cases q1
      rcases q2 with ⟨rfl, rfl, rfl⟩ | q2
      · omega
      · exact ⟨_, _, C, v', m, get', h2, q2, q3, q4⟩
    · rw [updL_ne _ _ e1] at q1
      exact ⟨id, s2, C', v', m, get', q1, q2, q3, q4⟩
  have hown : ∀ b, Own ρ (findH ((fid, .fam size (addC C v 0 get)) :: st.H)) b → Own ρ (findH st.H) b := by
    rintro b ⟨j, x, nm', q1, q2, q3, q4⟩
    rw [findH_cons] at q1
    by_cases e1 : fid = j
    · subst e1
      rw [updL_self] at q1; cases q1
      rw [f1] at q3; cases q3
      cases nf <;> simp only [HBok] at f2
      cases q4
    · rw [updL_ne _ _ e1] at q1
      exact ⟨j, x, nm', q1, q2, q3, q4⟩
  exact {
    fm := hm.fm
    gs := hm.gs
    df := hm.df
    hm := {
      ok := fun j x hj => by
        rw [findH_cons] at hj
        by_cases e1 : fid = j
        · subst e1
          rw [updL_self] at hj; cases hj
          refine ⟨nf, f1, ?_⟩
          cases nf <;> simp only [HBok] at f2 ⊢
          refine ⟨f2.1, fun v' m get' hc => ?_⟩
          rcases hc with ⟨rfl, rfl, rfl⟩ | hc
          · exact hv
          · exact f2.2 v' m get' hc
        · rw [updL_ne _ _ e1] at hj
          exact hm.hm.ok j x hj
      sep := fun i j x y n₁ n₂ b q1 q2 l1 l2 r1 r2 o1 o2 => by
        have key : ∀ {i : Nat} {x : HB} {n₁ : Nm}, findH ((fid, .fam size (addC C v 0 get)) :: st.H) i = some x → ρ i = some n₁ → n₁.owner = some b → findH st.H i = some x := by
          intro i x n₁ q1 r1 o1
          rw [findH_cons] at q1
          by_cases e1 : fid = i
          · subst e1
            rw [f1] at r1; cases r1
            cases nf <;> simp only [HBok] at f2
            cases o1
          · rw [updL_ne _ _ e1] at q1; exact q1
        exact hm.hm.sep i j x y n₁ n₂ b (key q1 r1 o1) (key q2 r2 o2) l1 l2 r1 r2 o1 o2
      ro := fun j size m get' nm b hj hpos hr hb ho => by
        rw [findH_cons] at hj
        by_cases e1 : fid = j
        · subst e1; rw [updL_self] at hj; cases hj
        · rw [updL_ne _ _ e1] at hj
          exact hm.hm.ro j size m get' nm b hj hpos hr hb (hown b ho)
      fam := fun b hz ho => hm.hm.fam b (hfz b hz) (hown b ho) }
    kp := {
      str := hm.kp.str
      size := hm.kp.size
      same := hm.kp.same
      own := fun b ho => hm.kp.own b (hown b ho)
      ext := hm.kp.ext
      fz := fun b hz => hm.kp.fz b (hfz b hz) }
    nx := hm.nx
    sz := hm.sz }
/-- A slice by its value: nil, or n of a block. -/
def isSl (v : Value) (n : Nat) : Prop := (v = .slice none 0 0 ∧ n = 0) ∨ ∃ ad c, v = .slice (some ad) n c
theorem isSl.one {v : Value} {n : Nat} (h : isSl v n) : v.oneCell' = true := by
  rcases h with ⟨rfl, _⟩ | ⟨ad, c, rfl⟩ <;> rfl
theorem Mod.freezeN (hm : Mod X ρ st a w) {sid fid e size n : Nat} {get : Nat → List SV} {C : Value → Nat → (Nat → List SV) → Prop} (h1 : findH st.H sid = some (.vec e size n get))
    (hcl : ∀ i, i < n → idsL 0 (get i) = true) (h2 : findH st.H fid = some (.fam size C)) :
    ∃ v, isSl v n ∧ den ρ (.sl sid) = some v ∧ Mod X ρ { st with H := (fid, .fam size (addC C v n get)) :: (sid, .dead) :: st.H } a w := by
  rcases Nat.eq_zero_or_pos n with rfl | hn
  · have hne : sid ≠ fid := by rintro rfl; rw [h1] at h2; cases h2
    obtain ⟨nm, g1, g2⟩ := hm.hm.ok _ _ h1
    have hk := hm.kill h1
    have h2' : findH ((sid, .dead) :: st.H) fid = some (.fam size C) := by rw [findH_skip hne]; exact h2
    cases nm <;> simp only [HBok] at g2
    · obtain ⟨rfl, rfl, rfl, _, rfl⟩ := g2
      exact ⟨_, .inl ⟨rfl, rfl⟩, by simp [den, g1], hk.famAdd0 (st := { st with H := (sid, .dead) :: st.H }) h2' _ get ⟨_, _, rfl, Nat.le_refl _, fun h => by omega⟩⟩
    · obtain ⟨rfl, rfl, hle, _⟩ := g2
      exact ⟨_, .inr ⟨_, _, rfl⟩, by simp [den, g1]; exact ⟨rfl, rfl⟩, hk.famAdd0 (st := { st with H := (sid, .dead) :: st.H }) h2' _ get ⟨_, _, rfl, Nat.zero_le _, fun h => by omega⟩⟩
  · obtain ⟨ad, c, hd, hm'⟩ := hm.freeze h1 hn hcl h2
    exact ⟨_, .inr ⟨ad, c, rfl⟩, hd, hm'⟩
def frzNK (sid fid : Nat) (ds hs : List Nat) (st : St) (Kst : St → Prop) : Prop :=
  match findH st.H sid, findH st.H fid with
  | some (.vec _ size n get), some (.fam size' C) => Nat.beq size size' = true ∧ (∀ i, i < n → idsL 0 (get i) = true) ∧ memN hs fid = false ∧ memN hs sid = false ∧ hs.Nodup ∧ ∀ (v : Value), isSl v n →
      fFzF sid v st.F ds st.F fun F' => fFzH sid v st.H hs st.H fun H' =>
        Kst ⟨F', st.gs, (fid, .fam size' (addC C v n get)) :: (sid, .dead) :: H', st.nx, st.D⟩
  | _, _ => False
theorem frzN_ok {sid fid : Nat} {ds hs : List Nat} {Kst : St → Prop} (h : frzNK sid fid ds hs st Kst) (hm : Mod X ρ st a w) : ∃ ρ' st', Mod X ρ' st' a w ∧ Kst st' := by
  unfold frzNK at h
  split at h
  · rename_i e size n get size' C e1 e2
    obtain ⟨hs', hcl, hm1, hm2, hnd, h⟩ := h
    have hs' : size = size' := by simpa using hs'
    subst hs'
    obtain ⟨v, hv, hd, _⟩ := hm.freezeN e1 hcl e2
    obtain ⟨F', g1, g2⟩ := fFzF_ok (v := v) hv.one hd ds (fun t u hu => ⟨u, hu, rfl⟩) hm (h v hv)
    obtain ⟨H', k1, k2, k3⟩ := fFzH_ok (v := v) hv.one hd hs (st := { st with F := F' }) (fun t x hx => .inl hx) hnd g1 g2
    have q1 : findH H' sid = some (.vec e size n get) := by rw [k2 sid fun hc => by rw [memN_iff.2 hc] at hm2; cases hm2]; exact e1
    have q2 : findH H' fid = some (.fam size C) := by rw [k2 fid fun hc => by rw [memN_iff.2 hc] at hm1; cases hm1]; exact e2
    obtain ⟨v', hv', hd', hm'⟩ := k1.freezeN (st := { { st with F := F' } with H := H' }) q1 hcl q2
    rw [hd] at hd'
    cases hd'
    exact ⟨ρ, _, hm', k3⟩
  · exact h.elim
theorem sem_freezeN (sid fid : Nat) (ds hs : List Nat) {c : Code} {K : Ex → St → Prop} (hX : X.Ok) (h : frzNK sid fid ds hs st fun st => exec X c st K) : SemC X c st K :=
  fun ρ a w hm => let ⟨ρ', st', h1, h2⟩ := frzN_ok h hm; exec_ok hX c _ _ h2 ρ' a w h1
/-- A cell that holds nil. -/
theorem sem_nilVec (id Tc T size : Nat) (get : Nat → List SV) (cs cs' : List SV) {c : Code} {K : Ex → St → Prop} (h1 : findH st.H id = some (.cells Tc cs)) (hu : frzL st.nx (.slice none 0 0) cs' = cs)
    (h : stK st fun F gs H nx D => natF (nx + 1) fun nx' => SemC X c ⟨F, gs, (id, .cells Tc cs') :: (nx, .vec T size 0 get) :: H, nx', D⟩ K) : SemC X c st K := by
  intro ρ a w hm
  rw [stK_eq, natF_eq] at h
  have hid : id ≠ st.nx := fun e => by
    obtain ⟨nm, h2, _⟩ := hm.hm.ok _ _ h1
    rw [hm.nx id (by omega)] at h2; cases h2
  obtain ⟨nm, h3, h4⟩ := hm.hm.ok _ _ h1
  have hx : Ext ρ (upd ρ st.nx (.sl none 0 0 size)) := Ext.upd _ (hm.nx _ (Nat.le_refl _))
  have hm2 := hm.nilNew T size get
  have hd : den (upd ρ st.nx (.sl none 0 0 size)) (.sl st.nx) = some (.slice none 0 0) := by simp [den, upd_self]
  have h5 : findH ((st.nx, .vec T size 0 get) :: st.H) id = some (.cells Tc cs) := by
    rw [findH_cons, updL_ne _ _ (Ne.symm hid)]; exact h1
  refine h _ a w (hm2.swap (hb' := .cells Tc cs') h5 rfl (nm := nm) (by rw [upd_ne _ _ hid]; exact h3) ?_ (fun _ _ _ h => by cases h))
  have h6 := HBok_ext hx h4
  cases nm <;> simp only [HBok] at h6 ⊢
  obtain ⟨vs, d1, d2, d3⟩ := h6
  exact ⟨vs, by rw [← denL_frz rfl hd, hu]; exact d1, d2, d3⟩
end
/-- Arguments that came in, in the executor's words: with slices that are told of. -/
def OpenedS (P : Program) (f : Nat) (W : World) (vals : List Value) : Prop :=
  ∃ (ρ : Env) (H : List (Nat × HB)) (l : List SV) (nx : Nat), HM ρ (findH H) W ∧ (∀ b, ¬ Own ρ (findH H) b) ∧ (∀ j, nx ≤ j → ρ j = none) ∧ denL ρ l = some vals ∧ CallS P f l H nx (fun v _ _ => v = .sb true) (fun _ _ _ => False)
section
variable {H : Type} {enc : TypeId × Value → H}
theorem row_ofS {C : Checked} {a : Assume} {os : Os} {f tb : Nat} {fn : Func} {s : ChangeSpec} {conds : List PathCond} (hl : laidOutB C.prog = true) (own : ownKnob C.prog.godebug = none) (started : os.Started) (noInit : C.prog.inits.idxOf? f = none)
    (hfn : C.prog.funcs[f]? = some fn)
    (witness : ∃ (w : World) (tape : Tape) (i : Input), w.os = os ∧ (w.forCall tape i).Shaped C.prog ∧ i.vars = [] ∧ Input.okWide C.prog (w.forCall tape i) .any w.heap.size f i ∧
      s.pre6 enc C.prog fn conds false (w.forCall tape i).memory i.args ∧ a.holds C.prog (lone (Frame.enter C.prog f i.args .normal) [] (w.forCall tape i)))
    (hvars : s.vars = []) (hres : fn.resultTypes = #[tb]) (htb : C.prog.underlying tb = some .bool) (hread : (fn.params.toList.all fun t => C.prog.readableRec t && decide (t < C.prog.types.size)) = true)
    (hspec : ∀ ds : List (DataW H), ds.length = fn.params.toList.length → s.fn H (ds ++ []) = { results := [.lit (.bool true)], args := ds })
    (hw : ∀ (W : World) (base : Nat) (args : Array Value) (ds : List (DataW H)) (p : List MemPlace), (∀ (j : Nat) t v, fn.params[j]? = some t → args[j]? = some v → Value.okWide C.prog W .any base t v) →
      DataW.TrodAll enc C.prog W 0 (fun _ => true) true fn.params.toList args.toList ds p → OpenedS C.prog f W args.toList) :
    ReturnsInHanded a C os f .any (s.pre6 enc C.prog fn conds false) (s.post enc C.prog fn false true false false) := by
  refine returnsInHanded_of_change own started noInit hfn witness ?_
  intro W base args ds gs before hval hW hcnd _
  have hW' := hW
  obtain ⟨p, q, hA, hV, rfl, hfz, hnd⟩ := hW
  rw [hvars] at hV
  obtain ⟨rfl, rfl⟩ := trodVars_none hV
  obtain ⟨ρ, H0, l, nx, hm, hno, hfr, hd, hS⟩ := hw W base args ds p hval hA
  refine (hS ρ W args.toList hm hfr hd).mono fun e W' hpost => ?_
  rcases hpost with ⟨v, H', nx', ρ', u, rfl, hv, _, hkeep, _, rfl⟩ | ⟨ch, H', nx', ρ', _, _, _, _, hF⟩
  case inr => exact hF.elim
  simp only [den, Option.some.injEq] at hv
  subst hv
  have hend : ∀ b, b < W.heap.size → W'.heap[b]? = W.heap[b]? := fun b hb => hkeep.same b hb (hno b)
  have hsame : ∀ p' ∈ p, W.sameAt W' p' := by
    intro p' hp'
    have hlt := trodAll_lt hA p' hp'
    cases p' with
    | cell b o => exact World.cell?_of_block (w := W) (hend b hlt)
    | map b => exact hend b hlt
  have hs := hspec ds (by simpa using trodAll_length hA)
  refine ⟨_, rfl, ds, [], p ++ [], [], p, [], hW', ?_, ?_, ?_, ?_, fun h => by cases h⟩
  · rw [hs, hres]
    exact trodAll_mk1 (shut_bool htb _)
  · rw [hs]
    refine trodAll_carry hl (fun t ht => ?_) hA hsame (fun x hx => by simpa using trodAll_lt hA x hx)
    have := List.all_eq_true.1 hread t ht
    simpa using this
  · rw [hs, hvars]
    rfl
  · refine ⟨hkeep.str.1, hkeep.str.2, fun i hi => ?_⟩
    rw [hend i hi]
    split <;> simp_all
end
end Go.X
end

section
set_option linter.unusedVariables false
set_option linter.unusedSimpArgs false
set_option linter.unusedSectionVars false
/- Regions of any order: which operations are ready, said by what each one waits for alone; no set is looked at. -/
set_option linter.unusedVariables false
set_option linter.unusedSimpArgs false
set_option maxRecDepth 10000
set_option maxHeartbeats 4000000
namespace Go.X
open Go

def arrZ (N : Nat) (ix : Nat → Option Nat) (z : Nat → Bool) (l : List Bool) : Array Bool := ((List.range N).map fun j => match ix j with
  | some i => l.getD i false
  | none => z j).toArray
def edgesOf (ops : Array Oper) (j : Nat) : List Nat := match ops[j]? with
  | some o => (o.after.toList.filter bindsAny).map (·.on)
  | none => []
def clA (anc : Nat → List Nat) : Nat → Nat → List Nat
  | 0, d => [d]
  | f + 1, d => d :: (anc d).flatMap (clA anc f)
def neverB (ops : Array Oper) (ix : Nat → Option Nat) (z : Nat → Bool) (j : Nat) : Bool := (edgesOf ops j).any fun k => match ix k with
  | none => !z k
  | some _ => false
def symOp (ops : Array Oper) (ix : Nat → Option Nat) (anc : Nat → List Nat) (z : Nat → Bool) (j : Nat) (need : List Nat) : Bool :=
  neverB ops ix z j || need.all fun q => (edgesOf ops j).any fun k => match ix k with
    | some d => (clA anc 6 d).contains q
    | none => false
def readyAt (ops : Array Oper) (N : Nat) (ix : Nat → Option Nat) (z : Nat → Bool) (i j : Nat) : Bool := (edgesOf ops j).all fun k => Nat.blt k N && match ix k with
  | some d => Nat.blt d i
  | none => z k
def symX (ops : Array Oper) (N m : Nat) (ix : Nat → Option Nat) (opi : Nat → Nat) (anc : Nat → List Nat) (z : Nat → Bool) : Bool :=
  Nat.beq ops.size N && ((List.range N).all (fun j => match ix j with
    | some i => Nat.blt i m && (Nat.beq (opi i) j && symOp ops ix anc z j (anc i))
    | none => z j || symOp ops ix anc z j (List.range m))
  && (List.range m).all fun i => ix (opi i) == some i && (Nat.blt (opi i) N && readyAt ops N ix z i (opi i)))
def exM (m : Nat) (l : List Bool) : Bool := (List.range m).all fun j => l.getD j false
theorem blt_lt {a b : Nat} (h : Nat.blt a b = true) : a < b := Nat.le_of_ble_eq_true h
theorem arrZ_get {N : Nat} {ix : Nat → Option Nat} {z : Nat → Bool} {l : List Bool} {j : Nat} (d : Bool) (h : j < N) : (arrZ N ix z l).getD j d = (match ix j with
  | some i => l.getD i false
  | none => z j) := by
  unfold arrZ
  simp [Array.getD, h]
theorem arrZ_getF {N : Nat} {ix : Nat → Option Nat} {z : Nat → Bool} {l : List Bool} {j : Nat} (h : (arrZ N ix z l).getD j false = true) : j < N ∧ (match ix j with
  | some i => l.getD i false
  | none => z j) = true := by
  by_cases hj : j < N
  · rw [arrZ_get false hj] at h; exact ⟨hj, h⟩
  · unfold arrZ at h
    simp [Array.getD, hj] at h
theorem mem_edges {ops : Array Oper} {listed : Array Bool} {j : Nat} : j ∈ Region.ready .any ops listed ↔ listed.getD j true = false ∧ j < ops.size ∧ ∀ k ∈ edgesOf ops j, listed.getD k false = true := by
  rw [mem_ready]
  constructor
  · rintro ⟨h0, o, ho, h⟩
    refine ⟨h0, (Array.getElem?_eq_some_iff.1 ho).1, fun k hk => ?_⟩
    unfold edgesOf at hk
    rw [ho] at hk
    obtain ⟨e, he, rfl⟩ := List.mem_map.1 hk
    obtain ⟨he, hb⟩ := List.mem_filter.1 he
    exact h e (Array.mem_toList_iff.1 he) (by rw [bindsAny_eq]; exact hb)
  · rintro ⟨h0, hj, h⟩
    refine ⟨h0, ops[j], Array.getElem?_eq_getElem hj, fun e he hb => h e.on ?_⟩
    unfold edgesOf
    rw [Array.getElem?_eq_getElem hj]
    exact List.mem_map.2 ⟨e, List.mem_filter.2 ⟨Array.mem_toList_iff.2 he, by rw [← bindsAny_eq]; exact hb⟩, rfl⟩
theorem clA_ok {anc : Nat → List Nat} {l : List Bool} (hcl : clB2 anc l = true) : ∀ (f d q : Nat), l.getD d false = true → q ∈ clA anc f d → l.getD q false = true
  | 0, d, q, h, hq => by rw [List.mem_singleton.1 hq]; exact h
  | f + 1, d, q, h, hq => by
    rcases List.mem_cons.1 hq with rfl | hq
    · exact h
    obtain ⟨e, he, hq⟩ := List.mem_flatMap.1 hq
    refine clA_ok hcl f e q ?_ hq
    have hd : d < l.length := by
      by_cases hd : d < l.length
      · exact hd
      · rw [List.getD, List.getElem?_eq_none (by omega)] at h; cases h
    have := List.all_eq_true.1 hcl d (List.mem_range.2 hd)
    rw [h, Bool.not_true, Bool.false_or, List.all_eq_true] at this
    exact this e he
theorem never_ok {ops : Array Oper} {N : Nat} {ix : Nat → Option Nat} {z : Nat → Bool} {l : List Bool} {j : Nat} (h : neverB ops ix z j = true) (hr : ∀ k ∈ edgesOf ops j, (arrZ N ix z l).getD k false = true) : False := by
  obtain ⟨k, hk, h⟩ := List.any_eq_true.1 h
  have h2 := (arrZ_getF (hr k hk)).2
  cases e : ix k with
  | some i => rw [e] at h; cases h
  | none => rw [e] at h h2; simp only at h h2; rw [h2] at h; cases h
theorem symOp_ok {ops : Array Oper} {N : Nat} {ix : Nat → Option Nat} {anc : Nat → List Nat} {z : Nat → Bool} {l : List Bool} {j : Nat} {need : List Nat} (hcl : clB2 anc l = true) (h : symOp ops ix anc z j need = true) (hr : ∀ k ∈ edgesOf ops j, (arrZ N ix z l).getD k false = true) : (need.all fun q => l.getD q false) = true := by
  rcases Bool.or_eq_true_iff.1 h with h | h
  · exact (never_ok h hr).elim
  rw [List.all_eq_true] at h ⊢
  intro q hq
  obtain ⟨k, hk, h⟩ := List.any_eq_true.1 (h q hq)
  have h2 := (arrZ_getF (hr k hk)).2
  cases e : ix k with
  | none => rw [e] at h; cases h
  | some d =>
    rw [e] at h h2
    exact clA_ok hcl 6 d q h2 (List.contains_iff_mem.1 h)
theorem arrZ_q {N : Nat} {ix : Nat → Option Nat} {z : Nat → Bool} {l : List Bool} (k : Nat) : (arrZ N ix z l)[k]? = if k < N then some (match ix k with
  | some i => l.getD i false
  | none => z k) else none := by
  unfold arrZ
  by_cases h : k < N <;> simp [h]
theorem arrZ_size {N : Nat} {ix : Nat → Option Nat} {z : Nat → Bool} {l : List Bool} : (arrZ N ix z l).size = N := by simp [arrZ]
theorem arrZ_set {N : Nat} {ix : Nat → Option Nat} {z : Nat → Bool} {l : List Bool} {i j : Nat} (hl : i < l.length) (hi : ix j = some i) (h1 : ∀ k, k < N → ix k = some i → k = j) : (arrZ N ix z l).setIfInBounds j true = arrZ N ix z (l.set i true) := by
  apply Array.ext_getElem?
  intro k
  rw [Array.getElem?_setIfInBounds, arrZ_q, arrZ_q, arrZ_size]
  by_cases e : j = k
  · subst e
    rw [if_pos rfl]
    by_cases hN : j < N
    · rw [if_pos hN, if_pos hN, hi]
      simp [List.getD, hl]
    · rw [if_neg hN, if_neg hN]
  · rw [if_neg e]
    by_cases hN : k < N
    · rw [if_pos hN, if_pos hN]
      cases ek : ix k with
      | none => rfl
      | some d =>
        have hd : i ≠ d := fun h => e (h1 k hN (h ▸ ek)).symm
        simp only [List.getD, List.getElem?_set_ne hd]
    · rw [if_neg hN, if_neg hN]
theorem first_un {l : List Bool} : ∀ m, ∃ i, i ≤ m ∧ (∀ d, d < i → l.getD d false = true) ∧ (i < m → l.getD i false = false)
  | 0 => ⟨0, Nat.le_refl _, fun d h => absurd h (Nat.not_lt_zero d), fun h => absurd h (Nat.lt_irrefl 0)⟩
  | m + 1 => by
    obtain ⟨i, h1, h2, h3⟩ := first_un (l := l) m
    by_cases him : i < m
    · exact ⟨i, by omega, h2, fun _ => h3 him⟩
    obtain rfl : i = m := by omega
    cases e : l.getD i false with
    | false => exact ⟨i, by omega, h2, fun _ => e⟩
    | true => exact ⟨i + 1, Nat.le_refl _, fun d hd => by
        rcases Nat.lt_succ_iff_lt_or_eq.1 hd with h | rfl
        · exact h2 d h
        · exact e, fun h => absurd h (Nat.lt_irrefl _)⟩
theorem readyAt_ok {ops : Array Oper} {N : Nat} {ix : Nat → Option Nat} {z : Nat → Bool} {l : List Bool} {i j : Nat} (h : readyAt ops N ix z i j = true) (h2 : ∀ d, d < i → l.getD d false = true) : ∀ k ∈ edgesOf ops j, (arrZ N ix z l).getD k false = true := by
  intro k hk
  have h := List.all_eq_true.1 h k hk
  rw [Bool.and_eq_true] at h
  rw [arrZ_get false (blt_lt h.1)]
  cases e : ix k with
  | none => rw [e] at h; exact h.2
  | some d => rw [e] at h; exact h2 d (blt_lt h.2)
def symXP (ops : Array Oper) (N m : Nat) (ix : Nat → Option Nat) (opi : Nat → Nat) (anc : Nat → List Nat) (z : Nat → Bool) (pre : List Nat) : Bool :=
  Nat.beq ops.size N && ((List.range N).all (fun j => match ix j with
    | some i => Nat.blt i m && (Nat.beq (opi i) j && symOp ops ix anc z j (anc i))
    | none => z j || symOp ops ix anc z j ((List.range m).filter fun q => !pre.contains q))
  && (List.range m).all fun i => ix (opi i) == some i && (Nat.blt (opi i) N && readyAt ops N ix z i (opi i)))
theorem latX_symP {ops : Array Oper} {N m : Nat} {ix : Nat → Option Nat} {opi : Nat → Nat} {anc : Nat → List Nat} {z : Nat → Bool} {pre : List Nat} (h : symXP ops N m ix opi anc z pre = true) : ∀ l ∈ allB m, (∀ q ∈ pre, l.getD q false = true) → latX ops m (arrZ N ix z) opi (exM m) anc l = true := by
  intro l hl hpre
  have hlen := allB_len hl
  unfold latX
  cases hcl : clB2 anc l with
  | false => rfl
  | true =>
  unfold symXP at h
  simp only [Bool.and_eq_true] at h
  obtain ⟨hN, hA, hR⟩ := h
  have hN := Nat.eq_of_beq_eq_true hN
  rw [Bool.not_true, Bool.false_or]
  cases hex : exM m l with
  | true => rfl
  | false =>
  rw [Bool.false_or]
  simp only [Bool.and_eq_true]
  refine ⟨?_, ?_⟩
  · obtain ⟨i, hi, hdn, hun⟩ := first_un (l := l) m
    have him : i < m := by
      rcases Nat.lt_or_eq_of_le hi with h | rfl
      · exact h
      · have : exM i l = true := List.all_eq_true.2 fun d hd => hdn d (List.mem_range.1 hd)
        rw [this] at hex; cases hex
    have hne : ∀ {j}, j ∈ Region.ready .any ops (arrZ N ix z l) → (!(Region.ready .any ops (arrZ N ix z l)).isEmpty) = true := by
      intro j hj
      cases e : Region.ready .any ops (arrZ N ix z l) with
      | nil => rw [e] at hj; cases hj
      | cons a b => rfl
    have h := List.all_eq_true.1 hR i (List.mem_range.2 him)
    simp only [Bool.and_eq_true] at h
    obtain ⟨h2, h3, h4⟩ := h
    refine hne (j := opi i) (mem_edges.2 ⟨?_, by rw [hN]; exact blt_lt h3, readyAt_ok h4 hdn⟩)
    rw [arrZ_get true (blt_lt h3), show ix (opi i) = some i by simpa using h2]
    exact hun him
  · rw [List.all_eq_true]
    intro j hj
    obtain ⟨h0, hjs, hed⟩ := mem_edges.1 hj
    rw [hN] at hjs
    rw [arrZ_get true hjs] at h0
    have hA1 := List.all_eq_true.1 hA j (List.mem_range.2 hjs)
    cases e : ix j with
    | none =>
      rw [e] at hA1 h0
      simp only at h0
      rw [h0, Bool.false_or] at hA1
      have h8 := symOp_ok hcl hA1 hed
      have h9 : exM m l = true := by
        refine List.all_eq_true.2 fun q hq => ?_
        cases hp : pre.contains q with
        | true => exact hpre q (List.contains_iff_mem.1 hp)
        | false => exact List.all_eq_true.1 h8 q (List.mem_filter.2 ⟨hq, by rw [hp]; rfl⟩)
      rw [h9] at hex
      cases hex
    | some i =>
      rw [e] at hA1 h0
      simp only [Bool.and_eq_true] at hA1 h0
      obtain ⟨h1, h2, h3⟩ := hA1
      have h1 := blt_lt h1
      rw [List.any_eq_true]
      refine ⟨i, List.mem_range.2 h1, ?_⟩
      rw [arrZ_set (i := i) (by omega) e (fun k hk hki => by
        have := List.all_eq_true.1 hA k (List.mem_range.2 hk)
        rw [hki] at this
        simp only [Bool.and_eq_true] at this
        exact (Nat.eq_of_beq_eq_true this.2.1).symm.trans (Nat.eq_of_beq_eq_true h2)), symOp_ok hcl h3 hed]
      have : l.getD i true = false := by
        have hil : i < l.length := by omega
        rw [List.getD, List.getElem?_eq_getElem hil] at h0 ⊢
        simpa using h0
      rw [this, Nat.eq_of_beq_eq_true h2]
      simp
theorem latX_sym {ops : Array Oper} {N m : Nat} {ix : Nat → Option Nat} {opi : Nat → Nat} {anc : Nat → List Nat} {z : Nat → Bool} (h : symX ops N m ix opi anc z = true) : ∀ l ∈ allB m, latX ops m (arrZ N ix z) opi (exM m) anc l = true := fun l hl => latX_symP (pre := []) (by
  have e : (List.range m).filter (fun q => !([] : List Nat).contains q) = List.range m := by simp
  unfold symX at h
  unfold symXP
  rw [e]
  exact h) l hl (fun q hq => by cases hq)
end Go.X
end

section
set_option linter.unusedVariables false
set_option linter.unusedSimpArgs false
set_option linter.unusedSectionVars false
/- TopWarmed: blocks as arguments; Show of a block by its value; region 12 in whatever order. -/
set_option linter.unusedVariables false
set_option linter.unusedSimpArgs false
set_option maxRecDepth 10000
set_option maxHeartbeats 4000000
namespace Go.X.W
open Go Go.Proofs Go.X

theorem exM_all' {m : Nat} {l : List Bool} (hl : l.length = m) (he : exM m l = true) : l = List.replicate m true := by
  refine List.eq_replicate_iff.2 ⟨hl, fun b hb => ?_⟩
  obtain ⟨i, hi, rfl⟩ := List.mem_iff_getElem.1 hb
  have h := List.all_eq_true.1 he i (List.mem_range.2 (by omega))
  rwa [List.getD, List.getElem?_eq_getElem hi] at h
theorem getN {l : List Bool} {i j : Nat} (hi : i ≠ j) : (l.set i true).getD j false = l.getD j false := by
  simp [List.getD, List.getElem?_set, hi]
theorem getS {l : List Bool} {i : Nat} (hl : i < l.length) : (l.set i true).getD i false = true := by
  simp [List.getD, List.getElem?_set, hl]
theorem getF {l : List Bool} {i : Nat} (hl : i < l.length) (h : l.getD i true = false) : l.getD i false = false := by
  rw [List.getD, List.getElem?_eq_getElem hl] at h ⊢
  exact h
theorem clB_at {anc : Nat → List Nat} {l : List Bool} (hcl : clB2 anc l = true) {i j : Nat} (hi : l.getD i false = true) (hj : j ∈ anc i) : l.getD j false = true := by
  have hl : i < l.length := by
    rcases Nat.lt_or_ge i l.length with h | h
    · exact h
    · rw [List.getD, List.getElem?_eq_none h] at hi; cases hi
  have h := List.all_eq_true.1 hcl i (List.mem_range.2 hl)
  rw [hi, Bool.not_true, Bool.false_or, List.all_eq_true] at h
  exact h j hj

/-- The operations of a region. -/
def regF (n : Nat) : Code → Option (Array Oper)
  | .region id ops _ => match Nat.beq id n with
    | true => some ops
    | false => none
  | .seq a b => match regF n a with
    | some x => some x
    | none => regF n b
  | .cond _ a b => match regF n a with
    | some x => some x
    | none => regF n b
  | .block _ a => regF n a
  | .loop a => regF n a
  | .scope a => regF n a
  | .rangeFunc _ _ a b => match regF n a with
    | some x => some x
    | none => regF n b
  | _ => none
def regO (n : Nat) (c : Code) : Array Oper := match regF n c with
  | some a => a
  | none => #[]

/-! ### Show, of a block by its value -/
def c17v : Ct := plainCt fun
  | [.agg [.si .i64 mk, .si .i64 l1, .si .i64 l2, .si .i64 c1, .si .i64 c2, .sv v], .agg [.si .i64 n, .si .i64 a], .si .i64 t] => some ⟨some (smB 1000000 n ∧ smB 1000 mk ∧ smB 1000 a ∧ smB 1000 t), none, .si .i64 (showV mk (n, a) t), []⟩
  | _ => none
theorem k17v {l : List (Nat × Ct)} (g0 : Good P T l) : COk P 17 c17v := by
  have g := good0
  refine cok (C := tabC _) g.ok Try.func17 (c := code Try.f17) rfl fun fr args H out h hp => ?_
  simp only [c17v, plainCt] at h
  split at h
  · rename_i mk l1 l2 c1 c2 vv x a t
    cases h
    obtain ⟨h0, h1, h2, h3⟩ : smB 1000000 x ∧ smB 1000 mk ∧ smB 1000 a ∧ smB 1000 t := hp
    have hma := mul_sm h1 h2 (by decide) (by decide)
    obtain ⟨hb, hg⟩ := growV_le h1 h2 h3
    have hv : showV mk (x, a) t = x + mk * a * t / 10 := rfl
    unfold smB at hb hma h0
    refine walk_plain rfl (Nat.le_of_ble_eq_true rfl) fun G hG => ?_
    refine Chk.mk (show _ ≤ mk * a ∧ mk * a ≤ _ from ⟨by omega, by omega⟩) (Chk.mk (show _ ≤ mk * a * t ∧ mk * a * t ≤ _ from ⟨by omega, by omega⟩) ?_)
    refine Br.mk (fun h => ?_) (fun h => ?_)
    · have h : mk * a * t < 0 := of_decide_eq_true h
      have hd : (9 - mk * a * t).tdiv 10 = (9 - mk * a * t) / 10 := Int.tdiv_eq_ediv_of_nonneg (by omega)
      refine Chk.mk (show _ ≤ 9 - mk * a * t ∧ 9 - mk * a * t ≤ _ from ⟨by omega, by omega⟩) (Chk.mk (show (10 : Int) ≠ 0 ∧ _ ≤ (9 - mk * a * t).tdiv 10 ∧ (9 - mk * a * t).tdiv 10 ≤ _ from ⟨by decide, by omega, by omega⟩)
        (Chk.mk (show _ ≤ x - (9 - mk * a * t).tdiv 10 ∧ x - (9 - mk * a * t).tdiv 10 ≤ _ from ⟨by omega, by omega⟩) ⟨.inl rfl, end_plain ⟨rfl, ?_⟩ rfl rfl⟩))
      show x - (9 - mk * a * t).tdiv 10 = showV mk (x, a) t
      omega
    · have h : ¬ mk * a * t < 0 := of_decide_eq_false h
      have hd : (mk * a * t).tdiv 10 = (mk * a * t) / 10 := Int.tdiv_eq_ediv_of_nonneg (by omega)
      refine Chk.mk (show (10 : Int) ≠ 0 ∧ _ ≤ (mk * a * t).tdiv 10 ∧ (mk * a * t).tdiv 10 ≤ _ from ⟨by decide, by omega, by omega⟩)
        (Chk.mk (show _ ≤ x + (mk * a * t).tdiv 10 ∧ x + (mk * a * t).tdiv 10 ≤ _ from ⟨by omega, by omega⟩) ⟨.inl rfl, end_plain ⟨rfl, ?_⟩ rfl rfl⟩)
      show x + (mk * a * t).tdiv 10 = showV mk (x, a) t
      omega
  · cases h
def c17u : Ct := fun fr args H => match c17v fr args H with
  | some o => some o
  | none => c17 fr args H
theorem k17u {l : List (Nat × Ct)} (g : Good P T l) : COk P 17 c17u := by
  intro ρ H w fr args vals out
  intro h1 h2 h3 h4
  unfold c17u at h4
  split at h4
  · rename_i o e
    cases h4
    exact k17v g ρ H w fr args vals _ h1 h2 h3 e
  · exact k17 g ρ H w fr args vals _ h1 h2 h3 h4
end Go.X.W
end

section
set_option linter.unusedVariables false
set_option linter.unusedSimpArgs false
set_option linter.unusedSectionVars false
/- TopWarmed: the state of the first loop; region 12 in whatever order. -/
set_option linter.unusedVariables false
set_option linter.unusedSimpArgs false
set_option maxRecDepth 10000
set_option maxHeartbeats 4000000
namespace Go.X.W
open Go Go.Proofs Go.X

/-- A block whose readings are said by their value. -/
structure Wb where
  mark : Int
  l1 : Int
  l2 : Int
  c1 : Int
  c2 : Int
  n : Nat
  rd : Nat → Rd
  v : Value
def wbC (x : Wb) : List SV := [.si .i64 x.mark, .si .i64 x.l1, .si .i64 x.l2, .si .i64 x.c1, .si .i64 x.c2, .sv x.v]
def wbS (x : Wb) (id : Nat) : List SV := [.si .i64 x.mark, .si .i64 x.l1, .si .i64 x.l2, .si .i64 x.c1, .si .i64 x.c2, .sl id]
def rdG (rd : Nat → Rd) (j : Nat) : List SV := rdC (rd j)
def wbF (N : Nat) (g : Nat → Wb) : Value → Nat → (Nat → List SV) → Prop := fun v n get => ∃ i, i < N ∧ v = (g i).v ∧ n = (g i).n ∧ get = rdG (g i).rd
/-- What came in. -/
structure Par where
  at_ : Int
  wide : Int
  much : Int
  warmth : Int
  N : Nat
  g : Nat → Wb
  m : Nat
  o : Nat → Int
  flo : Int
  fhi : Int
/-- How many numbers were drawn before a block. -/
def cS (p : Par) : Nat → Int
  | 0 => 0
  | i + 1 => cS p i + 2 + ((p.g i).n : Int)
def lnV (p : Par) (i : Nat) : Int := drawV p.m p.o (cS p i) (p.g i).l1 (p.g i).l2
def coV (p : Par) (i : Nat) : Int := drawV p.m p.o (cS p i + 1) (p.g i).c1 (p.g i).c2
/-- What a block shows at a warmth that is drawn. -/
def shN (p : Par) (i j : Nat) : Int := showV (p.g i).mark (lnV p i, coV p i) (drawV p.m p.o (cS p i + 2 + (j : Int)) ((p.g i).rd j).1 ((p.g i).rd j).2.1)
def rrV (p : Par) (i j : Nat) : Rd := (((p.g i).rd j).1, ((p.g i).rd j).2.1, shN p i j - 1, shN p i j + 1)
def rtB (p : Par) (i : Nat) : Blk := ⟨(p.g i).mark, (p.g i).l1, (p.g i).l2, (p.g i).c1, (p.g i).c2, (List.range (p.g i).n).map (rrV p i)⟩
def rtW (p : Par) (vs : List Value) (i : Nat) : Wb := ⟨(p.g i).mark, (p.g i).l1, (p.g i).l2, (p.g i).c1, (p.g i).c2, (p.g i).n, rrV p i, vs.getD i (.slice none 0 0)⟩
def hlV (p : Par) (i : Nat) : Int × Int := hullV (rtB p i) fun q => [q.1]
def spV (p : Par) (i : Nat) : Span := (200 + (hlV p i).1, 200 + (hlV p i).2)
def rtF (p : Par) (vs : List Value) : Value → Nat → (Nat → List SV) → Prop := fun v n get => ∃ i, i < vs.length ∧ v = vs.getD i (.slice none 0 0) ∧ n = (p.g i).n ∧ get = rdG (rrV p i)
/-- What goes on. -/
structure ParOk (p : Par) : Prop where
  m : p.m ≤ maxLen
  o : ∀ i, i < p.m → 0 ≤ p.o i ∧ p.o i < 65536
  N : p.N ≤ 8
  at_ : 0 ≤ p.at_ ∧ p.at_ < 65536
  wide : 0 ≤ p.wide ∧ p.wide < 256
  much : 0 ≤ p.much ∧ p.much < 256
  warmth : 0 ≤ p.warmth ∧ p.warmth < 256
  told : ∀ i, i < p.N → isSl (p.g i).v (p.g i).n
def fnD : SV := .fn (.func 53) [] [.sp 6 0, .sp 5 0]
def bF (p : Par) (i : Nat) : List (Nat × FE) := [(3, ⟨[], .si .u16 p.at_⟩), (4, ⟨[], .si .u8 p.wide⟩), (5, ⟨[], .si .u8 p.much⟩), (6, ⟨[], .si .u8 p.warmth⟩), (8, ⟨[], .sp 3 0⟩), (15, ⟨[], .sp 4 0⟩), (16, ⟨[], fnD⟩), (17, ⟨[], .sl 7⟩), (18, ⟨[], .sl 8⟩), (19, ⟨[], .sl 9⟩), (55, ⟨[], .sl 0⟩), (56, ⟨[], .si .i64 (p.N : Int)⟩), (57, ⟨[], .si .i64 (i : Int)⟩)]
/-- What was gathered of i blocks. -/
def hB (p : Par) (i : Nat) (vs : List Value) : List (Nat × HB) := [(5, .cells 25 [.sl 1]), (0, .ro 6 p.N fun i => wbC (p.g i)), (1, .ro 1 p.m fun i => [.si .u16 (p.o i)]), (2, .fam 4 (wbF p.N p.g)), (3, .cells 24 [.si .i64 p.flo, .si .i64 p.fhi]), (4, .cells 30 [.sl 10, .si .i64 p.flo, .si .i64 p.fhi]),
  (7, .vec 3 1 i fun j => [.si .i64 (lnV p j)]), (8, .vec 3 1 i fun j => [.si .i64 (coV p j)]), (9, .vec 36 6 i fun j => wbC (rtW p vs j)), (10, .vec 24 2 i fun j => spanC (spV p j)), (11, .fam 4 (rtF p vs))]
theorem c17u_mono : CtMono c17u := by
  intro fr args H H' out hH h
  unfold c17u at h ⊢
  split at h
  · rename_i o e
    have e2 : c17v fr args H' = some o := plainCt_mono _ fr args H H' o hH e
    rw [e2]; exact h
  · rename_i e
    have e2 : c17v fr args H' = none := by
      unfold c17v plainCt at e ⊢
      exact e
    rw [e2]
    exact wmCt_mono _ fr args H H' out hH h
theorem g17u {l : List (Nat × Ct)} (g : Good P T l) : Good P T ((17, c17u) :: l) := g.add (k17u g) c17u_mono (body_of Try.func17 (c := code Try.f17) rfl (by decide))
noncomputable abbrev L3 : List (Nat × Ct) := [(17, c17u), (16, c16), (19, c19), (22, c22), (21, S.c21), (20, S.c34), (18, c18t), (14, c14)]
theorem good3 : Good P T L3 := g17u (g16 (g19 (g22 (g21s (g20s (g18t (g14 good0)))))))
noncomputable abbrev X3 (G : Base) : Cx := ⟨P, T, tabC L3, G, none, Try.f3.ntmps⟩
theorem ok3 (G : Base) : (X3 G).Ok := good3.ok _ _ _

/-! ### A draw -/
/-- What a draw leaves. -/
def drH (p : Par) (c : Int) (H : List (Nat × HB)) : List (Nat × HB) := (1, .ro 1 p.m fun i => [.si .u16 (p.o i)]) :: (6, .cells 3 [.si .i64 (c + 1)]) :: (5, .cells 25 [.sl 1]) :: H
theorem callS_draw {p : Par} (hp : ParOk p) {c lo hi : Int} {H : List (Nat × HB)} {nx : Nat} {Rv : SV → List (Nat × HB) → Nat → Prop} {Rp : List PanicEntry → List (Nat × HB) → Nat → Prop}
    (h1 : findH H 1 = some (.ro 1 p.m fun i => [.si .u16 (p.o i)])) (h6 : findH H 6 = some (.cells 3 [.si .i64 c])) (h5 : findH H 5 = some (.cells 25 [.sl 1])) (hc : 0 ≤ c ∧ c ≤ 100000) (hl : -1000000 ≤ lo ∧ lo ≤ hi ∧ hi ≤ 1000000)
    (hRv : Rv (.si .i64 (drawV p.m p.o c lo hi)) (drH p c H) nx) : CallS P 53 [.agg [.si .i64 lo, .si .i64 hi], .sp 6 0, .sp 5 0] H nx Rv Rp := by
  refine callS_at [.agg [.si .i64 lo, .si .i64 hi], .sp 1 0, .sp 2 0] (dA p.m p.o c) 3 (fun j => match j with | 0 => 1 | 1 => 6 | _ => 5) (by repeat' (first | exact trivial | exact rfl | refine And.intro ?_ ?_)) rfl ?_ rfl rfl ?_
  · refine ⟨?_, ?_, ?_, trivial⟩
    · show (match findH H 1 with | some hc => lessHB _ 3 hc _ ∧ _ | _ => False)
      rw [h1]
      exact ⟨⟨rfl, rfl, fun i hi => ⟨rfl, rfl⟩⟩, rfl⟩
    · show (match findH H 6 with | some hc => lessHB _ 3 hc _ ∧ _ | _ => False)
      rw [h6]
      exact ⟨⟨rfl, ⟨⟨rfl, rfl⟩, trivial⟩, rfl⟩, rfl⟩
    · show (match findH H 5 with | some hc => lessHB _ 3 hc _ ∧ _ | _ => False)
      rw [h5]
      exact ⟨⟨rfl, ⟨rfl, trivial⟩, rfl⟩, rfl⟩
  · exact s53 hp.m hp.o hc hl ⟨rfl, (by repeat' (first | exact trivial | exact rfl | (intro i hi; exact ⟨rfl, rfl⟩) | refine And.intro ?_ ?_)), (by repeat' (first | exact trivial | exact rfl | (intro i hi; exact rfl) | refine And.intro ?_ ?_)), by rw [fSV_eq, fRenH_eq, natF_eq]; exact hRv⟩

/-! ### Region 12 -/
noncomputable def op12 : Array Oper := regO 12 (code Try.f3)
def ix12 : Nat → Option Nat
  | 10 => none
  | j => some j
def z12 : Nat → Bool := fun _ => false
def an12 : Nat → List Nat
  | 2 => [1]
  | 3 => [0, 2]
  | 6 => [5]
  | 7 => [3, 4, 6]
  | 8 => [3, 7]
  | _ => []
theorem an12_lt : ∀ i, ∀ j ∈ an12 i, j < i := by
  intro i j hj
  unfold an12 at hj
  split at hj <;> simp at hj <;> omega
theorem lat12 : symX op12 11 10 ix12 (fun i => i) an12 z12 = true := by kernel_rfl
noncomputable def ar12 : List Bool → Array Bool := arrZ 11 ix12 z12
def sl12 (x : Wb) (a b : Int) : Nat → List (Nat × FE)
  | 0 => [(71, ⟨[], fnD⟩)]
  | 1 => [(72, ⟨[], .sp 12 1⟩)]
  | 2 => [(73, ⟨[], .agg [.si .i64 x.l1, .si .i64 x.l2]⟩)]
  | 3 => [(74, ⟨[], .si .i64 a⟩)]
  | 4 => [(75, ⟨[], fnD⟩)]
  | 5 => [(76, ⟨[], .sp 12 3⟩)]
  | 6 => [(77, ⟨[], .agg [.si .i64 x.c1, .si .i64 x.c2]⟩)]
  | 7 => [(78, ⟨[], .si .i64 b⟩)]
  | 8 => [(79, ⟨[], .agg [.si .i64 a, .si .i64 b]⟩)]
  | 9 => [(22, ⟨[], .sp 14 0⟩)]
  | _ => []
def cn12 (c : Int) (b3 b7 : Bool) : Int := if b7 = true then c + 1 + 1 else if b3 = true then c + 1 else c
def hw (p : Par) (i : Nat) (vs : List Value) : List (Nat × HB) := (12, .cells 36 (wbS (p.g i) 13)) :: (13, .ro 4 (p.g i).n (rdG (p.g i).rd)) :: hB p i vs
def pc12 (p : Par) (i : Nat) (vs : List Value) : Bool → List (Nat × HB)
  | true => (14, .cells 39 [.si .i64 0, .si .i64 0]) :: hw p i vs
  | false => hw p i vs
def Hf12 (p : Par) (i : Nat) (vs : List Value) (c : Int) (l : List Bool) : List (Nat × HB) := (6, .cells 3 [.si .i64 (cn12 c (l.getD 3 false) (l.getD 7 false))]) :: pc12 p i vs (l.getD 9 false)
theorem no12 {l : List Bool} (hcl : clB2 an12 l = true) (h3 : l.getD 3 false = false) : l.getD 7 false = false := by
  cases h7 : l.getD 7 false with
  | false => rfl
  | true => have := clB_at (anc := an12) hcl h7 (j := 3) (by decide); rw [this] at h3; cases h3
def ba12 (p : Par) (i : Nat) : List (Nat × FE) := (21, ⟨[], .sp 12 0⟩) :: bF p i
section
variable {G : Base} {p : Par} {vs : List Value} {c a b : Int} {i : Nat} {K : Ex → St → Prop}
theorem weak12 (c : Int) (b9 : Bool) (S : List (Nat × FE)) (hS : weakRF (fun j => j) 15 S S) : NewR 3 (fun j => j) 15 S S (drH p c ((6, .cells 3 [.si .i64 c]) :: pc12 p i vs b9)) ((6, .cells 3 [.si .i64 (c + 1)]) :: pc12 p i vs b9) [] := by
  cases b9 <;> refine ⟨hS, rfl, ?_, rfl, rfl, rfl, trivial⟩ <;> repeat' (first | exact trivial | exact rfl | (intro i hi; exact ⟨rfl, rfl⟩) | (intro v m g h; exact h) | refine And.intro ?_ ?_)
theorem weak12a (c : Int) : NewR 3 (fun j => match j with | 14 => 15 | j => j) 15 [(22, ⟨[], .sp 15 0⟩)] [(22, ⟨[], .sp 14 0⟩)] ((15, .cells 39 [.si .i64 0, .si .i64 0]) :: (6, .cells 3 [.si .i64 c]) :: pc12 p i vs false) ((6, .cells 3 [.si .i64 c]) :: pc12 p i vs true) [] := by
  refine ⟨?_, rfl, ?_, rfl, rfl, rfl, trivial⟩ <;> repeat' (first | exact trivial | exact rfl | (intro i hi; exact ⟨rfl, rfl⟩) | (intro v m g h; exact h) | refine And.intro ?_ ?_)
theorem keep12 {s : Nat → Nat} {N : Nat} (hs : s 0 = 0 ∧ s 3 = 3 ∧ s 4 = 4 ∧ s 5 = 5 ∧ s 6 = 6 ∧ s 7 = 7 ∧ s 8 = 8 ∧ s 9 = 9 ∧ s 12 = 12) (hN : 13 ≤ N) : keepN s N (ba12 p i) ∧ ∀ j, j < 10 → j ≠ 9 → keepN s N (sl12 (p.g i) a b j) := by
  obtain ⟨s0, s3, s4, s5, s6, s7, s8, s9, s12⟩ := hs
  have hb : ∀ k, k < 13 → ltN k N = true := fun k hk => by unfold ltN; exact Nat.ble_eq_true_of_le (by omega)
  constructor
  · simp only [ba12, bF, keepN, fnD, SVeq, SVeqL, renSV, renL, idsSV, idsL, s0, s3, s4, s5, s6, s7, s8, s9, s12, hb _ (show 0 < 13 by decide), hb _ (show 3 < 13 by decide), hb _ (show 4 < 13 by decide), hb _ (show 5 < 13 by decide), hb _ (show 6 < 13 by decide), hb _ (show 7 < 13 by decide), hb _ (show 8 < 13 by decide), hb _ (show 9 < 13 by decide), hb _ (show 12 < 13 by decide), and_true, true_and, if_true]
  · intro j hj h9
    rcases (show j = 0 ∨ j = 1 ∨ j = 2 ∨ j = 3 ∨ j = 4 ∨ j = 5 ∨ j = 6 ∨ j = 7 ∨ j = 8 by omega) with rfl | rfl | rfl | rfl | rfl | rfl | rfl | rfl | rfl <;>
      simp only [sl12, keepN, fnD, SVeq, SVeqL, renSV, renL, idsSV, idsL, s0, s3, s4, s5, s6, s7, s8, s9, s12, hb _ (show 0 < 13 by decide), hb _ (show 3 < 13 by decide), hb _ (show 4 < 13 by decide), hb _ (show 5 < 13 by decide), hb _ (show 6 < 13 by decide), hb _ (show 7 < 13 by decide), hb _ (show 8 < 13 by decide), hb _ (show 9 < 13 by decide), hb _ (show 12 < 13 by decide), and_true, true_and, if_true]
theorem keep12' : keepN (fun j => j) 15 (sl12 (p.g i) a b 9) := by repeat' (first | exact trivial | exact rfl | refine And.intro ?_ ?_)
theorem st12_3 (hp : ParOk p) (hc : 0 ≤ c ∧ c ≤ 90000) (hl : -1000000 ≤ (p.g i).l1 ∧ (p.g i).l1 ≤ (p.g i).l2 ∧ (p.g i).l2 ≤ 1000000) (b9 : Bool) (tail : List (Nat × FE)) (Q : Exit → Act → World → Prop) (Kn : St → Prop) (hC : Cont (X3 G) Q Kn (fun _ _ => False)) :
    ∃ o, op12[3]? = some o ∧ o.guard = none ∧ (Kn ⟨sl12 (p.g i) (drawV p.m p.o c (p.g i).l1 (p.g i).l2) b 3 ++ ((an12 3).flatMap (sl12 (p.g i) (drawV p.m p.o c (p.g i).l1 (p.g i).l2) b) ++ (ba12 p i ++ tail)), [], drH p c ((6, .cells 3 [.si .i64 c]) :: pc12 p i vs b9), 15, []⟩ →
      execL (X3 G) [o] Q Kn (fun _ _ => False) 0 [o] ⟨(an12 3).flatMap (sl12 (p.g i) (drawV p.m p.o c (p.g i).l1 (p.g i).l2) b) ++ (ba12 p i ++ tail), [], (6, .cells 3 [.si .i64 c]) :: pc12 p i vs b9, 15, []⟩) := by
  refine ⟨_, rfl, rfl, fun hK => ?_⟩
  cases b9 <;> exact fb_call (ok3 G) hC rfl rfl rfl rfl ⟨bd53, callS_draw hp rfl rfl rfl (by omega) hl hK⟩
theorem st12_7 (hp : ParOk p) (hc : 0 ≤ c ∧ c ≤ 90000) (hl : -1000000 ≤ (p.g i).c1 ∧ (p.g i).c1 ≤ (p.g i).c2 ∧ (p.g i).c2 ≤ 1000000) (b9 : Bool) (tail : List (Nat × FE)) (Q : Exit → Act → World → Prop) (Kn : St → Prop) (hC : Cont (X3 G) Q Kn (fun _ _ => False)) :
    ∃ o, op12[7]? = some o ∧ o.guard = none ∧ (Kn ⟨sl12 (p.g i) a (drawV p.m p.o c (p.g i).c1 (p.g i).c2) 7 ++ ((an12 7).flatMap (sl12 (p.g i) a (drawV p.m p.o c (p.g i).c1 (p.g i).c2)) ++ (ba12 p i ++ tail)), [], drH p c ((6, .cells 3 [.si .i64 c]) :: pc12 p i vs b9), 15, []⟩ →
      execL (X3 G) [o] Q Kn (fun _ _ => False) 0 [o] ⟨(an12 7).flatMap (sl12 (p.g i) a (drawV p.m p.o c (p.g i).c1 (p.g i).c2)) ++ (ba12 p i ++ tail), [], (6, .cells 3 [.si .i64 c]) :: pc12 p i vs b9, 15, []⟩) := by
  refine ⟨_, rfl, rfl, fun hK => ?_⟩
  cases b9 <;> exact fb_call (ok3 G) hC rfl rfl rfl rfl ⟨bd53, callS_draw hp rfl rfl rfl (by omega) hl hK⟩
theorem reg12 (hG : ∀ j, 3 ≤ j → G.ρ j = none) (hp : ParOk p) (hc : 0 ≤ c ∧ c ≤ 80000) (hl : -1000000 ≤ (p.g i).l1 ∧ (p.g i).l1 ≤ (p.g i).l2 ∧ (p.g i).l2 ≤ 1000000) (hc2 : -1000000 ≤ (p.g i).c1 ∧ (p.g i).c1 ≤ (p.g i).c2 ∧ (p.g i).c2 ≤ 1000000)
    (hK : AnyS (X3 G) op12 1 (ar12 (List.replicate 10 true)) ⟨slF (sl12 (p.g i) (drawV p.m p.o c (p.g i).l1 (p.g i).l2) (drawV p.m p.o (c + 1) (p.g i).c1 (p.g i).c2)) (ba12 p i) (List.replicate 10 true), [], Hf12 p i vs c (List.replicate 10 true), 15, []⟩ K) :
    AnyS (X3 G) op12 11 (Array.replicate 11 false) ⟨ba12 p i, [], Hf12 p i vs c (List.replicate 10 false), 15, []⟩ K := by
  refine any_latN (D := []) (ok3 G) 10 ar12 (fun i => i) (exM 10) (sl12 (p.g i) (drawV p.m p.o c (p.g i).l1 (p.g i).l2) (drawV p.m p.o (c + 1) (p.g i).c1 (p.g i).c2)) (ba12 p i) (Hf12 p i vs c) (fun _ => 15) an12 1 3 hG (fun a ha j hj => by have := an12_lt a j hj; omega) (latX_sym lat12) ?_ ?_ ?_ (List.replicate 10 false) rfl (by decide)
  · repeat' (first | exact trivial | exact ⟨rfl, rfl⟩ | refine And.intro ?_ ?_)
  · intro j hj l hl' hf ha hcl
    have n3 : j ≠ 3 → (l.set j true).getD 3 false = l.getD 3 false := getN
    have n7 : j ≠ 7 → (l.set j true).getD 7 false = l.getD 7 false := getN
    have n9 : j ≠ 9 → (l.set j true).getD 9 false = l.getD 9 false := getN
    have e := getS (l := l) (i := j) (by omega)
    have f := getF (l := l) (i := j) (by omega) hf
    simp only [Hf12]
    rcases (show j = 3 ∨ j = 7 ∨ j = 9 ∨ (j ≠ 3 ∧ j ≠ 7 ∧ j ≠ 9) by omega) with rfl | rfl | rfl | ⟨h3, h7, h9⟩
    · have f7 := no12 hcl f
      rw [n7 (by decide), n9 (by decide), e, f, f7]
      obtain ⟨b9, hb9⟩ : ∃ b, l.getD 9 false = b := ⟨_, rfl⟩
      rw [hb9]
      refine ⟨_, rfl, rfl, .inr ⟨fun j => j, _, _, 15, weak12 c b9 _ ?_, (keep12 (p := p) (i := i) (a := drawV p.m p.o c (p.g i).l1 (p.g i).l2) (b := drawV p.m p.o (c + 1) (p.g i).c1 (p.g i).c2) (s := fun j => j) (N := 15) ⟨rfl, rfl, rfl, rfl, rfl, rfl, rfl, rfl, rfl⟩ (by omega)).1, fun j hj hji => ?_, fun tail Q Kn hC hK => ?_⟩⟩
      · repeat' (first | exact trivial | exact rfl | refine And.intro ?_ ?_)
      · by_cases h : j = 9
        · subst h; exact keep12'
        · exact (keep12 (p := p) (i := i) (a := drawV p.m p.o c (p.g i).l1 (p.g i).l2) (b := drawV p.m p.o (c + 1) (p.g i).c1 (p.g i).c2) (s := fun j => j) (N := 15) ⟨rfl, rfl, rfl, rfl, rfl, rfl, rfl, rfl, rfl⟩ (by omega)).2 j hj h
      · obtain ⟨o, ho, _, h⟩ := st12_3 (G := G) (i := i) (vs := vs) (c := c) (b := drawV p.m p.o (c + 1) (p.g i).c1 (p.g i).c2) hp (by omega) hl b9 tail Q Kn hC
        cases ho
        exact h hK
    · have f3 : l.getD 3 false = true := ha 3 (by decide)
      rw [n3 (by decide), n9 (by decide), e, f, f3]
      obtain ⟨b9, hb9⟩ : ∃ b, l.getD 9 false = b := ⟨_, rfl⟩
      rw [hb9]
      refine ⟨_, rfl, rfl, .inr ⟨fun j => j, _, _, 15, weak12 (c + 1) b9 _ ?_, (keep12 (p := p) (i := i) (a := drawV p.m p.o c (p.g i).l1 (p.g i).l2) (b := drawV p.m p.o (c + 1) (p.g i).c1 (p.g i).c2) (s := fun j => j) (N := 15) ⟨rfl, rfl, rfl, rfl, rfl, rfl, rfl, rfl, rfl⟩ (by omega)).1, fun j hj hji => ?_, fun tail Q Kn hC hK => ?_⟩⟩
      · repeat' (first | exact trivial | exact rfl | refine And.intro ?_ ?_)
      · by_cases h : j = 9
        · subst h; exact keep12'
        · exact (keep12 (p := p) (i := i) (a := drawV p.m p.o c (p.g i).l1 (p.g i).l2) (b := drawV p.m p.o (c + 1) (p.g i).c1 (p.g i).c2) (s := fun j => j) (N := 15) ⟨rfl, rfl, rfl, rfl, rfl, rfl, rfl, rfl, rfl⟩ (by omega)).2 j hj h
      · obtain ⟨o, ho, _, h⟩ := st12_7 (G := G) (i := i) (vs := vs) (a := drawV p.m p.o c (p.g i).l1 (p.g i).l2) (c := c + 1) hp (by omega) hc2 b9 tail Q Kn hC
        cases ho
        exact h hK
    · rw [n3 (by decide), n7 (by decide), e, f]
      refine ⟨_, rfl, rfl, .inr ⟨fun j => match j with | 14 => 15 | j => j, _, _, 16, weak12a _, (keep12 (p := p) (i := i) (a := drawV p.m p.o c (p.g i).l1 (p.g i).l2) (b := drawV p.m p.o (c + 1) (p.g i).c1 (p.g i).c2) (s := fun j => match j with | 14 => 15 | j => j) (N := 15) ⟨rfl, rfl, rfl, rfl, rfl, rfl, rfl, rfl, rfl⟩ (by omega)).1, fun j hj hji => (keep12 (p := p) (i := i) (a := drawV p.m p.o c (p.g i).l1 (p.g i).l2) (b := drawV p.m p.o (c + 1) (p.g i).c1 (p.g i).c2) (s := fun j => match j with | 14 => 15 | j => j) (N := 15) ⟨rfl, rfl, rfl, rfl, rfl, rfl, rfl, rfl, rfl⟩ (by omega)).2 j hj hji, fun tail Q Kn hC hK => ?_⟩⟩
      exact hK
    · rw [n3 h3, n7 h7, n9 h9]
      obtain ⟨b9, hb9⟩ : ∃ b, l.getD 9 false = b := ⟨_, rfl⟩
      rw [hb9]
      rcases (show j = 0 ∨ j = 1 ∨ j = 2 ∨ j = 4 ∨ j = 5 ∨ j = 6 ∨ j = 8 by omega) with rfl | rfl | rfl | rfl | rfl | rfl | rfl
      all_goals
        refine ⟨_, rfl, rfl, .inl fun tail Q Kn hC hK => ?_⟩
        cases b9 <;> first | exact hK | exact fb_again (ok3 G) hC rfl hK
  · intro l hl he
    obtain rfl := exM_all' hl he
    exact hK
end
end Go.X.W
end

section
set_option linter.unusedVariables false
set_option linter.unusedSimpArgs false
set_option linter.unusedSectionVars false
/- TopWarmed: region 18 in whatever order (a number is drawn, and what the block shows at it). -/
set_option linter.unusedVariables false
set_option linter.unusedSimpArgs false
set_option maxRecDepth 10000
set_option maxHeartbeats 4000000
namespace Go.X.W
open Go Go.Proofs Go.X

/-- A block that came in. -/
def inW (p : Par) (i : Nat) : Blk := ⟨(p.g i).mark, (p.g i).l1, (p.g i).l2, (p.g i).c1, (p.g i).c2, (List.range (p.g i).n).map (p.g i).rd⟩
theorem inW_rd {p : Par} {i j : Nat} (h : blkOk (inW p i) = true) (hj : j < (p.g i).n) : -100 ≤ ((p.g i).rd j).1 ∧ ((p.g i).rd j).1 ≤ ((p.g i).rd j).2.1 ∧ ((p.g i).rd j).2.1 ≤ 100 := by
  have h5 := (blk_b h).2.2.2.2 ((p.g i).rd j) (List.mem_map.2 ⟨j, List.mem_range.2 hj, rfl⟩)
  have := rdOk_b h5
  omega
theorem inW_n {p : Par} {i : Nat} (h : blkOk (inW p i) = true) : (p.g i).n ≤ 5 := by
  have h4 := (blk_b h).2.2.2.1
  simpa [inW] using h4
theorem cS_nn (p : Par) : ∀ i, 0 ≤ cS p i
  | 0 => Int.le_refl _
  | i + 1 => by have := cS_nn p i; show 0 ≤ cS p i + 2 + ((p.g i).n : Int); omega
theorem cS_le {p : Par} : ∀ i, (∀ j, j < i → blkOk (inW p j) = true) → cS p i ≤ 7 * i
  | 0, _ => by show (0 : Int) ≤ _; omega
  | i + 1, h => by
    have h1 := cS_le i fun j hj => h j (by omega)
    have h2 := inW_n (h i (by omega))
    show cS p i + 2 + ((p.g i).n : Int) ≤ _
    omega
theorem drawV_in' {p : Par} (hp : ParOk p) {c lo hi : Int} (h : lo ≤ hi) (hc : 0 ≤ c) : lo ≤ drawV p.m p.o c lo hi ∧ drawV p.m p.o c lo hi ≤ hi := by
  unfold drawV
  split
  · omega
  · have hm : 0 ≤ (c + 1).tmod (p.m : Int) := Int.tmod_nonneg _ (by omega)
    have hl := Int.tmod_lt_of_pos (c + 1) (show (0 : Int) < (p.m : Int) by omega)
    have ho := hp.o ((c + 1).tmod (p.m : Int)).toNat (by omega)
    have h1 : 0 ≤ p.o ((c + 1).tmod (p.m : Int)).toNat + 71 * (c + 1) := by omega
    have h2 := Int.tmod_nonneg (hi - lo + 1) h1
    have h3 := Int.tmod_lt_of_pos (p.o ((c + 1).tmod (p.m : Int)).toNat + 71 * (c + 1)) (show 0 < hi - lo + 1 by omega)
    omega
theorem lnV_in {p : Par} (hp : ParOk p) {i : Nat} (h : blkOk (inW p i) = true) : (p.g i).l1 ≤ lnV p i ∧ lnV p i ≤ (p.g i).l2 :=
  drawV_in' hp (blk_b h).2.1.2.1 (cS_nn p i)
theorem coV_in {p : Par} (hp : ParOk p) {i : Nat} (h : blkOk (inW p i) = true) : (p.g i).c1 ≤ coV p i ∧ coV p i ≤ (p.g i).c2 :=
  drawV_in' hp (blk_b h).2.2.1.2.1 (by have := cS_nn p i; omega)
theorem wm_in {p : Par} (hp : ParOk p) {i j : Nat} (h : blkOk (inW p i) = true) (hj : j < (p.g i).n) : ((p.g i).rd j).1 ≤ drawV p.m p.o (cS p i + 2 + (j : Int)) ((p.g i).rd j).1 ((p.g i).rd j).2.1 ∧ drawV p.m p.o (cS p i + 2 + (j : Int)) ((p.g i).rd j).1 ((p.g i).rd j).2.1 ≤ ((p.g i).rd j).2.1 :=
  drawV_in' hp (inW_rd h hj).2.1 (by have := cS_nn p i; omega)

/-! ### Region 18 -/
noncomputable def op18 : Array Oper := regO 18 (code Try.f3)
def ix18 : Nat → Option Nat
  | 6 => none
  | 7 => none
  | j => some j
def an18 : Nat → List Nat
  | 4 => [3]
  | 5 => [2, 4]
  | _ => []
theorem an18_lt : ∀ i, ∀ j ∈ an18 i, j < i := by
  intro i j hj
  unfold an18 at hj
  split at hj <;> simp at hj <;> omega
theorem lat18 : symX op18 8 6 ix18 (fun i => i) an18 z12 = true := by kernel_rfl
noncomputable def ar18 : List Bool → Array Bool := arrZ 8 ix18 z12
def sl18 (x : Wb) (L C a b d : Int) : Nat → List (Nat × FE)
  | 0 => [(89, ⟨[], .agg (wbS x 13)⟩)]
  | 1 => [(90, ⟨[], .agg [.si .i64 L, .si .i64 C]⟩)]
  | 2 => [(91, ⟨[], fnD⟩)]
  | 3 => [(92, ⟨[], .sp 17 0⟩)]
  | 4 => [(93, ⟨[], .agg [.si .i64 a, .si .i64 b]⟩)]
  | 5 => [(94, ⟨[], .si .i64 d⟩)]
  | _ => []
/-- What lies beside the counter in a round over readings. -/
def H18 (p : Par) (i j : Nat) (vs : List Value) : List (Nat × HB) := (17, .cells 41 (rdC ((p.g i).rd j))) :: (16, .vec 41 4 j (rdG (rrV p i))) :: (15, .cells 36 (wbS (p.g i) 16)) :: (14, .cells 39 [.si .i64 (lnV p i), .si .i64 (coV p i)]) :: hw p i vs
def b17 (p : Par) (i j : Nat) : List (Nat × FE) := (83, ⟨[], .sl 13⟩) :: (84, ⟨[], .si .i64 ((p.g i).n : Int)⟩) :: (85, ⟨[], .si .i64 (j : Int)⟩) :: (21, ⟨[], .sp 12 0⟩) :: (22, ⟨[], .sp 14 0⟩) :: (23, ⟨[], .sp 15 0⟩) :: bF p i
def b18 (p : Par) (i j : Nat) : List (Nat × FE) := (25, ⟨[], .sp 17 0⟩) :: b17 p i j
def Hf18 (p : Par) (i j : Nat) (vs : List Value) (c : Int) (l : List Bool) : List (Nat × HB) := (6, .cells 3 [.si .i64 (if l.getD 5 false = true then c + 1 else c)]) :: H18 p i j vs
section
variable {G : Base} {p : Par} {vs : List Value} {c a b d : Int} {i j : Nat} {K : Ex → St → Prop}
theorem weak18 (c : Int) (S : List (Nat × FE)) (hS : weakRF (fun j => j) 18 S S) : NewR 3 (fun j => j) 18 S S (drH p c ((6, .cells 3 [.si .i64 c]) :: H18 p i j vs)) ((6, .cells 3 [.si .i64 (c + 1)]) :: H18 p i j vs) [] := by
  refine ⟨hS, rfl, ?_, rfl, rfl, rfl, trivial⟩ <;> repeat' (first | exact trivial | exact rfl | (intro i hi; exact ⟨rfl, rfl⟩) | (intro v m g h; exact h) | refine And.intro ?_ ?_)
theorem keep18 : keepN (fun j => j) 18 (b18 p i j) ∧ ∀ k, k < 6 → keepN (fun j => j) 18 (sl18 (p.g i) (lnV p i) (coV p i) a b d k) := by
  refine ⟨?_, fun k hk => ?_⟩
  · simp only [b18, b17, bF, keepN, fnD, SVeq, SVeqL, renSV, renL, idsSV, idsL, and_true, true_and, if_true]
    repeat' (first | exact trivial | exact rfl | refine And.intro ?_ ?_)
  · rcases (show k = 0 ∨ k = 1 ∨ k = 2 ∨ k = 3 ∨ k = 4 ∨ k = 5 by omega) with rfl | rfl | rfl | rfl | rfl | rfl <;> repeat' (first | exact trivial | exact rfl | refine And.intro ?_ ?_)
theorem reg18 (hG : ∀ j, 3 ≤ j → G.ρ j = none) (hp : ParOk p) (hB : blkOk (inW p i) = true) (hj : j < (p.g i).n) (hc : 0 ≤ c ∧ c ≤ 80000) (ec : c = cS p i + 2 + (j : Int))
    (hK : K .normal ⟨(26, ⟨[], .si .i64 (shN p i j)⟩) :: b18 p i j, [], (6, .cells 3 [.si .i64 (c + 1)]) :: H18 p i j vs, 18, []⟩) :
    AnyS (X3 G) op18 8 (Array.replicate 8 false) ⟨b18 p i j, [], (6, .cells 3 [.si .i64 c]) :: H18 p i j vs, 18, []⟩ K := by
  have hr := inW_rd hB hj
  obtain ⟨d, hd⟩ : ∃ d, drawV p.m p.o c ((p.g i).rd j).1 ((p.g i).rd j).2.1 = d := ⟨_, rfl⟩
  have hdi : ((p.g i).rd j).1 ≤ d ∧ d ≤ ((p.g i).rd j).2.1 := by rw [← hd, ec]; exact wm_in hp hB hj
  refine any_latN (D := []) (ok3 G) 6 ar18 (fun i => i) (exM 6) (sl18 (p.g i) (lnV p i) (coV p i) ((p.g i).rd j).1 ((p.g i).rd j).2.1 d) (b18 p i j) (Hf18 p i j vs c) (fun _ => 18) an18 2 3 hG (fun a ha j hj => by have := an18_lt a j hj; omega) (latX_sym lat18) ?_ ?_ ?_ (List.replicate 6 false) rfl (by decide)
  · repeat' (first | exact trivial | exact ⟨rfl, rfl⟩ | refine And.intro ?_ ?_)
  · intro k hk l hl' hf ha hcl
    have n5 : k ≠ 5 → (l.set k true).getD 5 false = l.getD 5 false := getN
    have e := getS (l := l) (i := k) (by omega)
    have f := getF (l := l) (i := k) (by omega) hf
    simp only [Hf18]
    rcases (show k = 5 ∨ k ≠ 5 by omega) with rfl | h5
    · rw [e, f]
      simp only [if_true, if_false, Bool.false_eq_true]
      refine ⟨_, rfl, rfl, .inr ⟨fun j => j, _, _, 18, weak18 c _ ?_, (keep18 (j := j) (a := ((p.g i).rd j).1) (b := ((p.g i).rd j).2.1) (d := d)).1, fun k hk _ => (keep18 (j := j) (a := ((p.g i).rd j).1) (b := ((p.g i).rd j).2.1) (d := d)).2 k hk, fun tail Q Kn hC hK => ?_⟩⟩
      · repeat' (first | exact trivial | exact rfl | refine And.intro ?_ ?_)
      · exact fb_call (ok3 G) hC rfl rfl rfl rfl ⟨bd53, callS_draw hp rfl rfl rfl (by omega) (by omega) (by rw [hd]; exact hK)⟩
    · rw [n5 h5]
      obtain ⟨c', hc'⟩ : ∃ c', (if l.getD 5 false = true then c + 1 else c) = c' := ⟨_, rfl⟩
      rw [hc']
      rcases (show k = 0 ∨ k = 1 ∨ k = 2 ∨ k = 3 ∨ k = 4 by omega) with rfl | rfl | rfl | rfl | rfl
      all_goals
        refine ⟨_, rfl, rfl, .inl fun tail Q Kn hC hK => ?_⟩
        first | exact hK | exact fb_again (ok3 G) hC rfl hK
  · intro l hl he
    obtain rfl := exM_all' hl he
    refine any_step [6] (ok3 G) (by kernel_rfl) (by decide) ⟨?_, trivial⟩
    have hL := lnV_in hp hB
    have hC := coV_in hp hB
    have hb := blk_b hB
    simp only [inW] at hb
    refine Chk.mk ⟨rds_rd _ _, rfl, (show smB 1000000 (lnV p i) from ⟨by omega, by omega⟩), (show smB 1000 (p.g i).mark from ⟨by omega, by omega⟩), (show smB 1000 (coV p i) from ⟨by omega, by omega⟩), (show -1000 ≤ d by omega), (show d ≤ 1000 by omega)⟩ ?_
    refine any_step [7] (ok3 G) (by kernel_rfl) (by decide) ⟨?_, trivial⟩
    refine any_weaken 3 (fun j => j) hG ?_ (any_done (by kernel_rfl) hK)
    have e1 : showV (p.g i).mark (lnV p i, coV p i) d = shN p i j := by rw [← hd, ec]; rfl
    refine ⟨?_, ?_, rfl, rfl, rfl, rfl, trivial⟩ <;> repeat' (first | exact trivial | exact rfl | exact e1 | (intro i hi; exact ⟨rfl, rfl⟩) | (intro v m g h; exact h) | refine And.intro ?_ ?_)
end
end Go.X.W
end

section
set_option linter.unusedVariables false
set_option linter.unusedSimpArgs false
set_option linter.unusedSectionVars false
/- TopWarmed: plain laws of blocks (ends of what is told, room). -/
set_option linter.unusedVariables false
set_option linter.unusedSimpArgs false
set_option maxRecDepth 10000
set_option maxHeartbeats 1000000
namespace Go.X.W
open Go Go.Proofs Go.X
theorem pair_b {B : Blk} (hok : blkOk B = true) {p : Pr} (h : p ∈ pairsV B) : -1000 ≤ p.1 ∧ p.1 ≤ 1000 ∧ 0 ≤ p.2 ∧ p.2 ≤ 20 := by
  have h1 := (pairs_mem.1 h).1
  obtain ⟨hmk, hl, hc, hn, hr⟩ := blk_b hok
  omega
theorem tell_ok {B : Blk} (h : blkOk B = true) {is : Bool} : tellE B 0 is = if is = true then (if (pairsV B).length = 0 then 10 else 0) else 2 := by
  unfold tellE errV
  rw [if_pos h]
  cases is <;> simp
theorem foldl_endF {l : List Int} : ∀ {s : Int × Int}, (l.foldl endF s).1 ≤ s.1 ∧ s.2 ≤ (l.foldl endF s).2 ∧ ∀ x ∈ l, (l.foldl endF s).1 ≤ x ∧ x ≤ (l.foldl endF s).2 := by
  induction l with
  | nil => intro s; exact ⟨Int.le_refl _, Int.le_refl _, fun x h => by cases h⟩
  | cons y r ih =>
    intro s
    obtain ⟨h1, h2, h3⟩ := ih (s := endF s y)
    have e1 : (endF s y).1 = min s.1 y := rfl
    have e2 : (endF s y).2 = max s.2 y := rfl
    rw [e1] at h1
    rw [e2] at h2
    rw [List.foldl_cons]
    refine ⟨by omega, by omega, fun x hx => ?_⟩
    rcases List.mem_cons.1 hx with rfl | hx
    · omega
    · exact h3 x hx
theorem ends_in {l : List Int} {x : Int} (h : x ∈ l) : (endsV l).1 ≤ x ∧ x ≤ (endsV l).2 := (foldl_endF (l := l)).2.2 x h
theorem foldl_endF_mem {l : List Int} : ∀ {s : Int × Int}, ((l.foldl endF s).1 = s.1 ∨ (l.foldl endF s).1 ∈ l) ∧ ((l.foldl endF s).2 = s.2 ∨ (l.foldl endF s).2 ∈ l) := by
  induction l with
  | nil => intro s; exact ⟨.inl rfl, .inl rfl⟩
  | cons y r ih =>
    intro s
    obtain ⟨h1, h2⟩ := ih (s := endF s y)
    rw [List.foldl_cons]
    have e1 : (endF s y).1 = min s.1 y := rfl
    have e2 : (endF s y).2 = max s.2 y := rfl
    constructor
    · rcases h1 with h | h
      · rw [h, e1]
        rcases Int.le_total s.1 y with h' | h'
        · left; omega
        · right; rw [show min s.1 y = y by omega]; exact List.mem_cons_self
      · exact .inr (List.mem_cons_of_mem _ h)
    · rcases h2 with h | h
      · rw [h, e2]
        rcases Int.le_total s.2 y with h' | h'
        · right; rw [show max s.2 y = y by omega]; exact List.mem_cons_self
        · left; omega
      · exact .inr (List.mem_cons_of_mem _ h)
/-- The ends of numbers, none of which is great, are two of them. -/
theorem ends_mem {l : List Int} (h0 : 0 < l.length) (hb : ∀ x ∈ l, -1000000000 ≤ x ∧ x ≤ 1000000000) : (endsV l).1 ∈ l ∧ (endsV l).2 ∈ l := by
  obtain ⟨x, hx⟩ := List.exists_mem_of_length_pos h0
  have h1 := ends_in hx
  have hx' := hb x hx
  obtain ⟨h2, h3⟩ := foldl_endF_mem (l := l) (s := (1099511627776, -1099511627776))
  have e : endsV l = l.foldl endF (1099511627776, -1099511627776) := rfl
  rw [← e] at h2 h3
  exact ⟨h2.resolve_left (by simp only; omega), h3.resolve_left (by simp only; omega)⟩
theorem grow_zero (mk a : Int) : growV mk a 0 = 0 := by simp [growV]
theorem hullE_tell {B : Blk} (h : blkOk B = true) {is : Bool} (L : Pr → List Int) : hullE B is L = if is = true then (if (pairsV B).length = 0 then ((0, 0), 10) else (hullV B L, 0)) else ((0, 0), 2) := by
  unfold hullE
  rw [tell_ok h]
  cases is
  · rfl
  · by_cases h0 : (pairsV B).length = 0
    · simp [h0]
    · simp [h0]
theorem show_tight {mk : Int} {p : Pr} {t : Int} (h0 : 0 ≤ mk ∧ mk ≤ 100) (h1 : -1000 ≤ p.1 ∧ p.1 ≤ 1000 ∧ 0 ≤ p.2 ∧ p.2 ≤ 20) (ht : -100 ≤ t ∧ t ≤ 100) : -21000 ≤ showV mk p t ∧ showV mk p t ≤ 21000 := by
  have hma : 0 ≤ mk * p.2 ∧ mk * p.2 ≤ 2000 := by
    constructor
    · exact Int.mul_nonneg h0.1 h1.2.2.1
    · have k1 : mk * p.2 ≤ 100 * p.2 := Int.mul_le_mul_of_nonneg_right h0.2 h1.2.2.1
      omega
  have k1 : mk * p.2 * t ≤ mk * p.2 * 100 := Int.mul_le_mul_of_nonneg_left ht.2 hma.1
  have k2 : mk * p.2 * (-100) ≤ mk * p.2 * t := Int.mul_le_mul_of_nonneg_left ht.1 hma.1
  unfold showV growV
  omega
theorem downTo_spec (q : Nat → Bool) : ∀ n : Nat, downTo q n ≤ n ∧ (downTo q n = 0 ∨ q (downTo q n) = true) ∧ ∀ k, downTo q n < k → k ≤ n → q k = false
  | 0 => ⟨Nat.le_refl _, .inl rfl, fun k h1 h2 => by simp only [downTo] at h1; omega⟩
  | n + 1 => by
    obtain ⟨h1, h2, h3⟩ := downTo_spec q n
    simp only [downTo]
    by_cases hq : q (n + 1) = true
    · rw [if_pos hq]
      exact ⟨Nat.le_refl _, .inr hq, fun k h1 h2 => by omega⟩
    · rw [if_neg hq]
      refine ⟨by omega, h2, fun k h4 h5 => ?_⟩
      by_cases e : k = n + 1
      · rw [e]; simpa using hq
      · exact h3 k h4 (by omega)
theorem coldB_iff {mk off : Int} {l : List Pr} {m : Nat} : coldB mk off l m = true ↔ ∀ p ∈ l, -off ≤ growV mk p.2 (-(m : Int)) := by
  unfold coldB
  rw [List.all_eq_true]
  exact forall_congr' fun p => imp_congr_right fun _ => decide_eq_true_iff
theorem show_sub (mk : Int) (p : Pr) (t : Int) : showV mk p t - p.1 = growV mk p.2 t := by unfold showV; omega
theorem grow_neg (mk a t : Int) : growV mk a t ≤ -growV mk a (-t) := by
  unfold growV
  have e : mk * a * -t = -(mk * a * t) := by rw [Int.mul_neg]
  rw [e]
  omega
section
variable {B : Blk} (hok : blkOk B = true) {off : Int} (h0 : 0 ≤ off)
include hok h0
theorem room_in {p : Pr} (hp : p ∈ pairsV B) {t : Int} (ht : -roomV B off ≤ t ∧ t ≤ roomV B off) : -off ≤ showV B.mark p t - p.1 ∧ showV B.mark p t - p.1 ≤ off := by
  obtain ⟨hmk, _⟩ := blk_b hok
  have ha := (pair_b hok hp).2.2.1
  obtain ⟨h1, h2, h3⟩ := downTo_spec (coldB B.mark off (pairsV B)) 100
  have hr : roomV B off = ((downTo (coldB B.mark off (pairsV B)) 100 : Nat) : Int) := rfl
  rw [hr] at ht
  generalize downTo (coldB B.mark off (pairsV B)) 100 = m at h1 h2 h3 ht
  have hm : -off ≤ growV B.mark p.2 (-(m : Int)) := by
    rcases h2 with h2 | h2
    · subst h2
      have := grow_zero B.mark p.2
      have e : (-((0 : Nat) : Int)) = 0 := rfl
      rw [e]; omega
    · exact coldB_iff.1 h2 p hp
  rw [show_sub]
  have g1 := growV_anti (mk := B.mark) (a := p.2) (by omega) ha ht.1
  have g2 := growV_anti (mk := B.mark) (a := p.2) (by omega) ha ht.2
  have g3 := grow_neg B.mark p.2 (m : Int)
  omega
end
theorem room_b (B : Blk) (off : Int) : 0 ≤ roomV B off ∧ roomV B off ≤ 100 := by
  have h1 := (downTo_spec (coldB B.mark off (pairsV B)) 100).1
  have hr : roomV B off = ((downTo (coldB B.mark off (pairsV B)) 100 : Nat) : Int) := rfl
  omega
theorem roomE_tell {B : Blk} (h : blkOk B = true) (off : Int) : roomE B off = if inB off 0 30000 = true then (if (pairsV B).length = 0 then (0, 10) else (roomV B off, 0)) else (0, 2) := by
  unfold roomE
  rw [tell_ok h]
  cases inB off 0 30000
  · rfl
  · by_cases h0 : (pairsV B).length = 0
    · simp [h0]
    · simp [h0]
end Go.X.W
end

section
set_option linter.unusedVariables false
set_option linter.unusedSimpArgs false
set_option linter.unusedSectionVars false
/- TopWarmed: the plain law of blocks whose readings are made anew. -/
set_option linter.unusedVariables false
set_option linter.unusedSimpArgs false
set_option maxRecDepth 10000
set_option maxHeartbeats 1000000
namespace Go.X.W
open Go Go.Proofs Go.X
section
variable {p : Par} {i : Nat}
theorem shN_in (hp : ParOk p) {j : Nat} (hB : blkOk (inW p i) = true) (hj : j < (p.g i).n) : -21000 ≤ shN p i j ∧ shN p i j ≤ 21000 := by
  have hL := lnV_in hp hB
  have hC := coV_in hp hB
  have hw := wm_in hp hB hj
  have hr := inW_rd hB hj
  have hb := blk_b hB
  simp only [inW] at hb
  exact show_tight (by omega) ⟨by omega, by omega, by omega, by omega⟩ ⟨by omega, by omega⟩
theorem rt_ok (hp : ParOk p) (hB : blkOk (inW p i) = true) : blkOk (rtB p i) = true := by
  have h0 := hB
  unfold blkOk at h0 ⊢
  rw [Bool.and_eq_true] at h0 ⊢
  refine ⟨?_, List.all_eq_true.2 fun x hx => ?_⟩
  · have h1 := h0.1
    have e : (rtB p i).rs.length = (inW p i).rs.length := by simp [rtB, inW]
    rw [e]
    exact h1
  · obtain ⟨j, hj, rfl⟩ := List.mem_map.1 hx
    have hj := List.mem_range.1 hj
    have h1 := List.all_eq_true.1 h0.2 ((p.g i).rd j) (List.mem_map.2 ⟨j, List.mem_range.2 hj, rfl⟩)
    have h2 := shN_in hp hB hj
    rw [show rrV p i j = (((p.g i).rd j).1, ((p.g i).rd j).2.1, shN p i j - 1, shN p i j + 1) from rfl]
    unfold rdOk spanB at h1 ⊢
    simp only [Bool.and_eq_true, decide_eq_true_eq] at h1 ⊢
    omega
theorem rt_mem (hp : ParOk p) (hB : blkOk (inW p i) = true) : (lnV p i, coV p i) ∈ pairsV (rtB p i) := by
  have hL := lnV_in hp hB
  have hC := coV_in hp hB
  refine pairs_mem.2 ⟨⟨hL.1, hL.2, hC.1, hC.2⟩, ?_⟩
  unfold okP
  refine List.all_eq_true.2 fun x hx => ?_
  obtain ⟨j, hj, rfl⟩ := List.mem_map.1 hx
  have hj := List.mem_range.1 hj
  have hw := wm_in hp hB hj
  unfold canV
  refine List.any_eq_true.2 ⟨drawV p.m p.o (cS p i + 2 + (j : Int)) ((p.g i).rd j).1 ((p.g i).rd j).2.1, mem_iota.2 hw, ?_⟩
  have e : showV (rtB p i).mark (lnV p i, coV p i) (drawV p.m p.o (cS p i + 2 + (j : Int)) ((p.g i).rd j).1 ((p.g i).rd j).2.1) = shN p i j := rfl
  unfold hitB inB
  rw [e, show rrV p i j = (((p.g i).rd j).1, ((p.g i).rd j).2.1, shN p i j - 1, shN p i j + 1) from rfl]
  simp only [Bool.and_eq_true, decide_eq_true_eq]
  omega
theorem rt_len (hp : ParOk p) (hB : blkOk (inW p i) = true) : ¬ (pairsV (rtB p i)).length = 0 := by
  have := List.length_pos_of_mem (rt_mem hp hB)
  omega
theorem rt_hull (hp : ParOk p) (hB : blkOk (inW p i) = true) : hullE (rtB p i) true (fun q => [q.1]) = (hlV p i, 0) := by
  rw [hullE_tell (rt_ok hp hB), if_pos rfl, if_neg (rt_len hp hB)]
  rfl
theorem rt_in (hp : ParOk p) (hB : blkOk (inW p i) = true) : (hlV p i).1 ≤ lnV p i ∧ lnV p i ≤ (hlV p i).2 :=
  ends_in (List.mem_flatMap.2 ⟨(lnV p i, coV p i), rt_mem hp hB, List.mem_singleton.2 rfl⟩)
theorem rt_b (hp : ParOk p) (hB : blkOk (inW p i) = true) : -1000 ≤ (hlV p i).1 ∧ (hlV p i).1 ≤ (hlV p i).2 ∧ (hlV p i).2 ≤ 1000 := by
  have h1 := rt_in hp hB
  have hb : ∀ x ∈ (pairsV (rtB p i)).flatMap (fun q => [q.1]), -1000 ≤ x ∧ x ≤ 1000 := fun x hx => by
    obtain ⟨q, hq, hx⟩ := List.mem_flatMap.1 hx
    rw [List.mem_singleton.1 hx]
    have := pair_b (rt_ok hp hB) hq
    omega
  have h2 := ends_mem (l := (pairsV (rtB p i)).flatMap (fun q => [q.1])) (List.length_pos_of_mem (List.mem_flatMap.2 ⟨(lnV p i, coV p i), rt_mem hp hB, List.mem_singleton.2 rfl⟩)) (fun x hx => by have := hb x hx; omega)
  have h3 := hb _ h2.1
  have h4 := hb _ h2.2
  have e : hlV p i = endsV ((pairsV (rtB p i)).flatMap (fun q => [q.1])) := rfl
  rw [e] at h1 ⊢
  omega
/-- The room of a block. -/
theorem rt_room (hp : ParOk p) (hB : blkOk (inW p i) = true) : roomE (rtB p i) p.much = (roomV (rtB p i) p.much, 0) := by
  have h := hp.much
  rw [roomE_tell (rt_ok hp hB), if_pos (by unfold inB; simp only [Bool.and_eq_true, decide_eq_true_eq]; omega), if_neg (rt_len hp hB)]
theorem rt_show (hp : ParOk p) (hB : blkOk (inW p i) = true) {t : Int} (ht : -roomV (rtB p i) p.much ≤ t ∧ t ≤ roomV (rtB p i) p.much) : -p.much ≤ showV (p.g i).mark (lnV p i, coV p i) t - lnV p i ∧ showV (p.g i).mark (lnV p i, coV p i) t - lnV p i ≤ p.much :=
  room_in (rt_ok hp hB) hp.much.1 (rt_mem hp hB) ht
end
end Go.X.W
end

section
set_option linter.unusedVariables false
set_option linter.unusedSimpArgs false
set_option linter.unusedSectionVars false
/- TopWarmed: the loop over the readings of a block. -/
set_option linter.unusedVariables false
set_option linter.unusedSimpArgs false
set_option maxRecDepth 10000
set_option maxHeartbeats 4000000
namespace Go.X.W
open Go Go.Proofs Go.X

/-- The body of a block of code. -/
def lpB (n : Nat) : Code → Code
  | .block m a => if Nat.beq m n then a else lpB n a
  | .seq a b => match lpB n a with
    | .skip => lpB n b
    | c => c
  | .cond _ a b => match lpB n a with
    | .skip => lpB n b
    | c => c
  | .loop a => lpB n a
  | .scope a => lpB n a
  | _ => .skip
def H17 (p : Par) (i j : Nat) (vs : List Value) : List (Nat × HB) := (16, .vec 41 4 j (rdG (rrV p i))) :: (15, .cells 36 (wbS (p.g i) 16)) :: (14, .cells 39 [.si .i64 (lnV p i), .si .i64 (coV p i)]) :: hw p i vs
section
variable {G : Base} {p : Par} {vs : List Value} {i : Nat} {K : Ex → St → Prop}
theorem rdLoop (hG : ∀ j, 3 ≤ j → G.ρ j = none) (hp : ParOk p) (hB : blkOk (inW p i) = true) (hc : cS p i ≤ 70000)
    (hK : K (.exit 2) ⟨(86, ⟨[], .sb (decide (((p.g i).n : Int) < ((p.g i).n : Int)))⟩) :: b17 p i (p.g i).n, [], (6, .cells 3 [.si .i64 (cS p i + 2 + ((p.g i).n : Int))]) :: H17 p i (p.g i).n vs, 17, []⟩) :
    SemC (X3 G) (lpB 2 (code Try.f3)) ⟨b17 p i 0, [], (6, .cells 3 [.si .i64 (cS p i + 2)]) :: H17 p i 0 vs, 17, []⟩ K := by
  have hn := inW_n hB
  have hc0 := cS_nn p i
  refine loop_okR (ok3 G) 3 (fun x : {j // j ≤ (p.g i).n} => ⟨b17 p i x.1, [], (6, .cells 3 [.si .i64 (cS p i + 2 + (x.1 : Int))]) :: H17 p i x.1 vs, 17, []⟩) (fun x => (p.g i).n - x.1) hG ⟨0, Nat.zero_le _⟩ (fun j => j) ?_ ?_
  · have e0 : cS p i + 2 = cS p i + 2 + ((0 : Nat) : Int) := by omega
    refine ⟨?_, ?_, rfl, rfl, rfl, rfl, trivial⟩ <;> repeat' (first | exact trivial | exact rfl | exact e0 | (intro i hi; exact ⟨rfl, rfl⟩) | (intro v m g h; exact h) | refine And.intro ?_ ?_)
  rintro ⟨j, hj⟩
  have hj : j ≤ (p.g i).n := hj
  refine Br.mk (fun h => ?_) (fun h => ?_)
  · have h : (j : Int) < ((p.g i).n : Int) := of_decide_eq_true h
    have hjn : j < (p.g i).n := by omega
    have hsh := shN_in hp hB hjn
    refine Chk.mk (show (0 : Int) ≤ (j : Int) ∧ (j : Int) < ((p.g i).n : Int) from ⟨by omega, h⟩) ?_
    refine (show SemC _ _ _ _ from ?_)
    refine any_region fol ?_
    refine any_weaken (st' := ⟨b18 p i j, [], (6, .cells 3 [.si .i64 (cS p i + 2 + (j : Int))]) :: H18 p i j vs, 18, []⟩) 3 (fun j => j) hG (by
      refine ⟨?_, ?_, rfl, rfl, rfl, rfl, trivial⟩ <;> repeat' (first | exact trivial | exact rfl | (intro i hi; exact ⟨rfl, rfl⟩) | (intro v m g h; exact h) | refine And.intro ?_ ?_)) ?_
    refine reg18 hG hp hB hjn ⟨by omega, by omega⟩ rfl ?_
    refine drawn_ok (ok3 G) fol [0,1,0,4,0,16,0,64,240,508,1020,2047,4095,8191] [] 11 (by kernel_rfl) ?_
    refine Chk.mk (show InK .i64 (shN p i j - 1) from ⟨by omega, by omega⟩) (Chk.mk (show InK .i64 (shN p i j + 1) from ⟨by omega, by omega⟩) ?_)
    refine fb_append (Te := 0) 16 58 j 1 _ _ (rdG (rrV p i)) (ok3 G) cont_std rfl rfl rfl rfl rfl rfl rfl rfl rfl rfl rfl rfl (by decide) (by decide) rfl rfl rfl rfl (by omega) (fun k hk => ?_) ?_
    · rcases Nat.lt_or_ge k j with h1 | h1
      · rw [if_pos h1]
      · obtain rfl : k = j := by omega
        rw [if_neg (by omega), show k - k = 0 by omega]
        rfl
    refine Chk.mk (show InK .i64 ((j : Int) + 1) from ⟨by omega, by omega⟩) ⟨⟨j + 1, (by omega : j + 1 ≤ (p.g i).n)⟩, (fun j => match j with | 16 => 62 | j => j), ?_, by show (p.g i).n - (j + 1) < (p.g i).n - j; omega⟩
    have e1 : cS p i + 2 + (j : Int) + 1 = cS p i + 2 + ((j + 1 : Nat) : Int) := by omega
    refine ⟨?_, ?_, rfl, rfl, rfl, rfl, trivial⟩ <;> repeat' (first | exact trivial | exact rfl | exact e1 | (intro i hi; exact ⟨rfl, rfl⟩) | (intro v m g h; exact h) | refine And.intro ?_ ?_)
  · have h : ¬ (j : Int) < ((p.g i).n : Int) := of_decide_eq_false h
    obtain rfl : j = (p.g i).n := by omega
    exact hK
end
end Go.X.W
end

section
set_option linter.unusedVariables false
set_option linter.unusedSimpArgs false
set_option linter.unusedSectionVars false
/- TopWarmed: region 24 in whatever order (three appends). -/
set_option linter.unusedVariables false
set_option linter.unusedSimpArgs false
set_option maxRecDepth 10000
set_option maxHeartbeats 4000000
namespace Go.X.W
open Go Go.Proofs Go.X

noncomputable def op24 : Array Oper := regO 24 (code Try.f3)
def ix24 (j : Nat) : Option Nat := if j < 13 then some j else none
def an24 : Nat → List Nat
  | 2 => [1]
  | 3 => [1, 2]
  | 4 => [0, 3]
  | 7 => [6]
  | 8 => [6, 7]
  | 9 => [4, 5, 8]
  | 12 => [11]
  | _ => []
theorem an24_lt : ∀ i, ∀ j ∈ an24 i, j < i := by
  intro i j hj
  unfold an24 at hj
  split at hj <;> simp at hj <;> omega
theorem lat24 : symX op24 17 13 ix24 (fun i => i) an24 z12 = true := by kernel_rfl
noncomputable def ar24 : List Bool → Array Bool := arrZ 17 ix24 z12
/-- What stays as it is. -/
def hR (p : Par) (i : Nat) (vs : List Value) : List (Nat × HB) := [(5, .cells 25 [.sl 1]), (0, .ro 6 p.N fun i => wbC (p.g i)), (1, .ro 1 p.m fun i => [.si .u16 (p.o i)]), (2, .fam 4 (wbF p.N p.g)), (3, .cells 24 [.si .i64 p.flo, .si .i64 p.fhi]), (4, .cells 30 [.sl 10, .si .i64 p.flo, .si .i64 p.fhi]),
  (10, .vec 24 2 i fun j => spanC (spV p j)), (11, .fam 4 (rtF p vs))]
def lnG (p : Par) (j : Nat) : List SV := [.si .i64 (lnV p j)]
def coG (p : Par) (j : Nat) : List SV := [.si .i64 (coV p j)]
def rtG (p : Par) (vs : List Value) (j : Nat) : List SV := wbC (rtW p vs j)
def pa24 (p : Par) (i : Nat) : Bool → Bool → List (Nat × HB)
  | false, _ => [(7, .vec 3 1 i (lnG p))]
  | true, false => [(20, .row 3 1 1 [.si .i64 (lnV p i)]), (7, .vec 3 1 i (lnG p))]
  | true, true => [(21, .vec 3 1 (i + 1) (lnG p))]
def pb24 (p : Par) (i : Nat) : Bool → Bool → List (Nat × HB)
  | false, _ => [(8, .vec 3 1 i (coG p))]
  | true, false => [(22, .row 3 1 1 [.si .i64 (coV p i)]), (8, .vec 3 1 i (coG p))]
  | true, true => [(23, .vec 3 1 (i + 1) (coG p))]
def pc24 (p : Par) (i : Nat) (vs : List Value) : Bool → List (Nat × HB)
  | false => []
  | true => [(24, .row 36 6 1 (wbC (rtW p vs i)))]
def ba24 (p : Par) (i : Nat) (vs : List Value) (c : Int) : List (Nat × HB) := (17, .cells 24 [.si .i64 (hlV p i).1, .si .i64 (hlV p i).2]) :: (15, .cells 36 (wbC (rtW p vs i))) :: (14, .cells 39 [.si .i64 (lnV p i), .si .i64 (coV p i)]) :: (9, .vec 36 6 i (rtG p vs)) :: (6, .cells 3 [.si .i64 c]) :: hR p i vs
def hh24 (p : Par) (i : Nat) (vs : List Value) (c : Int) (b3 b4 b8 b9 b12 : Bool) : List (Nat × HB) := ba24 p i vs c ++ (pa24 p i b3 b4 ++ (pb24 p i b8 b9 ++ pc24 p i vs b12))
def Hf24 (p : Par) (i : Nat) (vs : List Value) (c : Int) (l : List Bool) : List (Nat × HB) := hh24 p i vs c (l.getD 3 false) (l.getD 4 false) (l.getD 8 false) (l.getD 9 false) (l.getD 12 false)
def b24 (p : Par) (i : Nat) : List (Nat × FE) := (27, ⟨[], .sp 17 0⟩) :: (23, ⟨[], .sp 15 0⟩) :: (22, ⟨[], .sp 14 0⟩) :: bF p i
def sl24 (p : Par) (i : Nat) (vs : List Value) : Nat → List (Nat × FE)
  | 0 => [(131, ⟨[], .sl 7⟩)]
  | 1 => [(132, ⟨[], .sp 14 0⟩)]
  | 2 => [(133, ⟨[], .si .i64 (lnV p i)⟩)]
  | 3 => [(134, ⟨[], .sl 20⟩)]
  | 4 => [(135, ⟨[], .sl 21⟩)]
  | 5 => [(136, ⟨[], .sl 8⟩)]
  | 6 => [(137, ⟨[], .sp 14 1⟩)]
  | 7 => [(138, ⟨[], .si .i64 (coV p i)⟩)]
  | 8 => [(139, ⟨[], .sl 22⟩)]
  | 9 => [(140, ⟨[], .sl 23⟩)]
  | 10 => [(141, ⟨[], .sl 9⟩)]
  | 11 => [(142, ⟨[], .agg (wbC (rtW p vs i))⟩)]
  | 12 => [(143, ⟨[], .sl 24⟩)]
  | _ => []
/-- The piece k has the number 25. -/
def sw (k j : Nat) : Nat := if Nat.beq j k then 25 else j
section
variable {G : Base} {p : Par} {vs : List Value} {c : Int} {i : Nat} {K : Ex → St → Prop}
theorem keep24 {k : Nat} (hk : 20 ≤ k ∧ k ≤ 24) : keepN (sw k) 25 (b24 p i) ∧ ∀ j, j < 13 → ¬ (j = 3 ∧ k = 20) → ¬ (j = 4 ∧ k = 21) → ¬ (j = 8 ∧ k = 22) → ¬ (j = 9 ∧ k = 23) → ¬ (j = 12 ∧ k = 24) → keepN (sw k) 25 (sl24 p i vs j) := by
  rcases (show k = 20 ∨ k = 21 ∨ k = 22 ∨ k = 23 ∨ k = 24 by omega) with rfl | rfl | rfl | rfl | rfl
  all_goals
    refine ⟨?_, fun j hj h1 h2 h3 h4 h5 => ?_⟩
    · simp only [b24, bF, keepN, fnD, SVeq, SVeqL, renSV, renL, idsSV, idsL, and_true, true_and, if_true]
      repeat' (first | exact trivial | exact rfl | refine And.intro ?_ ?_)
    · rcases (show j = 0 ∨ j = 1 ∨ j = 2 ∨ j = 3 ∨ j = 4 ∨ j = 5 ∨ j = 6 ∨ j = 7 ∨ j = 8 ∨ j = 9 ∨ j = 10 ∨ j = 11 ∨ j = 12 by omega) with rfl | rfl | rfl | rfl | rfl | rfl | rfl | rfl | rfl | rfl | rfl | rfl | rfl
      all_goals first | exact absurd ⟨rfl, rfl⟩ h1 | exact absurd ⟨rfl, rfl⟩ h2 | exact absurd ⟨rfl, rfl⟩ h3 | exact absurd ⟨rfl, rfl⟩ h4 | exact absurd ⟨rfl, rfl⟩ h5 | (repeat' (first | exact trivial | exact rfl | refine And.intro ?_ ?_))
theorem wk24_3 (b8 b12 : Bool) : NewR 3 (sw 20) 25 [(134, ⟨[], .sl 25⟩)] [(134, ⟨[], .sl 20⟩)] ((25, .row 3 1 1 [.si .i64 (lnV p i)]) :: hh24 p i vs c false false b8 false b12) (hh24 p i vs c true false b8 false b12) [] := by
  cases b8 <;> cases b12 <;> refine ⟨?_, rfl, ?_, rfl, rfl, rfl, trivial⟩ <;> repeat' (first | exact trivial | exact rfl | (intro i hi; exact ⟨rfl, rfl⟩) | (intro v m g h; exact h) | refine And.intro ?_ ?_)
theorem wk24_4 (b8 b12 : Bool) : NewR 3 (sw 21) 25 [(135, ⟨[], .sl 25⟩)] [(135, ⟨[], .sl 21⟩)] ((25, .vec 3 1 (i + 1) (lnG p)) :: (7, .dead) :: hh24 p i vs c true false b8 false b12) (hh24 p i vs c true true b8 false b12) [] := by
  cases b8 <;> cases b12 <;> refine ⟨?_, rfl, ?_, rfl, rfl, rfl, trivial⟩ <;> repeat' (first | exact trivial | exact rfl | (intro i hi; exact ⟨rfl, rfl⟩) | (intro v m g h; exact h) | refine And.intro ?_ ?_)
theorem wk24_8 (b3 b4 b12 : Bool) : NewR 3 (sw 22) 25 [(139, ⟨[], .sl 25⟩)] [(139, ⟨[], .sl 22⟩)] ((25, .row 3 1 1 [.si .i64 (coV p i)]) :: hh24 p i vs c b3 b4 false false b12) (hh24 p i vs c b3 b4 true false b12) [] := by
  cases b3 <;> cases b4 <;> cases b12 <;> refine ⟨?_, rfl, ?_, rfl, rfl, rfl, trivial⟩ <;> repeat' (first | exact trivial | exact rfl | (intro i hi; exact ⟨rfl, rfl⟩) | (intro v m g h; exact h) | refine And.intro ?_ ?_)
theorem wk24_9 (b12 : Bool) : NewR 3 (sw 23) 25 [(140, ⟨[], .sl 25⟩)] [(140, ⟨[], .sl 23⟩)] ((25, .vec 3 1 (i + 1) (coG p)) :: (8, .dead) :: hh24 p i vs c true true true false b12) (hh24 p i vs c true true true true b12) [] := by
  cases b12 <;> refine ⟨?_, rfl, ?_, rfl, rfl, rfl, trivial⟩ <;> repeat' (first | exact trivial | exact rfl | (intro i hi; exact ⟨rfl, rfl⟩) | (intro v m g h; exact h) | refine And.intro ?_ ?_)
theorem wk24_12 (b3 b4 b8 b9 : Bool) : NewR 3 (sw 24) 25 [(143, ⟨[], .sl 25⟩)] [(143, ⟨[], .sl 24⟩)] ((25, .row 36 6 1 (wbC (rtW p vs i))) :: hh24 p i vs c b3 b4 b8 b9 false) (hh24 p i vs c b3 b4 b8 b9 true) [] := by
  cases b3 <;> cases b4 <;> cases b8 <;> cases b9 <;> refine ⟨?_, rfl, ?_, rfl, rfl, rfl, trivial⟩ <;> repeat' (first | exact trivial | exact rfl | (intro i hi; exact ⟨rfl, rfl⟩) | (intro v m g h; exact h) | refine And.intro ?_ ?_)
end
end Go.X.W
end
