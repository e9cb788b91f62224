/- Branches that come together; a block of which length and coefficient are known, ends of lists, and the room. -/
import Derived.Test.YtipjgdkaocfapaaMD
import Derived.Test.YtipjgdkaocfapaaNE

section
set_option linter.unusedVariables false
set_option linter.unusedSimpArgs false
set_option linter.unusedSectionVars false
/- Branches, and orders of a region, that come together again. -/
set_option linter.unusedVariables false
set_option linter.unusedSimpArgs false
set_option maxRecDepth 10000
namespace Go.X
open Go

theorem any_weaken {X : Cx} {st st' : St} {K : Ex → St → Prop} {ops : Array Oper} {fuel : Nat} {listed : Array Bool} (n0 : Nat) (s : Nat → Nat) (hn : ∀ j, n0 ≤ j → X.G.ρ j = none) (h : WeakR n0 s st st') (hk : AnyS X ops fuel listed st' K) : AnyS X ops fuel listed st K :=
  ⟨fun ρ a w hm => hk.h _ a w (hm.ren h hn)⟩
/-- Several operations are ready: by whichever order they run, the same state is reached, and what follows is looked at once. -/
theorem any_fork {X : Cx} {st : St} {K : Ex → St → Prop} {ops : Array Oper} {fuel : Nat} {listed : Array Bool} (rs : List Nat) (stC : St) (fuel' : Nat) (listed' : Array Bool) (hX : X.Ok) (hr : Region.ready .any ops listed = rs) (hne : rs ≠ [])
    (hb : ∀ K : Ex → St → Prop, AnyS X ops fuel' listed' stC K → stepsK X ops fuel listed st K rs) (h : AnyS X ops fuel' listed' stC K) : AnyS X ops (fuel + 1) listed st K :=
  any_step rs hX hr hne (hb K h)
/-- Two branches that come to the same code, and to states that say no less than a third one. -/
theorem br_join {p : Bool} {a b : Prop} {X : Cx} {c : Code} {st1 st2 : St} {K : Ex → St → Prop} (hX : X.Ok) (n0 : Nat) (hn : ∀ j, n0 ≤ j → X.G.ρ j = none) (stC : St) (s1 s2 : Nat → Nat) (ha : p = true → SemC X c st1 K → a) (hb : p = false → SemC X c st2 K → b)
    (w1 : p = true → WeakR n0 s1 st1 stC) (w2 : p = false → WeakR n0 s2 st2 stC) (h : exec X c stC K) : Br p a b :=
  ⟨fun hp => ha hp (weaken hX n0 s1 hn (w1 hp) h), fun hp => hb hp (weaken hX n0 s2 hn (w2 hp) h)⟩
end Go.X
end

section
set_option linter.unusedVariables false
set_option linter.unusedSimpArgs false
set_option linter.unusedSectionVars false
/- Branches that come together at an operation. -/
set_option linter.unusedVariables false
set_option linter.unusedSimpArgs false
set_option maxRecDepth 10000
namespace Go.X
open Go

theorem br_joinF {p : Bool} {a b : Prop} {X : Cx} {ops : List Oper} {Q : Exit → Act → World → Prop} {Kn : St → Prop} {Kp : List PanicEntry → St → Prop} {i : Nat} {o : Oper} {r : List Oper} {st1 st2 : St} (n0 : Nat) (hn : ∀ j, n0 ≤ j → X.G.ρ j = none) (stC : St) (s1 s2 : Nat → Nat)
    (ha : p = true → FbO X ops Q Kn Kp i o r st1 → a) (hb : p = false → FbO X ops Q Kn Kp i o r st2 → b)
    (w1 : p = true → WeakR n0 s1 st1 stC) (w2 : p = false → WeakR n0 s2 st2 stC) (h : FbO X ops Q Kn Kp i o r stC) : Br p a b :=
  ⟨fun hp => ha hp ⟨fun ρ a w hm => h.h _ a w (hm.ren (w1 hp) hn)⟩, fun hp => hb hp ⟨fun ρ a w hm => h.h _ a w (hm.ren (w2 hp) hn)⟩⟩
end Go.X
end

section
set_option linter.unusedVariables false
set_option linter.unusedSimpArgs false
set_option linter.unusedSectionVars false
/- Warm: a block of which length and coefficient are known; ends of lists, plainly. -/
set_option linter.unusedVariables false
set_option linter.unusedSimpArgs false
set_option maxRecDepth 10000
set_option maxHeartbeats 1000000
namespace Go.X.W
open Go Go.Proofs Go.X

def exB (B : Blk) (a b : Int) : Blk := ⟨B.mark, a, a, b, b, B.rs⟩
theorem iota_one (a : Int) : iota a a = [a] := by
  rw [iota_cons (Int.le_refl a), iota_nil (by omega)]
theorem ex_pairs (B : Blk) (a b : Int) : pairsV (exB B a b) = if okP B.mark B.rs (a, b) = true then [(a, b)] else [] := by
  have e1 : pairsV (exB B a b) = row (okP B.mark B.rs) a b (b + 1) := by
    show rows (okP B.mark B.rs) a b b (a + 1) = _
    rw [rows_next (Int.le_refl a), rows_first, List.nil_append]
  rw [e1, row_next (Int.le_refl b), row_first, List.nil_append]
theorem err_blk {B : Blk} : errV B 0 true = if blkOk B = true then 0 else 1 := by
  unfold errV
  split <;> simp
theorem ex_ok {B : Blk} (h : blkOk B = true) {a b : Int} (ha : B.l1 ≤ a ∧ a ≤ B.l2) (hb : B.c1 ≤ b ∧ b ≤ B.c2) : blkOk (exB B a b) = true := by
  simp only [blkOk, headOk, spanB, inB, Bool.and_eq_true, decide_eq_true_eq] at h ⊢
  obtain ⟨⟨⟨⟨h1, h2⟩, h3⟩, h4⟩, h5⟩ := h
  exact ⟨⟨⟨⟨h1, by simp only [exB]; omega⟩, by simp only [exB]; omega⟩, h4⟩, h5⟩
theorem ex_cnt {B : Blk} (h : blkOk B = true) {a b : Int} (ha : B.l1 ≤ a ∧ a ≤ B.l2) (hb : B.c1 ≤ b ∧ b ≤ B.c2) : cntV (exB B a b) = (if okP B.mark B.rs (a, b) = true then 1 else 0, 0) := by
  unfold cntV
  rw [err_blk, if_pos (ex_ok h ha hb), if_pos rfl, ex_pairs]
  split <;> simp
theorem cnt_ok {B : Blk} (h : blkOk B = true) : cntV B = (((pairsV B).length : Int), 0) := by
  unfold cntV
  rw [err_blk, if_pos h, if_pos rfl]
theorem cnt_err {B : Blk} (h : blkOk B = false) : cntV B = (0, 1) := by
  unfold cntV
  rw [err_blk, h, if_neg Bool.false_ne_true, if_neg (by decide)]
theorem tell_ok {B : Blk} (h : blkOk B = true) {is : Bool} : tellE B 0 is = if is = true then (if (pairsV B).length = 0 then 10 else 0) else 2 := by
  unfold tellE errV
  rw [if_pos h]
  cases is <;> simp
theorem tell_err {B : Blk} (h : blkOk B = false) {o : Int} {is : Bool} : tellE B o is = 1 := by
  unfold tellE errV
  rw [h]
  simp

/-! ### Ends -/
theorem foldl_endF {l : List Int} : ∀ {s : Int × Int}, (l.foldl endF s).1 ≤ s.1 ∧ s.2 ≤ (l.foldl endF s).2 ∧ ∀ x ∈ l, (l.foldl endF s).1 ≤ x ∧ x ≤ (l.foldl endF s).2 := by
  induction l with
  | nil => intro s; exact ⟨Int.le_refl _, Int.le_refl _, fun x h => by cases h⟩
  | cons y r ih =>
    intro s
    obtain ⟨h1, h2, h3⟩ := ih (s := endF s y)
    have e1 : (endF s y).1 = min s.1 y := rfl
    have e2 : (endF s y).2 = max s.2 y := rfl
    rw [e1] at h1
    rw [e2] at h2
    rw [List.foldl_cons]
    refine ⟨by omega, by omega, fun x hx => ?_⟩
    rcases List.mem_cons.1 hx with rfl | hx
    · omega
    · exact h3 x hx
theorem ends_in {l : List Int} {x : Int} (h : x ∈ l) : (endsV l).1 ≤ x ∧ x ≤ (endsV l).2 := (foldl_endF (l := l)).2.2 x h
theorem foldl_endF_mem {l : List Int} : ∀ {s : Int × Int}, ((l.foldl endF s).1 = s.1 ∨ (l.foldl endF s).1 ∈ l) ∧ ((l.foldl endF s).2 = s.2 ∨ (l.foldl endF s).2 ∈ l) := by
  induction l with
  | nil => intro s; exact ⟨.inl rfl, .inl rfl⟩
  | cons y r ih =>
    intro s
    obtain ⟨h1, h2⟩ := ih (s := endF s y)
    rw [List.foldl_cons]
    have e1 : (endF s y).1 = min s.1 y := rfl
    have e2 : (endF s y).2 = max s.2 y := rfl
    constructor
    · rcases h1 with h | h
      · rw [h, e1]
        rcases Int.le_total s.1 y with h' | h'
        · left; omega
        · right; rw [show min s.1 y = y by omega]; exact List.mem_cons_self
      · exact .inr (List.mem_cons_of_mem _ h)
    · rcases h2 with h | h
      · rw [h, e2]
        rcases Int.le_total s.2 y with h' | h'
        · right; rw [show max s.2 y = y by omega]; exact List.mem_cons_self
        · left; omega
      · exact .inr (List.mem_cons_of_mem _ h)
/-- The ends of numbers, none of which is great, are two of them. -/
theorem ends_mem {l : List Int} (h0 : 0 < l.length) (hb : ∀ x ∈ l, -1000000000 ≤ x ∧ x ≤ 1000000000) : (endsV l).1 ∈ l ∧ (endsV l).2 ∈ l := by
  obtain ⟨x, hx⟩ := List.exists_mem_of_length_pos h0
  have h1 := ends_in hx
  have hx' := hb x hx
  obtain ⟨h2, h3⟩ := foldl_endF_mem (l := l) (s := (1099511627776, -1099511627776))
  have e : endsV l = l.foldl endF (1099511627776, -1099511627776) := rfl
  rw [← e] at h2 h3
  exact ⟨h2.resolve_left (by simp only; omega), h3.resolve_left (by simp only; omega)⟩
theorem ends_of_mem {l m : List Int} (h : ∀ x, x ∈ l ↔ x ∈ m) : endsV l = endsV m := by
  have key : ∀ {l m : List Int} {s : Int × Int}, (∀ x ∈ l, x ∈ m) → (m.foldl endF s).1 ≤ (l.foldl endF s).1 ∧ (l.foldl endF s).2 ≤ (m.foldl endF s).2 := by
    intro l m s hs
    obtain ⟨h1, h2, h3⟩ := foldl_endF (l := m) (s := s)
    obtain ⟨h4, h5⟩ := foldl_endF_mem (l := l) (s := s)
    constructor
    · rcases h4 with h | h
      · rw [h]; exact h1
      · exact (h3 _ (hs _ h)).1
    · rcases h5 with h | h
      · rw [h]; exact h2
      · exact (h3 _ (hs _ h)).2
  have k1 := key (s := (1099511627776, -1099511627776)) fun x hx => (h x).1 hx
  have k2 := key (s := (1099511627776, -1099511627776)) fun x hx => (h x).2 hx
  unfold endsV
  exact Prod.ext (by omega) (by omega)
theorem grow_zero (mk a : Int) : growV mk a 0 = 0 := by simp [growV]
theorem show_zero (mk : Int) (p : Pr) : showV mk p 0 = p.1 := by simp [showV, grow_zero]

/-- The ends of numbers that lie within the start. -/
theorem ends_from {l : List Int} {s : Int × Int} (h0 : 0 < l.length) (hb : ∀ x ∈ l, s.2 ≤ x ∧ x ≤ s.1) : (l.foldl endF s).1 ∈ l ∧ (l.foldl endF s).2 ∈ l := by
  obtain ⟨x, hx⟩ := List.exists_mem_of_length_pos h0
  obtain ⟨_, _, h1⟩ := foldl_endF (l := l) (s := s)
  have h1 := h1 x hx
  have hx' := hb x hx
  obtain ⟨h2, h3⟩ := foldl_endF_mem (l := l) (s := s)
  constructor
  · rcases h2 with h | h
    · rw [h] at h1 ⊢
      rw [show s.1 = x by omega]; exact hx
    · exact h
  · rcases h3 with h | h
    · rw [h] at h1 ⊢
      rw [show s.2 = x by omega]; exact hx
    · exact h
theorem ends_uniq {l : List Int} {s : Int × Int} {a b : Int} (hb : ∀ x ∈ l, s.2 ≤ x ∧ x ≤ s.1) (ha : a ∈ l) (hb' : b ∈ l) (h : ∀ x ∈ l, a ≤ x ∧ x ≤ b) : l.foldl endF s = (a, b) := by
  obtain ⟨h1, h2⟩ := ends_from (l := l) (s := s) (List.length_pos_of_mem ha) hb
  obtain ⟨_, _, h3⟩ := foldl_endF (l := l) (s := s)
  have k1 := h3 a ha
  have k2 := h3 b hb'
  have k3 := h _ h1
  have k4 := h _ h2
  exact Prod.ext (by show _ = a; omega) (by show _ = b; omega)

/-! ### What a block can show at a warmth -/
/-- The least and the greatest that pairs show at a warmth. -/
def oneV (mk : Int) (pv : List Pr) (t : Int) : Int × Int := endsV (pv.map fun p => showV mk p t)
theorem flat_two {f g : Pr → Int} {pv : List Pr} {x : Int} : x ∈ pv.flatMap (fun p => [f p, g p]) ↔ (∃ p ∈ pv, x = f p) ∨ ∃ p ∈ pv, x = g p := by
  rw [List.mem_flatMap]
  constructor
  · rintro ⟨p, hp, hx⟩
    simp only [List.mem_cons, List.not_mem_nil, or_false] at hx
    rcases hx with hx | hx
    · exact .inl ⟨p, hp, hx⟩
    · exact .inr ⟨p, hp, hx⟩
  · rintro (⟨p, hp, hx⟩ | ⟨p, hp, hx⟩)
    · exact ⟨p, hp, by rw [hx]; exact List.mem_cons_self⟩
    · exact ⟨p, hp, by rw [hx]; exact List.mem_cons_of_mem _ List.mem_cons_self⟩
section
variable {B : Blk} (hok : blkOk B = true) (h0 : ¬ (pairsV B).length = 0)
include hok
theorem pairs_show {p : Pr} (hp : p ∈ pairsV B) {t : Int} (ht : -100 ≤ t ∧ t ≤ 100) : -1000000 ≤ showV B.mark p t ∧ showV B.mark p t ≤ 1000000 := by
  obtain ⟨hmk, _⟩ := blk_b hok
  exact show_b (by omega) (pair_b hok hp) ht
include h0
theorem one_mem {t : Int} (ht : -100 ≤ t ∧ t ≤ 100) : (∃ p ∈ pairsV B, showV B.mark p t = (oneV B.mark (pairsV B) t).1) ∧ (∃ p ∈ pairsV B, showV B.mark p t = (oneV B.mark (pairsV B) t).2) ∧ ∀ p ∈ pairsV B, (oneV B.mark (pairsV B) t).1 ≤ showV B.mark p t ∧ showV B.mark p t ≤ (oneV B.mark (pairsV B) t).2 := by
  have hl : 0 < ((pairsV B).map fun p => showV B.mark p t).length := by rw [List.length_map]; omega
  have hb : ∀ x ∈ (pairsV B).map fun p => showV B.mark p t, -1000000000 ≤ x ∧ x ≤ 1000000000 := by
    intro x hx
    obtain ⟨p, hp, rfl⟩ := List.mem_map.1 hx
    have := pairs_show hok hp ht
    omega
  obtain ⟨h1, h2⟩ := ends_mem hl hb
  obtain ⟨p, hp, e1⟩ := List.mem_map.1 h1
  obtain ⟨q, hq, e2⟩ := List.mem_map.1 h2
  exact ⟨⟨p, hp, e1⟩, ⟨q, hq, e2⟩, fun p hp => ends_in (List.mem_map.2 ⟨p, hp, rfl⟩)⟩
theorem one_b {t : Int} (ht : -100 ≤ t ∧ t ≤ 100) : -1000000 ≤ (oneV B.mark (pairsV B) t).1 ∧ (oneV B.mark (pairsV B) t).1 ≤ (oneV B.mark (pairsV B) t).2 ∧ (oneV B.mark (pairsV B) t).2 ≤ 1000000 := by
  obtain ⟨⟨p, hp, e1⟩, ⟨q, hq, e2⟩, h3⟩ := one_mem hok h0 ht
  have k1 := pairs_show hok hp ht
  have k2 := pairs_show hok hq ht
  have k3 := h3 p hp
  omega
theorem one_mono {s t : Int} (hs : -100 ≤ s) (ht : t ≤ 100) (h : s ≤ t) : (oneV B.mark (pairsV B) s).1 ≤ (oneV B.mark (pairsV B) t).1 ∧ (oneV B.mark (pairsV B) s).2 ≤ (oneV B.mark (pairsV B) t).2 := by
  obtain ⟨hmk, _⟩ := blk_b hok
  obtain ⟨_, ⟨q, hq, e2⟩, h3⟩ := one_mem hok h0 (t := s) ⟨hs, by omega⟩
  obtain ⟨⟨p, hp, e1⟩, _, h4⟩ := one_mem hok h0 (t := t) ⟨by omega, ht⟩
  have k1 := show_mono (mk := B.mark) (p := p) (by omega) (pair_b hok hp).2.2.1 h
  have k2 := show_mono (mk := B.mark) (p := q) (by omega) (pair_b hok hq).2.2.1 h
  have k3 := h3 p hp
  have k4 := h4 q hq
  omega
theorem hull_show {lo hi : Int} (hs : -100 ≤ lo) (ht : hi ≤ 100) (h : lo ≤ hi) : hullV B (showL B.mark lo hi) = ((oneV B.mark (pairsV B) lo).1, (oneV B.mark (pairsV B) hi).2) := by
  obtain ⟨hmk, _⟩ := blk_b hok
  obtain ⟨⟨p, hp, e1⟩, _, h3⟩ := one_mem hok h0 (t := lo) ⟨hs, by omega⟩
  obtain ⟨_, ⟨q, hq, e2⟩, h4⟩ := one_mem hok h0 (t := hi) ⟨by omega, ht⟩
  unfold hullV endsV
  refine ends_uniq (fun x hx => ?_) (flat_two.2 (.inl ⟨p, hp, e1.symm⟩)) (flat_two.2 (.inr ⟨q, hq, e2.symm⟩)) (fun x hx => ?_)
  · rcases flat_two.1 hx with ⟨r, hr, rfl⟩ | ⟨r, hr, rfl⟩
    · have := pairs_show hok hr (t := lo) ⟨hs, by omega⟩
      simp only; omega
    · have := pairs_show hok hr (t := hi) ⟨by omega, ht⟩
      simp only; omega
  · have km : ∀ r ∈ pairsV B, showV B.mark r lo ≤ showV B.mark r hi := fun r hr => show_mono (by omega) (pair_b hok hr).2.2.1 h
    rcases flat_two.1 hx with ⟨r, hr, rfl⟩ | ⟨r, hr, rfl⟩
    · have := h3 r hr; have := h4 r hr; have := km r hr; omega
    · have := h3 r hr; have := h4 r hr; have := km r hr; omega
theorem own_show {t : Int} (ht : -100 ≤ t ∧ t ≤ 100) {s : Int × Int} (hs : s.2 ≤ -1000000 ∧ 1000000 ≤ s.1) : ((pairsV B).map fun p => showV B.mark p t).foldl endF s = oneV B.mark (pairsV B) t := by
  obtain ⟨⟨p, hp, e1⟩, ⟨q, hq, e2⟩, h3⟩ := one_mem hok h0 ht
  rw [ends_uniq (a := (oneV B.mark (pairsV B) t).1) (b := (oneV B.mark (pairsV B) t).2) (fun x hx => ?_) (List.mem_map.2 ⟨p, hp, e1⟩) (List.mem_map.2 ⟨q, hq, e2⟩) (fun x hx => ?_)]
  · obtain ⟨r, hr, rfl⟩ := List.mem_map.1 hx
    have := pairs_show hok hr ht
    omega
  · obtain ⟨r, hr, rfl⟩ := List.mem_map.1 hx
    exact h3 r hr
end
theorem hullE_tell {B : Blk} (h : blkOk B = true) {is : Bool} (L : Pr → List Int) : hullE B is L = if is = true then (if (pairsV B).length = 0 then ((0, 0), 10) else (hullV B L, 0)) else ((0, 0), 2) := by
  unfold hullE
  rw [tell_ok h]
  cases is
  · rfl
  · by_cases h0 : (pairsV B).length = 0
    · simp [h0]
    · simp [h0]
theorem fine_blk {B : Blk} (h : fineB B = true) : blkOk B = true := by
  unfold fineB at h
  rw [Bool.and_eq_true] at h
  exact h.2
theorem b35 : Body P 35 := body_of Try.func35 (c := code Try.f35) rfl (by decide)
theorem lC_push {A A' : List Int} {x : Int} (h : A' = A ++ [x]) {j : Nat} (hj : j < A.length + 1) {R : List SV} (hR : j - A.length = 0 → R = [.si .i64 x]) : lC A' j = if j < A.length then lC A j else R := by
  rw [h, lC_snoc _ _ _ hj]
  split
  · rfl
  · rw [hR (by omega), show j - A.length = 0 by omega]
    rfl
theorem show_tight {mk : Int} {p : Pr} {t : Int} (h0 : 0 ≤ mk ∧ mk ≤ 100) (h1 : -1000 ≤ p.1 ∧ p.1 ≤ 1000 ∧ 0 ≤ p.2 ∧ p.2 ≤ 20) (ht : -100 ≤ t ∧ t ≤ 100) : -21000 ≤ showV mk p t ∧ showV mk p t ≤ 21000 := by
  have hma : 0 ≤ mk * p.2 ∧ mk * p.2 ≤ 2000 := by
    constructor
    · exact Int.mul_nonneg h0.1 h1.2.2.1
    · have k1 : mk * p.2 ≤ 100 * p.2 := Int.mul_le_mul_of_nonneg_right h0.2 h1.2.2.1
      omega
  have k1 : mk * p.2 * t ≤ mk * p.2 * 100 := Int.mul_le_mul_of_nonneg_left ht.2 hma.1
  have k2 : mk * p.2 * (-100) ≤ mk * p.2 * t := Int.mul_le_mul_of_nonneg_left ht.1 hma.1
  unfold showV growV
  omega
end Go.X.W
end

section
set_option linter.unusedVariables false
set_option linter.unusedSimpArgs false
set_option linter.unusedSectionVars false
/- Warm: exact, and the ends of a list as WarmPairs finds them. -/
set_option linter.unusedVariables false
set_option linter.unusedSimpArgs false
set_option maxRecDepth 10000
set_option maxHeartbeats 1000000
namespace Go.X.W
open Go Go.Proofs Go.X

def c44 : Ct := fun fr args H =>
  match args with
  | [.agg [.si .i64 mk, .si .i64 l1, .si .i64 l2, .si .i64 c1, .si .i64 c2, .sl id], .si .i64 a, .si .i64 b] => (match sliceOf 4 H id with
    | some (n, get) => some ⟨some (Rds n get), none, wA mk a a b b id, []⟩
    | none => none)
  | _ => none
theorem c44_mono : CtMono c44 := by
  intro fr args H H' out hH h
  unfold c44 at h ⊢
  split at h
  · split at h
    · rename_i e
      simp only [sliceOf_mono hH e]
      exact h
    · cases h
  · cases h
theorem k44 {l : List (Nat × Ct)} (g0 : Good P T l) : COk P 44 c44 := by
  have g := g42 g0
  refine cok (C := tabC _) g.ok Try.func44 (c := code Try.f44) rfl fun fr args H out h hp => ?_
  unfold c44 at h
  split at h
  · rename_i mk l1 l2 c1 c2 id a b
    split at h
    · rename_i n get e
      cases h
      have hs : Rds n get := hp
      have hh : Hand H [(id, .ro 4 n fun i => rdC (rdAt get i))] := hand_one e (fun i => rfl) (fun i h => (hs i h).symm)
      refine ⟨[(id, .ro 4 n fun i => rdC (rdAt get i))], [wA mk l1 l2 c1 c2 0, .si .i64 a, .si .i64 b], [(0, .ro 4 n fun i => rdC (rdAt get i))], 1, [], rfl, rfl, Nat.le_of_ble_eq_true rfl, hh, rfl, rfl, fun G hG => ?_⟩
      generalize rdAt get = rd
      refine ⟨.inl rfl, ⟨?_, rfl, ?_, ?_, rfl, rfl⟩⟩
      · repeat' (first | exact trivial | exact rfl | refine And.intro ?_ ?_)
      · repeat' (first | exact trivial | exact rfl | refine And.intro ?_ ?_)
      · repeat' (first | exact trivial | exact rfl | refine And.intro ?_ ?_)
    · cases h
  · cases h
theorem g44 {l : List (Nat × Ct)} (g : Good P T l) : Good P T ((44, c44) :: l) := g.add (k44 g) c44_mono (body_of Try.func44 (c := code Try.f44) rfl (by decide))

/-- The ends of a list; none of an empty one. -/
def hulV (l : List Int) : Int × Int := if l.length = 0 then (0, 0) else endsV l
def c45 : Ct := fun fr args H =>
  match args with
  | [.sl id] => (match sliceOf 1 H id with
    | some (n, get) => some ⟨some (Ints n get ∧ n ≤ 1000000 ∧ ∀ i, i < n → -1000000000 ≤ intAt get i ∧ intAt get i ≤ 1000000000), none, .agg [.si .i64 (hulV (intL n get)).1, .si .i64 (hulV (intL n get)).2], []⟩
    | none => none)
  | _ => none
theorem c45_mono : CtMono c45 := by
  intro fr args H H' out hH h
  unfold c45 at h ⊢
  split at h
  · split at h
    · rename_i e
      simp only [sliceOf_mono hH e]
      exact h
    · cases h
  · cases h
def hulI (v : Nat → Int) (i : Nat) : Int × Int := if i = 0 then (0, 0) else endI v i
theorem hulI_all {v : Nat → Int} {n : Nat} (h0 : ∀ i, i < n → -1000000000 ≤ v i ∧ v i ≤ 1000000000) : hulI v n = hulV ((List.range n).map v) := by
  unfold hulI hulV
  simp only [List.length_map, List.length_range]
  split
  · rfl
  · exact endI_all (by omega) (h0 0 (by omega))
theorem k45 {l : List (Nat × Ct)} (g0 : Good P T l) : COk P 45 c45 := by
  have g := g42 g0
  refine cok (C := tabC _) g.ok Try.func45 (c := code Try.f45) rfl fun fr args H out h hp => ?_
  unfold c45 at h
  split at h
  · rename_i id
    split at h
    · rename_i n get e
      cases h
      obtain ⟨hi, hn1, hb⟩ : Ints n get ∧ n ≤ 1000000 ∧ ∀ i, i < n → -1000000000 ≤ intAt get i ∧ intAt get i ≤ 1000000000 := hp
      have hh : Hand H [(id, .ro 1 n fun i => [.si .i64 (intAt get i)])] := hand_one e (fun i => rfl) (fun i h => (hi i h).symm)
      refine ⟨[(id, .ro 1 n fun i => [.si .i64 (intAt get i)])], [.sl 0], [(0, .ro 1 n fun i => [.si .i64 (intAt get i)])], 1, [], rfl, rfl, Nat.le_of_ble_eq_true rfl, hh, rfl, rfl, fun G hG => ?_⟩
      unfold intL
      generalize intAt get = v at hb ⊢
      rw [← hulI_all hb]
      refine loop_ok (g.ok _ _ _) (fun x : {i : Nat // i ≤ n} => ⟨[(2, ⟨[], .sp 1 0⟩), (5, ⟨[], .sl 0⟩), (6, ⟨[], .si .i64 n⟩), (7, ⟨[], .si .i64 x.1⟩)], [],
        [(1, .cells 24 [.si .i64 (hulI v x.1).1, .si .i64 (hulI v x.1).2]), (0, .ro 1 n fun i => [.si .i64 (v i)])], 2, []⟩) (fun x => n - x.1) (fun _ j hj => hG j (by have : 2 ≤ j := hj; omega)) ⟨0, Nat.zero_le _⟩ ?_ ?_
      · refine ⟨?_, ?_, rfl, rfl, rfl⟩ <;> repeat' (first | exact trivial | exact rfl | (intro i hi; exact rfl) | refine And.intro ?_ ?_)
      · rintro ⟨i, hle⟩
        refine Br.mk (fun h => ?_) (fun h => ?_)
        · have h : (i : Int) < (n : Int) := of_decide_eq_true h
          refine Chk.mk (show (0 : Int) ≤ (i : Int) ∧ (i : Int) < (n : Int) from ⟨by omega, h⟩) ?_
          refine Br.mk (fun h2 => ?_) (fun h2 => ?_)
          · have h2 : (i : Int) = 0 := of_decide_eq_true h2
            obtain rfl : i = 0 := by omega
            refine Chk.mk (show InK .i64 (((0 : Nat) : Int) + 1) from ⟨by omega, by omega⟩) ⟨⟨1, by omega⟩, ?_, by show n - 1 < n - 0; omega⟩
            refine ⟨?_, ?_, rfl, rfl, rfl⟩ <;> repeat' (first | exact trivial | exact rfl | (intro i hi; exact rfl) | refine And.intro ?_ ?_)
          · have h2 : ¬ (i : Int) = 0 := of_decide_eq_false h2
            refine Chk.mk (show InK .i64 ((i : Int) + 1) from ⟨by omega, by omega⟩) ⟨⟨i + 1, by omega⟩, ?_, by show n - (i + 1) < n - i; omega⟩
            have e1 : hulI v i = endI v i := by unfold hulI; rw [if_neg (by omega)]
            have e2 : hulI v (i + 1) = (min (endI v i).1 (v i), max (endI v i).2 (v i)) := by unfold hulI; rw [if_neg (by omega), endI_succ]
            rw [e1]
            have e3 : min (endI v i).1 (v i) = (hulI v (i + 1)).1 := by rw [e2]
            have e4 : max (endI v i).2 (v i) = (hulI v (i + 1)).2 := by rw [e2]
            refine ⟨?_, ?_, rfl, rfl, rfl⟩ <;> repeat' (first | exact trivial | exact e3 | exact e4 | exact rfl | (intro i hi; exact rfl) | refine And.intro ?_ ?_)
        · have h : ¬ (i : Int) < (n : Int) := of_decide_eq_false h
          obtain rfl : i = n := by omega
          refine ⟨.inl rfl, end_noid ?_ rfl rfl ?_⟩
          · repeat' (first | exact trivial | exact rfl | refine And.intro ?_ ?_)
          · repeat' (first | exact trivial | exact rfl | refine And.intro ?_ ?_)
    · cases h
  · cases h
theorem g45 {l : List (Nat × Ct)} (g : Good P T l) : Good P T ((45, c45) :: l) := g.add (k45 g) c45_mono (body_of Try.func45 (c := code Try.f45) rfl (by decide))
end Go.X.W
end

section
set_option linter.unusedVariables false
set_option linter.unusedSimpArgs false
set_option linter.unusedSectionVars false
/- Warm: the room, plainly. -/
set_option linter.unusedVariables false
set_option linter.unusedSimpArgs false
set_option linter.unusedSectionVars false
set_option maxRecDepth 10000
set_option maxHeartbeats 1000000
namespace Go.X.W
open Go Go.Proofs Go.X

theorem downTo_spec (q : Nat → Bool) : ∀ n : Nat, downTo q n ≤ n ∧ (downTo q n = 0 ∨ q (downTo q n) = true) ∧ ∀ k, downTo q n < k → k ≤ n → q k = false
  | 0 => ⟨Nat.le_refl _, .inl rfl, fun k h1 h2 => by simp only [downTo] at h1; omega⟩
  | n + 1 => by
    obtain ⟨h1, h2, h3⟩ := downTo_spec q n
    simp only [downTo]
    by_cases hq : q (n + 1) = true
    · rw [if_pos hq]
      exact ⟨Nat.le_refl _, .inr hq, fun k h1 h2 => by omega⟩
    · rw [if_neg hq]
      refine ⟨by omega, h2, fun k h4 h5 => ?_⟩
      by_cases e : k = n + 1
      · rw [e]; simpa using hq
      · exact h3 k h4 (by omega)
theorem downTo_mono {q q' : Nat → Bool} (h : ∀ k, q k = true → q' k = true) (n : Nat) : downTo q n ≤ downTo q' n := by
  obtain ⟨h1, h2, h3⟩ := downTo_spec q n
  obtain ⟨k1, k2, k3⟩ := downTo_spec q' n
  rcases Nat.lt_or_ge (downTo q' n) (downTo q n) with hlt | hge
  · have h4 := k3 _ hlt h1
    rcases h2 with h2 | h2
    · omega
    · rw [h _ h2] at h4; cases h4
  · exact hge
theorem coldB_iff {mk off : Int} {l : List Pr} {m : Nat} : coldB mk off l m = true ↔ ∀ p ∈ l, -off ≤ growV mk p.2 (-(m : Int)) := by
  unfold coldB
  rw [List.all_eq_true]
  exact forall_congr' fun p => imp_congr_right fun _ => decide_eq_true_iff
theorem show_sub (mk : Int) (p : Pr) (t : Int) : showV mk p t - p.1 = growV mk p.2 t := by unfold showV; omega
theorem grow_neg (mk a t : Int) : growV mk a t ≤ -growV mk a (-t) := by
  unfold growV
  have e : mk * a * -t = -(mk * a * t) := by rw [Int.mul_neg]
  rw [e]
  omega
section
variable {B : Blk} (hok : blkOk B = true) {off : Int} (h0 : 0 ≤ off)
include hok h0
theorem room_in {p : Pr} (hp : p ∈ pairsV B) {t : Int} (ht : -roomV B off ≤ t ∧ t ≤ roomV B off) : -off ≤ showV B.mark p t - p.1 ∧ showV B.mark p t - p.1 ≤ off := by
  obtain ⟨hmk, _⟩ := blk_b hok
  have ha := (pair_b hok hp).2.2.1
  obtain ⟨h1, h2, h3⟩ := downTo_spec (coldB B.mark off (pairsV B)) 100
  have hr : roomV B off = ((downTo (coldB B.mark off (pairsV B)) 100 : Nat) : Int) := rfl
  rw [hr] at ht
  generalize downTo (coldB B.mark off (pairsV B)) 100 = m at h1 h2 h3 ht
  have hm : -off ≤ growV B.mark p.2 (-(m : Int)) := by
    rcases h2 with h2 | h2
    · subst h2
      have := grow_zero B.mark p.2
      have e : (-((0 : Nat) : Int)) = 0 := rfl
      rw [e]; omega
    · exact coldB_iff.1 h2 p hp
  rw [show_sub]
  have g1 := growV_anti (mk := B.mark) (a := p.2) (by omega) ha ht.1
  have g2 := growV_anti (mk := B.mark) (a := p.2) (by omega) ha ht.2
  have g3 := grow_neg B.mark p.2 (m : Int)
  omega
theorem room_out (hm : roomV B off < 100) : ∃ p ∈ pairsV B, showV B.mark p (-roomV B off - 1) - p.1 < -off := by
  obtain ⟨h1, h2, h3⟩ := downTo_spec (coldB B.mark off (pairsV B)) 100
  have hr : roomV B off = ((downTo (coldB B.mark off (pairsV B)) 100 : Nat) : Int) := rfl
  rw [hr] at hm ⊢
  generalize downTo (coldB B.mark off (pairsV B)) 100 = m at h1 h2 h3 hm
  have h4 := h3 (m + 1) (by omega) (by omega)
  have h5 : ¬ coldB B.mark off (pairsV B) (m + 1) = true := by rw [h4]; exact Bool.false_ne_true
  rw [coldB_iff] at h5
  simp only [Classical.not_forall] at h5
  obtain ⟨p, hp, h6⟩ := h5
  refine ⟨p, hp, ?_⟩
  rw [show_sub]
  have e : (-(m : Int) - 1) = -((m + 1 : Nat) : Int) := by push_cast; omega
  rw [e]
  omega
end
theorem room_b (B : Blk) (off : Int) : 0 ≤ roomV B off ∧ roomV B off ≤ 100 := by
  have h1 := (downTo_spec (coldB B.mark off (pairsV B)) 100).1
  have hr : roomV B off = ((downTo (coldB B.mark off (pairsV B)) 100 : Nat) : Int) := rfl
  omega
theorem room_mono {B B' : Blk} {off off' : Int} (hmk : B.mark = B'.mark) (hs : ∀ p ∈ pairsV B', p ∈ pairsV B) (h : off ≤ off') : roomV B off ≤ roomV B' off' := by
  have h1 := downTo_mono (q := coldB B.mark off (pairsV B)) (q' := coldB B'.mark off' (pairsV B')) (fun k hk => coldB_iff.2 fun p hp => by
    have := coldB_iff.1 hk p (hs p hp)
    rw [← hmk]; omega) 100
  have hr : roomV B off = ((downTo (coldB B.mark off (pairsV B)) 100 : Nat) : Int) := rfl
  have hr' : roomV B' off' = ((downTo (coldB B'.mark off' (pairsV B')) 100 : Nat) : Int) := rfl
  omega
theorem roomE_tell {B : Blk} (h : blkOk B = true) (off : Int) : roomE B off = if inB off 0 30000 = true then (if (pairsV B).length = 0 then (0, 10) else (roomV B off, 0)) else (0, 2) := by
  unfold roomE
  rw [tell_ok h]
  cases inB off 0 30000
  · rfl
  · by_cases h0 : (pairsV B).length = 0
    · simp [h0]
    · simp [h0]
end Go.X.W
end
