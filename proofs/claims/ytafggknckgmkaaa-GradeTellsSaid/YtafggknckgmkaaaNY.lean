/- Contracts of functions of the document: sets of grades, VariesOf, OffOf, Grades, Sure, PointOf. -/
import Derived.Test.YtafggknckgmkaaaNX
import Derived.Test.YtafggknckgmkaaaNB
import Derived.Test.YtafggknckgmkaaaNH

section
set_option linter.unusedVariables false
set_option linter.unusedSimpArgs false
set_option linter.unusedSectionVars false
/- Grade: the set of the grades of some truths. -/
set_option linter.unusedVariables false
set_option linter.unusedSimpArgs false
set_option maxRecDepth 10000
set_option maxHeartbeats 4000000
namespace Go.X.Gr
open Go Go.Proofs Go.X

/-- The face of a block, as the document finds it. -/
def fcD (b : B5) : Fc := (offD (b5N b) 5, vrD (b5N b) 5 5)
def setF (Ls : List (Int × Int)) (bs : List B5) : Nat := bs.foldl (fun s b => s ||| 2 ^ ofL Ls (fcD b)) 0
theorem or_pow : ∀ s : _root_.Fin 32, ∀ n : _root_.Fin 5, (if hasV s.1 n.1 = true then s.1 else s.1 + 2 ^ n.1) = s.1 ||| 2 ^ n.1 ∧ s.1 ||| 2 ^ n.1 < 32 := by decide
theorem or_pow' {s n : Nat} (hs : s < 32) (hn : n < 5) : (if hasV s n = true then s else s + 2 ^ n) = s ||| 2 ^ n ∧ s ||| 2 ^ n < 32 := or_pow ⟨s, hs⟩ ⟨n, hn⟩
theorem setF_snoc {Ls : List (Int × Int)} {bs : List B5} {b : B5} : setF Ls (bs ++ [b]) = setF Ls bs ||| 2 ^ ofL Ls (fcD b) := by unfold setF; rw [List.foldl_append]; rfl
theorem b63 : Body P 63 := body_of Try.func63 (c := code Try.f63) rfl (by decide)
def enOk (L : List En) : Prop := ∀ e ∈ L, okI e.2.2.1 ∧ okI e.2.2.2.1 ∧ okI e.2.2.2.2.1 ∧ okI e.2.2.2.2.2.1 ∧ okI e.2.2.2.2.2.2
theorem en_get {L : List En} {i : Nat} (hi : i < L.length) : L.getD i eD ∈ L := by
  simp [List.getD, hi]
theorem take_getD {L : List En} {i : Nat} (hi : i < L.length) : (L.take (i + 1)).map (·.2.2) = (L.take i).map (·.2.2) ++ [(L.getD i eD).2.2] := by
  rw [List.take_add_one, List.map_append]
  simp [List.getD, hi]
theorem s63 {p : Pts} {n : Nat} {l : Nat → Int × Int} (hn : n ≤ 4) {L : List En} (hL : L.length ≤ 900000) (hok : enOk L) {Rv : SV → List (Nat × HB) → Nat → Prop} {Rp : List PanicEntry → List (Nat × HB) → Nat → Prop}
    (hRv : Rv (.si .i64 (setF ((List.range n).map l) (L.map (·.2.2)) : Nat)) (tH L n l) 3) : CallS P 63 [.agg (grA 0 p), .sl 1] (tH L n l) 3 Rv Rp := by
  have g := g67 (g96 (g97 good0))
  refine callS_to g.ok Try.func63 (c := code Try.f63) rfl (Nat.le_of_ble_eq_true rfl) _ _ _ (fun G hG => ?_) hRv
  have hofl : ∀ f, ofL ((List.range n).map l) f < 5 := fun f => by
    have := List.findIdx_le_length (p := fun l => keepsP f l) (xs := (List.range n).map l)
    rw [List.length_map, List.length_range] at this
    unfold ofL
    omega
  have hE : limsL n (fun i => liC (l i)) = (List.range n).map l := rfl
  generalize hLs : (List.range n).map l = Ls at hofl hE ⊢
  refine loop_okR (g.ok _ _ _) 3 (fun x : {x : Nat × Nat // x.1 ≤ L.length ∧ x.2 = setF Ls ((L.take x.1).map (·.2.2)) ∧ x.2 < 32} => ⟨[(1, ⟨[], .sl 1⟩), (2, ⟨[], .sp 3 0⟩), (5, ⟨[], .si .i64 (x.1.2 : Nat)⟩), (6, ⟨[], .si .i64 (x.1.1 : Nat)⟩)], [], (3, .cells 27 (grA 0 p)) :: tH L n l, 4, []⟩) (fun x => L.length - x.1.1) hG
    ⟨(0, 0), Nat.zero_le _, rfl, by decide⟩ (fun j => j) ?_ ?_
  · refine ⟨?_, ?_, rfl, rfl, rfl, rfl, trivial⟩ <;> repeat' (first | exact trivial | exact rfl | (intro i hi; exact ⟨rfl, rfl⟩) | (intro v m g h; exact h) | refine And.intro ?_ ?_)
  rintro ⟨⟨i, s⟩, hi, hs, hs32⟩
  refine Br.mk (fun h => ?_) (fun h => ?_)
  · have h : (i : Int) < (L.length : Int) := of_decide_eq_true h
    have hil : i < L.length := by omega
    have hmem := en_get hil
    refine drawn_ok (g.ok _ _ _) fol [0,0,0,6,14,31,63] [] 5 (by kernel_rfl) ?_
    refine Chk.mk (show (0 : Int) ≤ (i : Int) ∧ (i : Int) < (L.length : Int) from ⟨by omega, by omega⟩) ?_
    refine fb_focus 2 18 5 (L.getD i eD).2.1 (L.getD i eD).1 (b5G (L.getD i eD).2.2) (.sl 24) (g.ok _ _ _) cont_std rfl ⟨⟨_, hmem, rfl, rfl, rfl⟩, rfl, ?_⟩
    refine Chk.mk (show (Lims n (fun i => liC (l i)) ∧ n ≤ 1000000) ∧ Ints 5 (b5G (L.getD i eD).2.2) ∧ 5 ≤ 1000 from ⟨⟨fun i hi => rfl, by omega⟩, ints_b5 (hok _ hmem), by decide⟩) ?_
    have hx := hofl (fcD (L.getD i eD).2.2)
    obtain ⟨x, hxe⟩ : ∃ x, ofL Ls (fcD (L.getD i eD).2.2) = x := ⟨_, rfl⟩
    have hxe' : ofL (limsL n (fun i => liC (l i))) (offD (iAt (b5G (L.getD i eD).2.2)) 5, vrD (iAt (b5G (L.getD i eD).2.2)) 5 5) = x := by rw [← hxe, hE]; rfl
    have hnext : s ||| 2 ^ x = setF Ls ((L.take (i + 1)).map (·.2.2)) := by rw [take_getD hil, setF_snoc, hxe, ← hs]
    rw [hxe] at hx
    have hor := or_pow' hs32 hx
    refine Chk.mk ?_ ?_
    · show ((0 : Int) ≤ (s : Int) ∧ (s : Int) < 4611686018427387904) ∧ (0 : Int) ≤ ((ofL (limsL n (fun i => liC (l i))) (offD (iAt (b5G (L.getD i eD).2.2)) 5, vrD (iAt (b5G (L.getD i eD).2.2)) 5 5) : Nat) : Int) ∧ ((ofL (limsL n (fun i => liC (l i))) (offD (iAt (b5G (L.getD i eD).2.2)) 5, vrD (iAt (b5G (L.getD i eD).2.2)) 5 5) : Nat) : Int) ≤ 40
      rw [hxe']
      omega
    refine Br.mk (fun h2 => ?_) (fun h2 => ?_)
    · have h2 : (!hasV s (ofL (limsL n (fun i => liC (l i))) (offD (iAt (b5G (L.getD i eD).2.2)) 5, vrD (iAt (b5G (L.getD i eD).2.2)) 5 5))) = true := h2
      rw [hxe'] at h2
      have h2 : hasV s x = false := by simpa using h2
      rw [if_neg (by rw [h2]; decide)] at hor
      have hp16 : 2 ^ x ≤ 16 := Nat.le_trans (Nat.pow_le_pow_right (by decide) (show x ≤ 4 by omega)) (by decide)
      refine Chk.mk ?_ (Chk.mk ?_ ?_)
      · show (0 : Int) ≤ ((ofL (limsL n (fun i => liC (l i))) (offD (iAt (b5G (L.getD i eD).2.2)) 5, vrD (iAt (b5G (L.getD i eD).2.2)) 5 5) : Nat) : Int) ∧ ((ofL (limsL n (fun i => liC (l i))) (offD (iAt (b5G (L.getD i eD).2.2)) 5, vrD (iAt (b5G (L.getD i eD).2.2)) 5 5) : Nat) : Int) ≤ 40
        rw [hxe']
        omega
      · show InK .i64 ((s : Int) + ((2 ^ ((ofL (limsL n (fun i => liC (l i))) (offD (iAt (b5G (L.getD i eD).2.2)) 5, vrD (iAt (b5G (L.getD i eD).2.2)) 5 5) : Nat) : Int).toNat : Nat) : Int))
        rw [hxe', Int.toNat_natCast]
        generalize 2 ^ x = z at hp16
        exact ⟨by omega, by omega⟩
      refine Chk.mk (show InK .i64 ((i : Int) + 1) from ⟨by omega, by omega⟩) ⟨⟨(i + 1, s ||| 2 ^ x), by omega, hnext, hor.2⟩, (fun j => j), ?_, by show L.length - (i + 1) < L.length - i; omega⟩
      refine ⟨?_, ?_, rfl, rfl, rfl, rfl, trivial⟩ <;> repeat' (first | exact trivial | exact rfl | (intro i hi; exact ⟨rfl, rfl⟩) | (intro v m g h; exact h) | refine And.intro ?_ ?_)
      show (s : Int) + ((2 ^ ((ofL (limsL n (fun i => liC (l i))) (offD (iAt (b5G (L.getD i eD).2.2)) 5, vrD (iAt (b5G (L.getD i eD).2.2)) 5 5) : Nat) : Int).toNat : Nat) : Int) = ((s ||| 2 ^ x : Nat) : Int)
      rw [hxe', Int.toNat_natCast, ← hor.1]
      exact (Int.natCast_add _ _).symm
    · have h2 : (!hasV s (ofL (limsL n (fun i => liC (l i))) (offD (iAt (b5G (L.getD i eD).2.2)) 5, vrD (iAt (b5G (L.getD i eD).2.2)) 5 5))) = false := h2
      rw [hxe'] at h2
      have h2 : hasV s x = true := by simpa using h2
      rw [if_pos h2] at hor
      refine Chk.mk (show InK .i64 ((i : Int) + 1) from ⟨by omega, by omega⟩) ⟨⟨(i + 1, s), by omega, by rw [← hnext]; exact hor.1, hs32⟩, (fun j => j), ?_, by show L.length - (i + 1) < L.length - i; omega⟩
      refine ⟨?_, ?_, rfl, rfl, rfl, rfl, trivial⟩ <;> repeat' (first | exact trivial | exact rfl | (intro i hi; exact ⟨rfl, rfl⟩) | (intro v m g h; exact h) | refine And.intro ?_ ?_)
  · have h : ¬ (i : Int) < (L.length : Int) := of_decide_eq_false h
    obtain rfl : i = L.length := by omega
    have hs : s = setF Ls ((L.take L.length).map (·.2.2)) := hs
    rw [List.take_length] at hs
    refine ⟨(fun j => j), ?_, ?_, rfl, rfl, rfl, rfl⟩ <;> repeat' (first | exact trivial | exact rfl | (intro i hi; exact ⟨rfl, rfl⟩) | (intro v m g h; exact h) | refine And.intro ?_ ?_)
    show (s : Int) = _
    rw [hs]
end Go.X.Gr
end

section
set_option linter.unusedVariables false
set_option linter.unusedSimpArgs false
set_option linter.unusedSectionVars false
/- Grade: hull of the document, and how far its faces are those of the program. -/
set_option linter.unusedVariables false
set_option linter.unusedSimpArgs false
set_option maxRecDepth 10000
set_option maxHeartbeats 4000000
namespace Go.X.Gr
open Go Go.Proofs Go.X

theorem max5_cases (a0 a1 a2 a3 a4 : Int) : (a0 ≤ max5 a0 a1 a2 a3 a4 ∧ a1 ≤ max5 a0 a1 a2 a3 a4 ∧ a2 ≤ max5 a0 a1 a2 a3 a4 ∧ a3 ≤ max5 a0 a1 a2 a3 a4 ∧ a4 ≤ max5 a0 a1 a2 a3 a4) ∧
    (max5 a0 a1 a2 a3 a4 = a0 ∨ max5 a0 a1 a2 a3 a4 = a1 ∨ max5 a0 a1 a2 a3 a4 = a2 ∨ max5 a0 a1 a2 a3 a4 = a3 ∨ max5 a0 a1 a2 a3 a4 = a4) := by
  unfold max5
  obtain ⟨x, hx⟩ : ∃ x, max a0 a1 = x := ⟨_, rfl⟩
  rw [hx]
  obtain ⟨y, hy⟩ : ∃ y, max x a2 = y := ⟨_, rfl⟩
  rw [hy]
  obtain ⟨z, hz⟩ : ∃ z, max y a3 = z := ⟨_, rfl⟩
  rw [hz]
  omega
theorem offD_ge {f : Nat → Int} : ∀ {n : Nat}, 0 ≤ offD f n ∧ ∀ i, i < n → f i ≤ offD f n ∧ 0 - f i ≤ offD f n
  | 0 => ⟨Int.le_refl _, fun i hi => absurd hi (Nat.not_lt_zero _)⟩
  | n + 1 => by
    obtain ⟨h1, h2⟩ := offD_ge (f := f) (n := n)
    have e : offD f (n + 1) = max (offD f n) (max (f n - 0) (0 - f n)) := rfl
    rw [e]
    refine ⟨by omega, fun i hi => ?_⟩
    by_cases h : i = n
    · subst h; omega
    · have := h2 i (by omega); omega
theorem offD_le {f : Nat → Int} {c : Int} (hc : 0 ≤ c) : ∀ {n : Nat}, (∀ i, i < n → f i ≤ c ∧ 0 - f i ≤ c) → offD f n ≤ c
  | 0, _ => hc
  | n + 1, h => by
    have h1 := offD_le hc (f := f) (n := n) fun i hi => h i (by omega)
    have h2 := h n (by omega)
    have e : offD f (n + 1) = max (offD f n) (max (f n - 0) (0 - f n)) := rfl
    rw [e]
    omega
theorem vrO_ge {f : Nat → Int} {o x : Int} : ∀ {n : Nat}, o ≤ vrO f o x n ∧ ∀ k, k < n → x - f k ≤ vrO f o x n
  | 0 => ⟨Int.le_refl _, fun i hi => absurd hi (Nat.not_lt_zero _)⟩
  | n + 1 => by
    obtain ⟨h1, h2⟩ := vrO_ge (f := f) (o := o) (x := x) (n := n)
    have e : vrO f o x (n + 1) = max (vrO f o x n) (x - f n) := rfl
    rw [e]
    refine ⟨by omega, fun i hi => ?_⟩
    by_cases h : i = n
    · subst h; omega
    · have := h2 i (by omega); omega
theorem vrO_le {f : Nat → Int} {o x c : Int} (ho : o ≤ c) : ∀ {n : Nat}, (∀ k, k < n → x - f k ≤ c) → vrO f o x n ≤ c
  | 0, _ => ho
  | n + 1, h => by
    have h1 := vrO_le ho (f := f) (x := x) (n := n) fun i hi => h i (by omega)
    have h2 := h n (by omega)
    have e : vrO f o x (n + 1) = max (vrO f o x n) (x - f n) := rfl
    rw [e]
    omega
theorem vrD_ge {f : Nat → Int} {n : Nat} : ∀ {m : Nat}, 0 ≤ vrD f n m ∧ ∀ i k, i < m → k < n → f i - f k ≤ vrD f n m
  | 0 => ⟨Int.le_refl _, fun i k hi => absurd hi (Nat.not_lt_zero _)⟩
  | m + 1 => by
    obtain ⟨h1, h2⟩ := vrD_ge (f := f) (n := n) (m := m)
    have e : vrD f n (m + 1) = vrO f (vrD f n m) (f m) n := rfl
    obtain ⟨k1, k2⟩ := vrO_ge (f := f) (o := vrD f n m) (x := f m) (n := n)
    rw [e]
    refine ⟨by omega, fun i k hi hk => ?_⟩
    by_cases h : i = m
    · subst h; exact k2 k hk
    · have := h2 i k (by omega) hk; omega
theorem vrD_le {f : Nat → Int} {n : Nat} {c : Int} (hc : 0 ≤ c) : ∀ {m : Nat}, (∀ i k, i < m → k < n → f i - f k ≤ c) → vrD f n m ≤ c
  | 0, _ => hc
  | m + 1, h => vrO_le (vrD_le hc (m := m) fun i k hi hk => h i k (by omega) hk) fun k hk => h m k (by omega) hk
theorem b5N_cases {b : B5} {i : Nat} (hi : i < 5) : b5N b i = b.1 ∨ b5N b i = b.2.1 ∨ b5N b i = b.2.2.1 ∨ b5N b i = b.2.2.2.1 ∨ b5N b i = b.2.2.2.2 := by
  have : i = 0 ∨ i = 1 ∨ i = 2 ∨ i = 3 ∨ i = 4 := by omega
  rcases this with rfl | rfl | rfl | rfl | rfl <;> simp [b5N]
theorem offD_eq {b : B5} : offD (b5N b) 5 = fun5 offV b := by
  obtain ⟨h0, h⟩ := offD_ge (f := b5N b) (n := 5)
  have g0 := h 0 (by decide); have g1 := h 1 (by decide); have g2 := h 2 (by decide); have g3 := h 3 (by decide); have g4 := h 4 (by decide)
  simp only [b5N] at g0 g1 g2 g3 g4
  obtain ⟨m1, m2⟩ := max5_cases b.1 b.2.1 b.2.2.1 b.2.2.2.1 b.2.2.2.2
  obtain ⟨k1, k2⟩ := max5_cases (0 - b.1) (0 - b.2.1) (0 - b.2.2.1) (0 - b.2.2.2.1) (0 - b.2.2.2.2)
  have e : fun5 offV b = max (max5 b.1 b.2.1 b.2.2.1 b.2.2.2.1 b.2.2.2.2) (max5 (0 - b.1) (0 - b.2.1) (0 - b.2.2.1) (0 - b.2.2.2.1) (0 - b.2.2.2.2)) := rfl
  rw [e]
  generalize max5 b.1 b.2.1 b.2.2.1 b.2.2.2.1 b.2.2.2.2 = M at m1 m2
  generalize max5 (0 - b.1) (0 - b.2.1) (0 - b.2.2.1) (0 - b.2.2.2.1) (0 - b.2.2.2.2) = N at k1 k2
  refine Int.le_antisymm (offD_le (by omega) fun i hi => ?_) ?_
  · have := b5N_cases (b := b) hi
    omega
  · omega
theorem vrD_eq {b : B5} : vrD (b5N b) 5 5 = fun5 varV b := by
  obtain ⟨h0, h⟩ := vrD_ge (f := b5N b) (n := 5) (m := 5)
  obtain ⟨m1, m2⟩ := max5_cases b.1 b.2.1 b.2.2.1 b.2.2.2.1 b.2.2.2.2
  obtain ⟨k1, k2⟩ := max5_cases (0 - b.1) (0 - b.2.1) (0 - b.2.2.1) (0 - b.2.2.2.1) (0 - b.2.2.2.2)
  have e : fun5 varV b = max5 b.1 b.2.1 b.2.2.1 b.2.2.2.1 b.2.2.2.2 + max5 (0 - b.1) (0 - b.2.1) (0 - b.2.2.1) (0 - b.2.2.2.1) (0 - b.2.2.2.2) := rfl
  rw [e]
  generalize max5 b.1 b.2.1 b.2.2.1 b.2.2.2.1 b.2.2.2.2 = M at m1 m2
  generalize max5 (0 - b.1) (0 - b.2.1) (0 - b.2.2.1) (0 - b.2.2.2.1) (0 - b.2.2.2.2) = N at k1 k2
  refine Int.le_antisymm (vrD_le (by omega) fun i k hi hk => ?_) ?_
  · have q1 : b5N b i ≤ M := by have := b5N_cases (b := b) hi; omega
    have q2 : 0 - b5N b k ≤ N := by have := b5N_cases (b := b) hk; omega
    omega
  · obtain ⟨i, hi, ei⟩ : ∃ i, i < 5 ∧ b5N b i = M := by
      rcases m2 with h | h | h | h | h
      · exact ⟨0, by decide, h.symm⟩
      · exact ⟨1, by decide, h.symm⟩
      · exact ⟨2, by decide, h.symm⟩
      · exact ⟨3, by decide, h.symm⟩
      · exact ⟨4, by decide, h.symm⟩
    obtain ⟨k, hk, ek⟩ : ∃ k, k < 5 ∧ 0 - b5N b k = N := by
      rcases k2 with h | h | h | h | h
      · exact ⟨0, by decide, h.symm⟩
      · exact ⟨1, by decide, h.symm⟩
      · exact ⟨2, by decide, h.symm⟩
      · exact ⟨3, by decide, h.symm⟩
      · exact ⟨4, by decide, h.symm⟩
    have := h i k hi hk
    omega
theorem fcD_eq {b : B5} : fcD b = lk5 lkP b := by
  unfold fcD
  rw [offD_eq, vrD_eq]
  rfl

/-! ### hull -/
def hlV (f : Nat → Int) : Nat → Int × Int
  | 0 => (f 0, f 0)
  | i + 1 => (min (hlV f i).1 (f i), max (hlV f i).2 (f i))
def c53 : Ct := fun fr args H => oneK args H fun n get => some ⟨some (Ints n get ∧ 1 ≤ n ∧ n ≤ 1000000), none, .agg [.si .i64 (hlV (iAt get) n).1, .si .i64 (hlV (iAt get) n).2], []⟩
theorem k53 {l : List (Nat × Ct)} (g0 : Good P T l) : COk P 53 c53 := by
  have g := good0
  refine cok (C := tabC _) g.ok Try.func53 (c := code Try.f53) rfl fun fr args H out h hp => ?_
  obtain ⟨id, n, get, rfl, e1, h⟩ := oneK_some h
  cases h
  obtain ⟨hs, hn1, hn⟩ : Ints n get ∧ 1 ≤ n ∧ n ≤ 1000000 := hp
  refine ⟨[(id, .ro 1 n fun i => iC (iAt get i))], [.sl 0], [(0, .ro 1 n fun i => iC (iAt get i))], 1, [], rfl, rfl, Nat.le_of_ble_eq_true rfl, ints_hand e1 hs, rfl, rfl, fun G hG => ?_⟩
  clear hs
  generalize iAt get = f
  refine drawn_ok (g.ok _ _ _) fol [0,1,3,0,8,24,63,0,255] [(8, 30)] 9 (by kernel_rfl) ?_
  refine Chk.mk (show (0 : Int) ≤ 0 ∧ 0 < (n : Int) from ⟨by omega, by omega⟩) (Chk.mk (show (0 : Int) ≤ 0 ∧ 0 < (n : Int) from ⟨by omega, by omega⟩) ?_)
  refine loop_okR (g.ok _ _ _) 1 (fun x : {i : Nat // i ≤ n} => ⟨[(0, ⟨[], .sl 0⟩), (2, ⟨[], .sp 1 0⟩), (3, ⟨[], .sp 2 0⟩), (4, ⟨[], .si .i64 x.1⟩)], [], [(2, .cells 24 [.si .i64 (hlV f x.1).1, .si .i64 (hlV f x.1).2]), (1, .cells 24 [.si .i64 0, .si .i64 0]), (0, .ro 1 n fun i => iC (f i))], 3, []⟩) (fun x => n - x.1) hG ⟨0, Nat.zero_le _⟩ (fun j => match j with | 2 => 30 | j => j) ?_ ?_
  · refine ⟨?_, ?_, rfl, rfl, rfl, rfl, trivial⟩ <;> repeat' (first | exact trivial | exact rfl | (intro i hi; exact ⟨rfl, rfl⟩) | refine And.intro ?_ ?_)
  rintro ⟨i, hi⟩
  refine Br.mk (fun h => ?_) (fun h => ?_)
  · have h : (i : Int) < (n : Int) := of_decide_eq_true h
    refine drawn_ok (g.ok _ _ _) fol [0,1,0,0,12,28,63,0,128,0,0,1536,3584,8064,16383,32767] [(15, 2)] 16 (by kernel_rfl) ?_
    refine Chk.mk (show (0 : Int) ≤ (i : Int) ∧ (i : Int) < (n : Int) from ⟨by omega, by omega⟩) (Chk.mk (show (0 : Int) ≤ (i : Int) ∧ (i : Int) < (n : Int) from ⟨by omega, by omega⟩) ?_)
    refine Chk.mk (show InK .i64 ((i : Int) + 1) from ⟨by omega, by omega⟩) ⟨⟨i + 1, by omega⟩, (fun j => j), ?_, by show n - (i + 1) < n - i; omega⟩
    refine ⟨?_, ?_, rfl, rfl, rfl, rfl, trivial⟩ <;> repeat' (first | exact trivial | exact rfl | (intro i hi; exact ⟨rfl, rfl⟩) | refine And.intro ?_ ?_)
  · have h : ¬ (i : Int) < (n : Int) := of_decide_eq_false h
    obtain rfl : i = n := by omega
    exact ⟨.inl rfl, end_noid ⟨⟨rfl, rfl⟩, ⟨rfl, rfl⟩, trivial⟩ rfl rfl (by repeat' (first | exact trivial | exact rfl | (intro i hi; exact ⟨rfl, rfl⟩) | refine And.intro ?_ ?_))⟩
theorem g53 {l : List (Nat × Ct)} (g : Good P T l) : Good P T ((53, c53) :: l) := g.add (k53 g) (fun fr args H H' out hH h => oneK_mono hH h) (body_of Try.func53 (c := code Try.f53) rfl (by decide))
theorem hlV_ok {f : Nat → Int} : ∀ {n : Nat}, 1 ≤ n → (∀ i, i < n → (hlV f n).1 ≤ f i ∧ f i ≤ (hlV f n).2) ∧ (∃ i, i < n ∧ f i = (hlV f n).1) ∧ ∃ i, i < n ∧ f i = (hlV f n).2
  | 1, _ => by
    have e : hlV f 1 = (f 0, f 0) := by
      show (min (f 0) (f 0), max (f 0) (f 0)) = _
      rw [Int.min_self, Int.max_self]
    rw [e]
    refine ⟨fun i hi => ?_, ⟨0, by omega, rfl⟩, ⟨0, by omega, rfl⟩⟩
    obtain rfl : i = 0 := by omega
    exact ⟨Int.le_refl _, Int.le_refl _⟩
  | n + 2, _ => by
    obtain ⟨h1, ⟨i1, l1, e1⟩, i2, l2, e2⟩ := hlV_ok (f := f) (n := n + 1) (by omega)
    have e : hlV f (n + 2) = (min (hlV f (n + 1)).1 (f (n + 1)), max (hlV f (n + 1)).2 (f (n + 1))) := rfl
    rw [e]
    generalize hlV f (n + 1) = s at h1 e1 e2
    refine ⟨fun i hi => ?_, ?_, ?_⟩
    · show min s.1 (f (n + 1)) ≤ f i ∧ f i ≤ max s.2 (f (n + 1))
      by_cases h : i = n + 1
      · subst h; omega
      · have := h1 i (by omega); omega
    · show ∃ i, i < n + 2 ∧ f i = min s.1 (f (n + 1))
      rcases Int.le_total s.1 (f (n + 1)) with h | h
      · exact ⟨i1, by omega, by omega⟩
      · exact ⟨n + 1, by omega, by omega⟩
    · show ∃ i, i < n + 2 ∧ f i = max s.2 (f (n + 1))
      rcases Int.le_total s.2 (f (n + 1)) with h | h
      · exact ⟨n + 1, by omega, by omega⟩
      · exact ⟨i2, by omega, by omega⟩
theorem span_uniq {F : B5 → Int} {B : B5 → Prop} {s t : Int × Int} (h : SpanOf F B s) (k : SpanOf F B t) : s = t := by
  obtain ⟨b1, m1, e1⟩ := h.lo
  obtain ⟨b2, m2, e2⟩ := h.hi
  obtain ⟨b3, m3, e3⟩ := k.lo
  obtain ⟨b4, m4, e4⟩ := k.hi
  have := h.all b3 m3; have := h.all b4 m4; have := k.all b1 m1; have := k.all b2 m2
  have x1 : s.1 = t.1 := by omega
  have x2 : s.2 = t.2 := by omega
  exact Prod.ext x1 x2
/-- The hull of what each truth comes to is the span of the program. -/
theorem hull_span {F : Int → Int → Int → Int → Int → Int} {g : Pts} {L : List En} (hL : L.map (·.2.2) = blk g) (hne : blk g ≠ []) : hlV (fun i => fun5 F (L.getD i eD).2.2) L.length = vSpan (spanG F g) := by
  have hpos : 1 ≤ L.length := by
    cases L with
    | nil => exact (hne hL.symm).elim
    | cons x r => simp
  obtain ⟨h1, ⟨i1, l1, e1⟩, i2, l2, e2⟩ := hlV_ok (f := fun i => fun5 F (L.getD i eD).2.2) hpos
  have hmem : ∀ b, OkB g b ↔ ∃ i, i < L.length ∧ (L.getD i eD).2.2 = b := fun b => by
    rw [← mem_blk, ← hL, List.mem_map]
    constructor
    · rintro ⟨e, he, rfl⟩
      obtain ⟨i, hi, rfl⟩ := List.mem_iff_getElem.1 he
      exact ⟨i, hi, by simp [List.getD, hi]⟩
    · rintro ⟨i, hi, rfl⟩
      exact ⟨_, en_get hi, rfl⟩
  have hs : SpanOf (fun5 F) (OkB g) (hlV (fun i => fun5 F (L.getD i eD).2.2) L.length) := by
    refine ⟨fun b hb => ?_, ⟨_, (hmem _).2 ⟨i1, l1, rfl⟩, e1⟩, ⟨_, (hmem _).2 ⟨i2, l2, rfl⟩, e2⟩⟩
    obtain ⟨i, hi, rfl⟩ := (hmem b).1 hb
    exact h1 i hi
  cases hS : spanG F g with
  | none =>
    obtain ⟨b, hb, _⟩ := hs.lo
    exact absurd hb (spanG_none hS b)
  | some s => exact span_uniq hs (spanG_some hS)
end Go.X.Gr
end

section
set_option linter.unusedVariables false
set_option linter.unusedSimpArgs false
set_option linter.unusedSectionVars false
/- Grade: VariesOf, OffOf, Grades of the document. -/
set_option linter.unusedVariables false
set_option linter.unusedSimpArgs false
set_option maxRecDepth 10000
set_option maxHeartbeats 4000000
namespace Go.X.Gr
open Go Go.Proofs Go.X

theorem enOk_of {g : Pts} {L : List (Int × Int)} {E : List En} (h : gradeOk g L = true) (hE : E.map (·.2.2) = blk g) : enOk E := fun e he => by
  have hm : e.2.2 ∈ blk g := hE ▸ List.mem_map.2 ⟨e, he, rfl⟩
  exact (mem_blk.1 hm).ok (gradeOk_b h).1
theorem en_len {g : Pts} {L : List (Int × Int)} {E : List En} (h : gradeOk g L = true) (hE : E.map (·.2.2) = blk g) : E.length ≤ 16807 := by
  have := congrArg List.length hE
  rw [List.length_map] at this
  rw [this]
  exact blk_len (gradeOk_narrow h)
theorem errT_zero4 {g : Pts} {L : List (Int × Int)} {q : Bool} (h : errT g L q = 0) : errG g L q = 0 ∧ gradeOk g L = true ∧ q = true ∧ hasB g = true := by
  unfold errT at h
  split at h
  · rename_i h1
    split at h
    · rename_i h2
      exact ⟨h1, (errG_zero h1).1, (errG_zero h1).2, h2⟩
    · cases h
  · rename_i h1; exact (h1 h).elim
theorem blk_ne {g : Pts} (h : hasB g = true) : blk g ≠ [] := fun e => by rw [blk_nil e] at h; cases h
theorem errS_T {F : Int → Int → Int → Int → Int → Int} {g : Pts} {L : List (Int × Int)} {q : Bool} : errS F g L q = errT g L q := by
  unfold errS errT
  rw [bSpan_iff]
theorem resS_ne {F : Int → Int → Int → Int → Int → Int} {g : Pts} {L : List (Int × Int)} {q : Bool} (h : errT g L q ≠ 0) : resS F g L q = (0, 0) := by
  unfold resS
  split
  · rename_i h1
    unfold errT at h
    rw [if_pos h1] at h
    split at h
    · exact (h rfl).elim
    · rename_i h2
      rw [← bSpan_iff (F := F)] at h2
      cases hS : spanG F g with
      | none => rfl
      | some s => rw [hS] at h2; exact (h2 rfl).elim
  · rfl
theorem f5_int {F : Int → Int → Int → Int → Int → Int} {f : Nat → Int} {L : List En} {n : Nat} (hs : ∀ i, i < n → sm (f i)) : Ints n (fun i => iC (f i)) := fun i hi => ⟨rfl, hs i hi⟩
theorem off_sm {b : B5} (h : okI b.1 ∧ okI b.2.1 ∧ okI b.2.2.1 ∧ okI b.2.2.2.1 ∧ okI b.2.2.2.2) : sm (offD (b5N b) 5) ∧ sm (vrD (b5N b) 5 5) := by
  obtain ⟨h0, h1, h2, h3, h4⟩ := h
  unfold okI at h0 h1 h2 h3 h4
  have k : ∀ i, i < 5 → -20 ≤ b5N b i ∧ b5N b i ≤ 20 := fun i hi => by have := b5N_cases (b := b) hi; omega
  have a1 := (offD_ge (f := b5N b) (n := 5)).1
  have a2 := offD_le (f := b5N b) (c := 20) (by decide) (n := 5) fun i hi => by have := k i hi; omega
  have a3 := (vrD_ge (f := b5N b) (n := 5) (m := 5)).1
  have a4 := vrD_le (f := b5N b) (c := 40) (n := 5) (m := 5) (by decide) fun i j hi hj => by have := k i hi; have := k j hj; omega
  unfold sm
  omega

theorem k18 {l : List (Nat × Ct)} (g0 : Good P T l) : COk P 18 (spanE varV) := by
  have g := g56 (g53 good0)
  refine cok (C := tabC _) g.ok Try.func18 (c := code Try.f18) rfl fun fr args H out h hp => ?_
  unfold spanE at h
  split at h
  case h_2 => cases h
  rename_i l
  obtain ⟨i1, p, n, get, rfl, e1, h⟩ := gradeK_some h
  cases h
  obtain ⟨hs, hn⟩ : Lims n get ∧ n ≤ 1000000 := hp
  have hh : Hand H [(i1, .ro 2 n fun i => liC (liAt get i))] := hand_one e1 (fun i => rfl) (fun i hi => (hs i hi).symm)
  refine ⟨[(i1, .ro 2 n fun i => liC (liAt get i))], [.agg (grA 0 p)], [(0, .ro 2 n fun i => liC (liAt get i))], 1, [], rfl, rfl, Nat.le_of_ble_eq_true rfl, hh, rfl, rfl, fun G hG => ?_⟩
  unfold limsL
  generalize liAt get = lm
  refine fb_call (g.ok _ _ _) cont_std rfl rfl rfl rfl ⟨b51, ?_⟩
  refine callS_at [.agg (grA 0 p), .sb true] [(0, .ro 2 n fun i => liC (lm i))] 1 (fun j => j) (by repeat' (first | exact trivial | exact rfl | refine And.intro ?_ ?_)) rfl (by repeat' (first | exact trivial | exact rfl | (intro i hi; exact ⟨rfl, rfl⟩) | refine And.intro ?_ ?_)) rfl rfl ?_
  refine s51 hn (fun x hx => ?_)
  generalize hLm : (List.range n).map lm = Lm at hx ⊢
  rw [errS_T]
  cases x with
  | none =>
    have hx : errT p Lm true ≠ 0 := hx
    rw [resS_ne hx]
    refine ⟨rfl, (by repeat' (first | exact trivial | exact rfl | refine And.intro ?_ ?_)), (by repeat' (first | exact trivial | exact rfl | (intro i hi; exact rfl) | refine And.intro ?_ ?_)), ?_⟩
    refine Br.mk (fun h => ?_) (fun h => ?_)
    · exact ⟨.inl rfl, end_noid ⟨⟨⟨rfl, rfl⟩, ⟨rfl, rfl⟩, trivial⟩, ⟨rfl, rfl⟩, trivial⟩ rfl rfl (by repeat' (first | exact trivial | exact rfl | (intro i hi; exact ⟨rfl, rfl⟩) | refine And.intro ?_ ?_))⟩
    · have h : (!decide (errT p Lm true = 0)) = false := h
      exact (hx (by simpa using h)).elim
  | some L =>
    obtain ⟨hx, hL⟩ : errT p Lm true = 0 ∧ L.map (·.2.2) = blk p := hx
    obtain ⟨he, hok, _, hb⟩ := errT_zero4 hx
    have hr : resS varV p Lm true = hlV (fun i => fun5 varV (L.getD i eD).2.2) L.length := by
      rw [hull_span hL (blk_ne hb), resS, if_pos he]
    rw [hx, hr]
    have hlen := en_len hok hL
    have hoks := enOk_of hok hL
    have hpos : 1 ≤ L.length := by
      cases L with
      | nil => exact (blk_ne hb hL.symm).elim
      | cons x r => simp
    have hfun : (fun i => fun5 varV (L.getD i eD).2.2) = fun j => vrD (b5N (L.getD j eD).2.2) 5 5 := by funext j; exact vrD_eq.symm
    rw [hfun]
    refine ⟨rfl, (by repeat' (first | exact trivial | exact rfl | refine And.intro ?_ ?_)), (by repeat' (first | exact trivial | exact rfl | (intro i hi; exact rfl) | refine And.intro ?_ ?_)), ?_⟩
    refine Br.mk (fun h => (by cases h)) (fun _ => ?_)
    refine nil_slot 6 3 1 (fun j => iC (vrD (b5N (L.getD j eD).2.2) 5 5)) rfl ?_
    refine loop_okR (g.ok _ _ _) 1 (fun x : {i : Nat // i ≤ L.length} => ⟨[(2, ⟨[], .sp 2 0⟩), (4, ⟨[], .sl 3⟩), (6, ⟨[], .sl 5⟩), (7, ⟨[], .si .i64 x.1⟩)], [], [(5, .vec 3 1 x.1 fun j => iC (vrD (b5N (L.getD j eD).2.2) 5 5)), (4, .fam 1 (famC L)), (3, .vec 73 1 L.length (oG L)), (2, .cells 24 [.si .i64 0, .si .i64 0]), (0, .ro 2 n fun i => liC (lm i))], 6, []⟩) (fun x => L.length - x.1) hG ⟨0, Nat.zero_le _⟩ (fun j => j) ?_ ?_
    · refine ⟨?_, ?_, rfl, rfl, rfl, rfl, trivial⟩ <;> repeat' (first | exact trivial | exact rfl | (intro i hi; exact ⟨rfl, rfl⟩) | (intro v m g h; exact h) | refine And.intro ?_ ?_)
      all_goals (intro i hi; exact absurd hi (Nat.not_lt_zero _))
    rintro ⟨i, hi⟩
    refine Br.mk (fun h => ?_) (fun h => ?_)
    · have h : (i : Int) < (L.length : Int) := of_decide_eq_true h
      have hil : i < L.length := by omega
      have hmem := en_get hil
      refine Chk.mk (show (0 : Int) ≤ (i : Int) ∧ (i : Int) < (L.length : Int) from ⟨by omega, by omega⟩) ?_
      refine fb_focus 4 27 5 (L.getD i eD).2.1 (L.getD i eD).1 (b5G (L.getD i eD).2.2) (.sl 6) (g.ok _ _ _) cont_std rfl ⟨⟨_, hmem, rfl, rfl, rfl⟩, rfl, ?_⟩
      refine Chk.mk (show Ints 5 (b5G (L.getD i eD).2.2) ∧ 5 ≤ 1000 from ⟨ints_b5 (hoks _ hmem), by decide⟩) ?_
      refine fb_append (Te := 0) 5 7 i 1 _ _ (fun j => iC (vrD (b5N (L.getD j eD).2.2) 5 5)) (g.ok _ _ _) cont_std rfl rfl rfl rfl rfl rfl rfl rfl rfl rfl rfl rfl (by decide) (by decide) rfl rfl rfl rfl (by omega) ?_ ?_
      · intro j hj
        split
        · rfl
        · have e1 : j - i = 0 := by omega
          have e2 : j = i := by omega
          rw [e1, e2]; rfl
      refine Chk.mk (show InK .i64 ((i : Int) + 1) from ⟨by omega, by omega⟩) ⟨⟨i + 1, by omega⟩, (fun j => match j with | 5 => 8 | j => j), ?_, by show L.length - (i + 1) < L.length - i; omega⟩
      refine ⟨?_, ?_, rfl, rfl, rfl, rfl, trivial⟩ <;> repeat' (first | exact trivial | exact rfl | (intro i hi; exact ⟨rfl, rfl⟩) | (intro v m g h; exact h) | refine And.intro ?_ ?_)
    · have h : ¬ (i : Int) < (L.length : Int) := of_decide_eq_false h
      obtain rfl : i = L.length := by omega
      refine Chk.mk (show Ints L.length (fun j => iC (vrD (b5N (L.getD j eD).2.2) 5 5)) ∧ 1 ≤ L.length ∧ L.length ≤ 1000000 from ⟨f5_int (F := varV) (L := L) fun j hj => (off_sm (hoks _ (en_get hj))).2, hpos, by omega⟩) ?_
      exact ⟨.inl rfl, end_noid ⟨⟨⟨rfl, rfl⟩, ⟨rfl, rfl⟩, trivial⟩, ⟨rfl, rfl⟩, trivial⟩ rfl rfl (by repeat' (first | exact trivial | exact rfl | (intro i hi; exact ⟨rfl, rfl⟩) | refine And.intro ?_ ?_))⟩
theorem g18 {l : List (Nat × Ct)} (g : Good P T l) : Good P T ((18, spanE varV) :: l) := g.add (k18 g) (spanE_mono _) (body_of Try.func18 (c := code Try.f18) rfl (by decide))

theorem k20 {l : List (Nat × Ct)} (g0 : Good P T l) : COk P 20 (spanE offV) := by
  have g := g59 (g53 good0)
  refine cok (C := tabC _) g.ok Try.func20 (c := code Try.f20) rfl fun fr args H out h hp => ?_
  unfold spanE at h
  split at h
  case h_2 => cases h
  rename_i l
  obtain ⟨i1, p, n, get, rfl, e1, h⟩ := gradeK_some h
  cases h
  obtain ⟨hs, hn⟩ : Lims n get ∧ n ≤ 1000000 := hp
  have hh : Hand H [(i1, .ro 2 n fun i => liC (liAt get i))] := hand_one e1 (fun i => rfl) (fun i hi => (hs i hi).symm)
  refine ⟨[(i1, .ro 2 n fun i => liC (liAt get i))], [.agg (grA 0 p)], [(0, .ro 2 n fun i => liC (liAt get i))], 1, [], rfl, rfl, Nat.le_of_ble_eq_true rfl, hh, rfl, rfl, fun G hG => ?_⟩
  unfold limsL
  generalize liAt get = lm
  refine fb_call (g.ok _ _ _) cont_std rfl rfl rfl rfl ⟨b51, ?_⟩
  refine callS_at [.agg (grA 0 p), .sb true] [(0, .ro 2 n fun i => liC (lm i))] 1 (fun j => j) (by repeat' (first | exact trivial | exact rfl | refine And.intro ?_ ?_)) rfl (by repeat' (first | exact trivial | exact rfl | (intro i hi; exact ⟨rfl, rfl⟩) | refine And.intro ?_ ?_)) rfl rfl ?_
  refine s51 hn (fun x hx => ?_)
  generalize hLm : (List.range n).map lm = Lm at hx ⊢
  rw [errS_T]
  cases x with
  | none =>
    have hx : errT p Lm true ≠ 0 := hx
    rw [resS_ne hx]
    refine ⟨rfl, (by repeat' (first | exact trivial | exact rfl | refine And.intro ?_ ?_)), (by repeat' (first | exact trivial | exact rfl | (intro i hi; exact rfl) | refine And.intro ?_ ?_)), ?_⟩
    refine Br.mk (fun h => ?_) (fun h => ?_)
    · exact ⟨.inl rfl, end_noid ⟨⟨⟨rfl, rfl⟩, ⟨rfl, rfl⟩, trivial⟩, ⟨rfl, rfl⟩, trivial⟩ rfl rfl (by repeat' (first | exact trivial | exact rfl | (intro i hi; exact ⟨rfl, rfl⟩) | refine And.intro ?_ ?_))⟩
    · have h : (!decide (errT p Lm true = 0)) = false := h
      exact (hx (by simpa using h)).elim
  | some L =>
    obtain ⟨hx, hL⟩ : errT p Lm true = 0 ∧ L.map (·.2.2) = blk p := hx
    obtain ⟨he, hok, _, hb⟩ := errT_zero4 hx
    have hr : resS offV p Lm true = hlV (fun i => fun5 offV (L.getD i eD).2.2) L.length := by
      rw [hull_span hL (blk_ne hb), resS, if_pos he]
    rw [hx, hr]
    have hlen := en_len hok hL
    have hoks := enOk_of hok hL
    have hpos : 1 ≤ L.length := by
      cases L with
      | nil => exact (blk_ne hb hL.symm).elim
      | cons x r => simp
    have hfun : (fun i => fun5 offV (L.getD i eD).2.2) = fun j => offD (b5N (L.getD j eD).2.2) 5 := by funext j; exact offD_eq.symm
    rw [hfun]
    refine ⟨rfl, (by repeat' (first | exact trivial | exact rfl | refine And.intro ?_ ?_)), (by repeat' (first | exact trivial | exact rfl | (intro i hi; exact rfl) | refine And.intro ?_ ?_)), ?_⟩
    refine Br.mk (fun h => (by cases h)) (fun _ => ?_)
    refine nil_slot 6 3 1 (fun j => iC (offD (b5N (L.getD j eD).2.2) 5)) rfl ?_
    refine loop_okR (g.ok _ _ _) 1 (fun x : {i : Nat // i ≤ L.length} => ⟨[(2, ⟨[], .sp 2 0⟩), (4, ⟨[], .sl 3⟩), (6, ⟨[], .sl 5⟩), (7, ⟨[], .si .i64 x.1⟩)], [], [(5, .vec 3 1 x.1 fun j => iC (offD (b5N (L.getD j eD).2.2) 5)), (4, .fam 1 (famC L)), (3, .vec 73 1 L.length (oG L)), (2, .cells 24 [.si .i64 0, .si .i64 0]), (0, .ro 2 n fun i => liC (lm i))], 6, []⟩) (fun x => L.length - x.1) hG ⟨0, Nat.zero_le _⟩ (fun j => j) ?_ ?_
    · refine ⟨?_, ?_, rfl, rfl, rfl, rfl, trivial⟩ <;> repeat' (first | exact trivial | exact rfl | (intro i hi; exact ⟨rfl, rfl⟩) | (intro v m g h; exact h) | refine And.intro ?_ ?_)
      all_goals (intro i hi; exact absurd hi (Nat.not_lt_zero _))
    rintro ⟨i, hi⟩
    refine Br.mk (fun h => ?_) (fun h => ?_)
    · have h : (i : Int) < (L.length : Int) := of_decide_eq_true h
      have hil : i < L.length := by omega
      have hmem := en_get hil
      refine Chk.mk (show (0 : Int) ≤ (i : Int) ∧ (i : Int) < (L.length : Int) from ⟨by omega, by omega⟩) ?_
      refine fb_focus 4 27 5 (L.getD i eD).2.1 (L.getD i eD).1 (b5G (L.getD i eD).2.2) (.sl 6) (g.ok _ _ _) cont_std rfl ⟨⟨_, hmem, rfl, rfl, rfl⟩, rfl, ?_⟩
      refine Chk.mk (show Ints 5 (b5G (L.getD i eD).2.2) ∧ 5 ≤ 1000 from ⟨ints_b5 (hoks _ hmem), by decide⟩) ?_
      refine fb_append (Te := 0) 5 7 i 1 _ _ (fun j => iC (offD (b5N (L.getD j eD).2.2) 5)) (g.ok _ _ _) cont_std rfl rfl rfl rfl rfl rfl rfl rfl rfl rfl rfl rfl (by decide) (by decide) rfl rfl rfl rfl (by omega) ?_ ?_
      · intro j hj
        split
        · rfl
        · have e1 : j - i = 0 := by omega
          have e2 : j = i := by omega
          rw [e1, e2]; rfl
      refine Chk.mk (show InK .i64 ((i : Int) + 1) from ⟨by omega, by omega⟩) ⟨⟨i + 1, by omega⟩, (fun j => match j with | 5 => 8 | j => j), ?_, by show L.length - (i + 1) < L.length - i; omega⟩
      refine ⟨?_, ?_, rfl, rfl, rfl, rfl, trivial⟩ <;> repeat' (first | exact trivial | exact rfl | (intro i hi; exact ⟨rfl, rfl⟩) | (intro v m g h; exact h) | refine And.intro ?_ ?_)
    · have h : ¬ (i : Int) < (L.length : Int) := of_decide_eq_false h
      obtain rfl : i = L.length := by omega
      refine Chk.mk (show Ints L.length (fun j => iC (offD (b5N (L.getD j eD).2.2) 5)) ∧ 1 ≤ L.length ∧ L.length ≤ 1000000 from ⟨f5_int (F := offV) (L := L) fun j hj => (off_sm (hoks _ (en_get hj))).1, hpos, by omega⟩) ?_
      exact ⟨.inl rfl, end_noid ⟨⟨⟨rfl, rfl⟩, ⟨rfl, rfl⟩, trivial⟩, ⟨rfl, rfl⟩, trivial⟩ rfl rfl (by repeat' (first | exact trivial | exact rfl | (intro i hi; exact ⟨rfl, rfl⟩) | refine And.intro ?_ ?_))⟩
theorem g20 {l : List (Nat × Ct)} (g : Good P T l) : Good P T ((20, spanE offV) :: l) := g.add (k20 g) (spanE_mono _) (body_of Try.func20 (c := code Try.f20) rfl (by decide))
end Go.X.Gr
end

section
set_option linter.unusedVariables false
set_option linter.unusedSimpArgs false
set_option linter.unusedSectionVars false
/- Grade: Grades of the document; the set of grades is that of the program. -/
set_option linter.unusedVariables false
set_option linter.unusedSimpArgs false
set_option maxRecDepth 10000
set_option maxHeartbeats 4000000
namespace Go.X.Gr
open Go Go.Proofs Go.X

theorem of3_eq {L : List (Int × Int)} {f : Fc} (hf : f.1 ≤ 40 ∧ f.2 ≤ 40) : ofL (lims3 L) f = ofL L f := by
  have hk : keepsP f (40, 40) = true := by simp [keepsP, keepsB, hf.1, hf.2]
  unfold ofL lims3
  rw [List.findIdx_append]
  split
  · rfl
  · rename_i h
    have h1 : L.findIdx (fun l => keepsP f l) = L.length := by
      refine List.findIdx_eq_length.2 fun x hx => ?_
      cases e : keepsP f x with
      | false => rfl
      | true => exact (h (List.findIdx_lt_length_of_exists ⟨x, hx, e⟩)).elim
    rw [h1]
    simp [List.findIdx_cons, hk]
theorem face40 {g : Pts} {b : B5} (hg : ptsB g) (h : OkB g b) : (lk5 lkP b).1 ≤ 40 ∧ (lk5 lkP b).2 ≤ 40 := face_b hg _ (by
  have := faces_mem (L := lkP) (g := g) (f := lk5 lkP b)
  obtain ⟨p, hp, e⟩ := List.mem_map.1 (this.2 ⟨b, h, rfl⟩)
  obtain ⟨x, y⟩ := p
  cases e
  have hy : y = true := by
    have key : ∀ (l : List B5) (c : List (Fc × Bool)), (∀ q ∈ c, q.2 = true) → ∀ q ∈ l.foldl (fun c b => (f5 (fFaces lkP) c b).1) c, q.2 = true := by
      intro l
      induction l with
      | nil => intro c hc; exact hc
      | cons x r ih =>
        intro c hc
        rw [List.foldl_cons]
        refine ih _ fun q hq => ?_
        have : ∀ {m : List (Fc × Bool)} {k : Fc}, (∀ q ∈ m, q.2 = true) → ∀ q ∈ updA m k true, q.2 = true := by
          intro m k
          induction m with
          | nil => intro _ q hq; simp [updA] at hq; rw [hq]
          | cons z s ih2 =>
            intro hm q hq
            unfold updA at hq
            split at hq
            · rcases List.mem_cons.1 hq with rfl | hq
              · rfl
              · exact hm q (List.mem_cons_of_mem _ hq)
            · rcases List.mem_cons.1 hq with rfl | hq
              · exact hm _ List.mem_cons_self
              · exact ih2 (fun q hq => hm q (List.mem_cons_of_mem _ hq)) q hq
        exact this hc q hq
    have hp2 := hp
    unfold facesV at hp2
    rw [on0_blk, foldS_true (fun _ _ => rfl)] at hp2
    exact key _ [] (fun q hq => by cases hq) _ hp2
  rw [hy] at hp
  exact hp)
theorem setF_grades {Ls : List (Int × Int)} {bs : List B5} : setF Ls bs = gradesN Ls (bs.map fcD) := by
  unfold setF gradesN
  rw [List.foldl_map]
theorem setF_bit {Ls : List (Int × Int)} {bs : List B5} {k : Nat} : (setF Ls bs).testBit k = true ↔ ∃ b ∈ bs, ofL Ls (fcD b) = k := by
  rw [setF_grades, gradesN_bit, List.any_eq_true]
  constructor
  · rintro ⟨f, hf, e⟩
    obtain ⟨b, hb, rfl⟩ := List.mem_map.1 hf
    exact ⟨b, hb, of_decide_eq_true e⟩
  · rintro ⟨b, hb, e⟩
    exact ⟨_, List.mem_map.2 ⟨b, hb, rfl⟩, decide_eq_true e⟩
theorem ofD_eq {g : Pts} {L : List (Int × Int)} {b : B5} (hg : ptsB g) (h : OkB g b) : ofL L (fcD b) = ofL (lims3 L) (lk5 lkP b) := by
  rw [fcD_eq, of3_eq (face40 hg h)]
theorem set_eq {g : Pts} {L : List (Int × Int)} (hg : ptsB g) : setF L (blk g) = setV (lims3 L) g := by
  refine Nat.eq_of_testBit_eq fun k => ?_
  have : (setF L (blk g)).testBit k = true ↔ (setV (lims3 L) g).testBit k = true := by
    rw [setF_bit, setV_bit]
    constructor
    · rintro ⟨b, hb, e⟩
      exact ⟨b, mem_blk.1 hb, by rw [← ofD_eq hg (mem_blk.1 hb)]; exact e⟩
    · rintro ⟨b, hb, e⟩
      exact ⟨b, mem_blk.2 hb, by rw [ofD_eq hg hb]; exact e⟩
  cases e1 : (setF L (blk g)).testBit k <;> cases e2 : (setV (lims3 L) g).testBit k <;> simp_all

theorem k22 {l : List (Nat × Ct)} (g0 : Good P T l) : COk P 22 c21 := by
  have g := good0
  refine cok (C := tabC _) g.ok Try.func22 (c := code Try.f22) rfl fun fr args H out h hp => ?_
  unfold c21 at h
  split at h
  case h_2 => cases h
  rename_i l
  obtain ⟨i1, p, n, get, rfl, e1, h⟩ := gradeK_some h
  cases h
  obtain ⟨hs, hn⟩ : Lims n get ∧ n ≤ 1000000 := hp
  have hh : Hand H [(i1, .ro 2 n fun i => liC (liAt get i))] := hand_one e1 (fun i => rfl) (fun i hi => (hs i hi).symm)
  refine ⟨[(i1, .ro 2 n fun i => liC (liAt get i))], [.agg (grA 0 p)], [(0, .ro 2 n fun i => liC (liAt get i))], 1, [], rfl, rfl, Nat.le_of_ble_eq_true rfl, hh, rfl, rfl, fun G hG => ?_⟩
  unfold limsL
  generalize liAt get = lm
  refine fb_call (g.ok _ _ _) cont_std rfl rfl rfl rfl ⟨b51, ?_⟩
  refine callS_at [.agg (grA 0 p), .sb true] [(0, .ro 2 n fun i => liC (lm i))] 1 (fun j => j) (by repeat' (first | exact trivial | exact rfl | refine And.intro ?_ ?_)) rfl (by repeat' (first | exact trivial | exact rfl | (intro i hi; exact ⟨rfl, rfl⟩) | refine And.intro ?_ ?_)) rfl rfl ?_
  refine s51 hn (fun x hx => ?_)
  generalize hLm : (List.range n).map lm = Lm at hx ⊢
  cases x with
  | none =>
    have hx : errT p Lm true ≠ 0 := hx
    have hr : resG p Lm true = 0 := by unfold resG; rw [if_neg hx]
    rw [hr]
    refine ⟨rfl, (by repeat' (first | exact trivial | exact rfl | refine And.intro ?_ ?_)), (by repeat' (first | exact trivial | exact rfl | (intro i hi; exact rfl) | refine And.intro ?_ ?_)), ?_⟩
    refine Br.mk (fun h => ?_) (fun h => ?_)
    · exact ⟨.inl rfl, end_noid ⟨⟨rfl, rfl⟩, ⟨rfl, rfl⟩, trivial⟩ rfl rfl (by repeat' (first | exact trivial | exact rfl | (intro i hi; exact ⟨rfl, rfl⟩) | refine And.intro ?_ ?_))⟩
    · have h : (!decide (errT p Lm true = 0)) = false := h
      exact (hx (by simpa using h)).elim
  | some L =>
    obtain ⟨hx, hL⟩ : errT p Lm true = 0 ∧ L.map (·.2.2) = blk p := hx
    obtain ⟨he, hok, _, hb⟩ := errT_zero4 hx
    have hr : resG p Lm true = setF Lm (L.map (·.2.2)) := by rw [hL, set_eq (gradeOk_b hok).1, resG, if_pos hx]
    rw [hx, hr]
    have hlen := en_len hok hL
    have hoks := enOk_of hok hL
    have hn4 : n ≤ 4 := by
      have := (gradeOk_b hok).2.2
      rw [← hLm, List.length_map, List.length_range] at this
      exact this
    refine ⟨rfl, (by repeat' (first | exact trivial | exact rfl | refine And.intro ?_ ?_)), (by repeat' (first | exact trivial | exact rfl | (intro i hi; exact rfl) | refine And.intro ?_ ?_)), ?_⟩
    refine Br.mk (fun h => (by cases h)) (fun _ => ?_)
    refine fb_call (g.ok _ _ _) cont_std rfl rfl rfl rfl ⟨b63, ?_⟩
    refine callS_at [.agg (grA 0 p), .sl 1] (tH L n lm) 3 (fun j => match j with | 1 => 2 | 2 => 3 | j => j) (by repeat' (first | exact trivial | exact rfl | refine And.intro ?_ ?_)) rfl (by repeat' (first | exact trivial | exact rfl | (intro i hi; exact ⟨rfl, rfl⟩) | (intro v m g h; exact h) | refine And.intro ?_ ?_)) rfl rfl ?_
    refine s63 hn4 (Nat.le_trans hlen (by decide)) hoks ⟨rfl, ?_, ?_, ?_⟩
    · repeat' (first | exact trivial | exact rfl | refine And.intro ?_ ?_)
    · repeat' (first | exact trivial | exact rfl | (intro i hi; exact rfl) | refine And.intro ?_ ?_)
    rw [hLm]
    exact ⟨.inl rfl, end_noid ⟨⟨rfl, rfl⟩, ⟨rfl, rfl⟩, trivial⟩ rfl rfl (by repeat' (first | exact trivial | exact rfl | (intro i hi; exact ⟨rfl, rfl⟩) | refine And.intro ?_ ?_))⟩
theorem g22 {l : List (Nat × Ct)} (g : Good P T l) : Good P T ((22, c21) :: l) := g.add (k22 g) c21_mono (body_of Try.func22 (c := code Try.f22) rfl (by decide))
end Go.X.Gr
end

section
set_option linter.unusedVariables false
set_option linter.unusedSimpArgs false
set_option linter.unusedSectionVars false
/- Grade: Sure and PointOf of the document. -/
set_option linter.unusedVariables false
set_option linter.unusedSimpArgs false
set_option maxRecDepth 10000
set_option maxHeartbeats 4000000
namespace Go.X.Gr
open Go Go.Proofs Go.X

def cntR (p : Nat → Bool) : Nat → Nat
  | 0 => 0
  | n + 1 => cntR p n + (if p n = true then 1 else 0)
theorem cntR_le {p : Nat → Bool} : ∀ {n : Nat}, cntR p n ≤ n
  | 0 => Nat.le_refl _
  | n + 1 => by
    have := cntR_le (p := p) (n := n)
    unfold cntR
    split <;> omega
theorem cntR_all {p : Nat → Bool} : ∀ {n : Nat}, cntR p n = n ↔ ∀ i, i < n → p i = true
  | 0 => ⟨fun _ i hi => absurd hi (Nat.not_lt_zero _), fun _ => rfl⟩
  | n + 1 => by
    have h1 := cntR_le (p := p) (n := n)
    have h2 := cntR_all (p := p) (n := n)
    unfold cntR
    constructor
    · intro h i hi
      split at h
      · rename_i hp
        by_cases e : i = n
        · subst e; exact hp
        · exact h2.1 (by omega) i (by omega)
      · omega
    · intro h
      rw [if_pos (h n (by omega)), h2.2 fun i hi => h i (by omega)]
theorem cntR_none {p : Nat → Bool} : ∀ {n : Nat}, cntR p n = 0 ↔ ∀ i, i < n → p i = false
  | 0 => ⟨fun _ i hi => absurd hi (Nat.not_lt_zero _), fun _ => rfl⟩
  | n + 1 => by
    have h2 := cntR_none (p := p) (n := n)
    unfold cntR
    constructor
    · intro h i hi
      split at h
      · omega
      · rename_i hp
        by_cases e : i = n
        · subst e; simpa using hp
        · exact h2.1 (by omega) i (by omega)
    · intro h
      rw [if_neg (by rw [h n (by omega)]; decide), h2.2 fun i hi => h i (by omega)]

theorem k24 {l : List (Nat × Ct)} (g0 : Good P T l) : COk P 24 c23 := by
  have g := g67 (g66 good0)
  refine cok (C := tabC _) g.ok Try.func24 (c := code Try.f24) rfl fun fr args H out h hp => ?_
  unfold c23 at h
  split at h
  case h_2 => cases h
  rename_i l q
  obtain ⟨i1, p, n, get, rfl, e1, h⟩ := gradeK_some h
  cases h
  obtain ⟨hs, hn⟩ : Lims n get ∧ n ≤ 1000000 := hp
  have hh : Hand H [(i1, .ro 2 n fun i => liC (liAt get i))] := hand_one e1 (fun i => rfl) (fun i hi => (hs i hi).symm)
  refine ⟨[(i1, .ro 2 n fun i => liC (liAt get i))], [.agg (grA 0 p), .si .i64 q], [(0, .ro 2 n fun i => liC (liAt get i))], 1, [], rfl, rfl, Nat.le_of_ble_eq_true rfl, hh, rfl, rfl, fun G hG => ?_⟩
  unfold limsL
  generalize liAt get = lm
  have hE : limsL n (fun i => liC (lm i)) = (List.range n).map lm := rfl
  refine any_region fol ?_
  refine any_take 2 (g.ok _ _ _) rfl rfl rfl rfl rfl rfl rfl (by kernel_rfl) (by kernel_rfl) (by kernel_rfl) ?_
  refine any_fork [0, 1] ⟨[(11, ⟨[], .agg (grA 0 p)⟩), (14, ⟨[], .sb (isG (limsL n (fun i => liC (lm i))) q)⟩), (2, ⟨[], .sp 1 0⟩), (1, ⟨[], .si .i64 q⟩)], [], [(1, .cells 27 (grA 0 p)), (0, .ro 2 n fun i => liC (lm i))], 2, []⟩ 6 #[true, true, true, true, false, false, false, false, false, false] (g.ok _ _ _) (by kernel_rfl) (by decide) (fun K hK => ?_) ?_
  · have fin : ∀ {st : St}, WeakR 1 (fun j => j) st ⟨[(11, ⟨[], .agg (grA 0 p)⟩), (14, ⟨[], .sb (isG (limsL n (fun i => liC (lm i))) q)⟩), (2, ⟨[], .sp 1 0⟩), (1, ⟨[], .si .i64 q⟩)], [], [(1, .cells 27 (grA 0 p)), (0, .ro 2 n fun i => liC (lm i))], 2, []⟩ → AnyS _ _ 6 #[true, true, true, true, false, false, false, false, false, false] st K := fun hw => any_weaken 1 (fun j => j) hG hw hK
    have hpre : Lims n (fun i => liC (lm i)) ∧ n ≤ 1000000 := ⟨fun i hi => rfl, hn⟩
    refine ⟨?_, ?_, trivial⟩
    · skip
      refine any_step [1] (g.ok _ _ _) (by kernel_rfl) (by decide) ⟨?_, trivial⟩
      refine any_step [3] (g.ok _ _ _) (by kernel_rfl) (by decide) ⟨?_, trivial⟩
      refine Chk.mk hpre ?_
      refine fin ?_
      refine ⟨?_, ?_, rfl, rfl, rfl, rfl, trivial⟩ <;> repeat' (first | exact trivial | exact rfl | (intro i hi; exact ⟨rfl, rfl⟩) | refine And.intro ?_ ?_)
    · skip
      refine any_step [0, 3] (g.ok _ _ _) (by kernel_rfl) (by decide) ⟨?_, ?_, trivial⟩
      · skip
        refine any_step [3] (g.ok _ _ _) (by kernel_rfl) (by decide) ⟨?_, trivial⟩
        refine Chk.mk hpre ?_
        refine fin ?_
        refine ⟨?_, ?_, rfl, rfl, rfl, rfl, trivial⟩ <;> repeat' (first | exact trivial | exact rfl | (intro i hi; exact ⟨rfl, rfl⟩) | refine And.intro ?_ ?_)
      · skip
        refine Chk.mk hpre ?_
        refine any_step [0] (g.ok _ _ _) (by kernel_rfl) (by decide) ⟨?_, trivial⟩
        refine fin ?_
        refine ⟨?_, ?_, rfl, rfl, rfl, rfl, trivial⟩ <;> repeat' (first | exact trivial | exact rfl | (intro i hi; exact ⟨rfl, rfl⟩) | refine And.intro ?_ ?_)
  refine any_step [4] (g.ok _ _ _) (by kernel_rfl) (by decide) ⟨?_, trivial⟩
  refine fb_call (g.ok _ _ _) cont_any rfl rfl rfl rfl ⟨b51, ?_⟩
  rw [hE]
  generalize hq : isG ((List.range n).map lm) q = is
  refine callS_at [.agg (grA 0 p), .sb is] [(0, .ro 2 n fun i => liC (lm i))] 1 (fun j => j) (by repeat' (first | exact trivial | exact rfl | refine And.intro ?_ ?_)) rfl (by repeat' (first | exact trivial | exact rfl | (intro i hi; exact ⟨rfl, rfl⟩) | refine And.intro ?_ ?_)) rfl rfl ?_
  refine s51 hn (fun x hx => ?_)
  generalize hLm : (List.range n).map lm = Lm at hx hq hE ⊢
  cases x with
  | none =>
    have hx : errT p Lm is ≠ 0 := hx
    have hr : resU p Lm q = 0 := by unfold resU; rw [hq, if_neg hx]
    rw [hr]
    refine ⟨rfl, (by repeat' (first | exact trivial | exact rfl | refine And.intro ?_ ?_)), (by repeat' (first | exact trivial | exact rfl | (intro i hi; exact rfl) | refine And.intro ?_ ?_)), ?_⟩
    refine any_take 5 (g.ok _ _ _) rfl rfl rfl rfl rfl rfl rfl (by kernel_rfl) (by kernel_rfl) (by kernel_rfl) ?_
    refine any_take 6 (g.ok _ _ _) rfl rfl rfl rfl rfl rfl rfl (by kernel_rfl) (by kernel_rfl) (by kernel_rfl) ?_
    refine any_take 7 (g.ok _ _ _) rfl rfl rfl rfl rfl rfl rfl (by kernel_rfl) (by kernel_rfl) (by kernel_rfl) ?_
    refine any_take 8 (g.ok _ _ _) rfl rfl rfl rfl rfl rfl rfl (by kernel_rfl) (by kernel_rfl) (by kernel_rfl) ?_
    refine any_take 9 (g.ok _ _ _) rfl rfl rfl rfl rfl rfl rfl (by kernel_rfl) (by kernel_rfl) (by kernel_rfl) ?_
    refine any_done (by kernel_rfl) ?_
    refine Br.mk (fun h => ?_) (fun h => ?_)
    · exact ⟨.inl rfl, end_noid ⟨⟨rfl, rfl⟩, ⟨rfl, rfl⟩, trivial⟩ rfl rfl (by repeat' (first | exact trivial | exact rfl | (intro i hi; exact ⟨rfl, rfl⟩) | refine And.intro ?_ ?_))⟩
    · have h : (!decide (errT p Lm is = 0)) = false := h
      exact (hx (by simpa using h)).elim
  | some L =>
    obtain ⟨hx, hL⟩ : errT p Lm is = 0 ∧ L.map (·.2.2) = blk p := hx
    obtain ⟨he, hok, his, hb⟩ := errT_zero4 hx
    have hlen := en_len hok hL
    have hoks := enOk_of hok hL
    have hg := (gradeOk_b hok).1
    have hpos : 1 ≤ L.length := by
      cases L with
      | nil => exact (blk_ne hb hL.symm).elim
      | cons x r => simp
    have hqr : 0 ≤ q ∧ q < (Lm.length : Int) := by
      rw [his] at hq
      simp only [isG, inB, Bool.and_eq_true, decide_eq_true_eq] at hq
      omega
    obtain ⟨qn, rfl⟩ : ∃ k : Nat, q = (k : Int) := ⟨q.toNat, by omega⟩
    have hr : resU p Lm qn = sureV (setV (lims3 Lm) p) (upTo (qn : Int)) := by unfold resU; rw [hq, if_pos hx]
    rw [hx, hr]
    obtain ⟨c2, c0, cl, ch⟩ := sureV_cases (L := lims3 Lm) hb qn
    generalize sureV (setV (lims3 Lm) p) (upTo (qn : Int)) = U at c2 c0 cl ch ⊢
    have hall : ∀ P : B5 → Prop, (∀ b, OkB p b → P b) ↔ ∀ i, i < L.length → P (L.getD i eD).2.2 := fun P => by
      constructor
      · intro h i hi
        exact h _ (mem_blk.1 (hL ▸ List.mem_map.2 ⟨_, en_get hi, rfl⟩))
      · intro h b hb
        have := mem_blk.2 hb
        rw [← hL] at this
        obtain ⟨e, he, rfl⟩ := List.mem_map.1 this
        obtain ⟨i, hi, rfl⟩ := List.mem_iff_getElem.1 he
        have := h i hi
        simpa [List.getD, hi] using this
    have hD : ∀ i, i < L.length → ofL (lims3 Lm) (lk5 lkP (L.getD i eD).2.2) = ofL Lm (fcD (L.getD i eD).2.2) := fun i hi => (ofD_eq hg (mem_blk.1 (hL ▸ List.mem_map.2 ⟨_, en_get hi, rfl⟩))).symm
    obtain ⟨pr, hpr⟩ : ∃ pr : Nat → Bool, pr = fun i => decide (((ofL Lm (fcD (L.getD i eD).2.2) : Nat) : Int) ≤ (qn : Int)) := ⟨_, rfl⟩
    have c2 : U = 2 ↔ cntR pr L.length = L.length := by
      rw [c2, cntR_all, hall]
      constructor
      · intro h i hi
        have := h i hi
        rw [hD i hi] at this
        rw [hpr]
        exact decide_eq_true (by omega)
      · intro h i hi
        have := h i hi
        rw [hpr] at this
        have : ((ofL Lm (fcD (L.getD i eD).2.2) : Nat) : Int) ≤ (qn : Int) := of_decide_eq_true this
        rw [hD i hi]
        omega
    have c0 : U = 0 ↔ cntR pr L.length = 0 := by
      rw [c0, cntR_none, hall]
      constructor
      · intro h i hi
        have := h i hi
        rw [hD i hi] at this
        rw [hpr]
        exact decide_eq_false (by omega)
      · intro h i hi
        have := h i hi
        rw [hpr] at this
        have : ¬ ((ofL Lm (fcD (L.getD i eD).2.2) : Nat) : Int) ≤ (qn : Int) := of_decide_eq_false this
        rw [hD i hi]
        omega
    refine ⟨rfl, (by repeat' (first | exact trivial | exact rfl | refine And.intro ?_ ?_)), (by repeat' (first | exact trivial | exact rfl | (intro i hi; exact rfl) | refine And.intro ?_ ?_)), ?_⟩
    refine any_take 5 (g.ok _ _ _) rfl rfl rfl rfl rfl rfl rfl (by kernel_rfl) (by kernel_rfl) (by kernel_rfl) ?_
    refine any_take 6 (g.ok _ _ _) rfl rfl rfl rfl rfl rfl rfl (by kernel_rfl) (by kernel_rfl) (by kernel_rfl) ?_
    refine any_take 7 (g.ok _ _ _) rfl rfl rfl rfl rfl rfl rfl (by kernel_rfl) (by kernel_rfl) (by kernel_rfl) ?_
    refine any_take 8 (g.ok _ _ _) rfl rfl rfl rfl rfl rfl rfl (by kernel_rfl) (by kernel_rfl) (by kernel_rfl) ?_
    refine any_take 9 (g.ok _ _ _) rfl rfl rfl rfl rfl rfl rfl (by kernel_rfl) (by kernel_rfl) (by kernel_rfl) ?_
    refine any_done (by kernel_rfl) ?_
    refine Br.mk (fun h => (by cases h)) (fun _ => ?_)
    refine loop_okR (g.ok _ _ _) 1 (fun x : {i : Nat // i ≤ L.length} => ⟨[(1, ⟨[], .si .i64 qn⟩), (2, ⟨[], .sp 1 0⟩), (6, ⟨[], .sl 2⟩), (8, ⟨[], .si .i64 (cntR pr x.1 : Nat)⟩), (9, ⟨[], .si .i64 x.1⟩)], [], [(3, .fam 1 (famC L)), (2, .vec 73 1 L.length (oG L)), (1, .cells 27 (grA 0 p)), (0, .ro 2 n fun i => liC (lm i))], 4, []⟩) (fun x => L.length - x.1) hG ⟨0, Nat.zero_le _⟩ (fun j => j) ?_ ?_
    · refine ⟨?_, ?_, rfl, rfl, rfl, rfl, trivial⟩ <;> repeat' (first | exact trivial | exact rfl | (intro i hi; exact ⟨rfl, rfl⟩) | (intro v m g h; exact h) | refine And.intro ?_ ?_)
    rintro ⟨i, hi⟩
    have hcl := cntR_le (p := pr) (n := i)
    refine Br.mk (fun h => ?_) (fun h => ?_)
    · have h : (i : Int) < (L.length : Int) := of_decide_eq_true h
      have hil : i < L.length := by omega
      have hmem := en_get hil
      refine (show SemC _ _ _ _ from ?_)
      refine any_region fol ?_
      refine any_take 1 (g.ok _ _ _) rfl rfl rfl rfl rfl rfl rfl (by kernel_rfl) (by kernel_rfl) (by kernel_rfl) ?_
      refine any_take 2 (g.ok _ _ _) rfl rfl rfl rfl rfl rfl rfl (by kernel_rfl) (by kernel_rfl) (by kernel_rfl) ?_
      refine any_take 6 (g.ok _ _ _) rfl rfl rfl rfl rfl rfl rfl (by kernel_rfl) (by kernel_rfl) (by kernel_rfl) ?_
      have hbd : (0 : Int) ≤ (i : Int) ∧ (i : Int) < (L.length : Int) := ⟨by omega, by omega⟩
      refine any_fork [0, 3] ⟨[(27, ⟨[], .agg (grA 0 p)⟩), (31, ⟨[], .sv (slE (L.getD i eD))⟩), (33, ⟨[], .si .i64 qn⟩), (1, ⟨[], .si .i64 qn⟩), (2, ⟨[], .sp 1 0⟩), (6, ⟨[], .sl 2⟩), (8, ⟨[], .si .i64 (cntR pr i : Nat)⟩), (9, ⟨[], .si .i64 i⟩)], [], [(3, .fam 1 (famC L)), (2, .vec 73 1 L.length (oG L)), (1, .cells 27 (grA 0 p)), (0, .ro 2 n fun i => liC (lm i))], 4, []⟩ 2 #[true, true, true, true, true, false, true, false] (g.ok _ _ _) (by kernel_rfl) (by decide) (fun K hK => ?_) ?_
      · have fin : ∀ {st : St}, WeakR 1 (fun j => j) st ⟨[(27, ⟨[], .agg (grA 0 p)⟩), (31, ⟨[], .sv (slE (L.getD i eD))⟩), (33, ⟨[], .si .i64 qn⟩), (1, ⟨[], .si .i64 qn⟩), (2, ⟨[], .sp 1 0⟩), (6, ⟨[], .sl 2⟩), (8, ⟨[], .si .i64 (cntR pr i : Nat)⟩), (9, ⟨[], .si .i64 i⟩)], [], [(3, .fam 1 (famC L)), (2, .vec 73 1 L.length (oG L)), (1, .cells 27 (grA 0 p)), (0, .ro 2 n fun i => liC (lm i))], 4, []⟩ → AnyS _ _ 2 #[true, true, true, true, true, false, true, false] st K := fun hw => any_weaken 1 (fun j => j) hG hw hK
        refine ⟨?_, ?_, trivial⟩
        · skip
          refine any_step [3] (g.ok _ _ _) (by kernel_rfl) (by decide) ⟨?_, trivial⟩
          refine Chk.mk hbd ?_
          refine any_step [4] (g.ok _ _ _) (by kernel_rfl) (by decide) ⟨?_, trivial⟩
          refine fin ?_
          refine ⟨?_, ?_, rfl, rfl, rfl, rfl, trivial⟩ <;> repeat' (first | exact trivial | exact rfl | (intro i hi; exact ⟨rfl, rfl⟩) | (intro v m g h; exact h) | refine And.intro ?_ ?_)
        · skip
          refine Chk.mk hbd ?_
          refine any_step [0, 4] (g.ok _ _ _) (by kernel_rfl) (by decide) ⟨?_, ?_, trivial⟩
          · skip
            refine any_step [4] (g.ok _ _ _) (by kernel_rfl) (by decide) ⟨?_, trivial⟩
            refine fin ?_
            refine ⟨?_, ?_, rfl, rfl, rfl, rfl, trivial⟩ <;> repeat' (first | exact trivial | exact rfl | (intro i hi; exact ⟨rfl, rfl⟩) | (intro v m g h; exact h) | refine And.intro ?_ ?_)
          · skip
            refine any_step [0] (g.ok _ _ _) (by kernel_rfl) (by decide) ⟨?_, trivial⟩
            refine fin ?_
            refine ⟨?_, ?_, rfl, rfl, rfl, rfl, trivial⟩ <;> repeat' (first | exact trivial | exact rfl | (intro i hi; exact ⟨rfl, rfl⟩) | (intro v m g h; exact h) | refine And.intro ?_ ?_)
      refine any_step [5] (g.ok _ _ _) (by kernel_rfl) (by decide) ⟨?_, trivial⟩
      refine fb_focus 3 31 5 (L.getD i eD).2.1 (L.getD i eD).1 (b5G (L.getD i eD).2.2) (.sl 4) (g.ok _ _ _) cont_any rfl ⟨⟨_, hmem, rfl, rfl, rfl⟩, rfl, ?_⟩
      refine Chk.mk (show (Lims n (fun i => liC (lm i)) ∧ n ≤ 1000000) ∧ Ints 5 (b5G (L.getD i eD).2.2) ∧ 5 ≤ 1000 from ⟨⟨fun i hi => rfl, by omega⟩, ints_b5 (hoks _ hmem), by decide⟩) ?_
      refine any_take 7 (g.ok _ _ _) rfl rfl rfl rfl rfl rfl rfl (by kernel_rfl) (by kernel_rfl) (by kernel_rfl) ?_
      refine any_done (by kernel_rfl) ?_
      have hpi : decide (((ofL (limsL n (fun i => liC (lm i))) (offD (iAt (b5G (L.getD i eD).2.2)) 5, vrD (iAt (b5G (L.getD i eD).2.2)) 5 5) : Nat) : Int) ≤ (qn : Int)) = pr i := by rw [hpr, hE]; rfl
      have hstep : ∀ v, decide (((ofL (limsL n (fun i => liC (lm i))) (offD (iAt (b5G (L.getD i eD).2.2)) 5, vrD (iAt (b5G (L.getD i eD).2.2)) 5 5) : Nat) : Int) ≤ (qn : Int)) = v → cntR pr (i + 1) = cntR pr i + (if v = true then 1 else 0) := fun v hv => by rw [← hv, hpi]; rfl
      refine Br.mk (fun h2 => ?_) (fun h2 => ?_)
      · have h3 := hstep _ h2
        rw [if_pos rfl] at h3
        refine Chk.mk (show InK .i64 (((cntR pr i : Nat) : Int) + 1) from ⟨by omega, by omega⟩) (Chk.mk (show InK .i64 ((i : Int) + 1) from ⟨by omega, by omega⟩) ⟨⟨i + 1, by omega⟩, (fun j => j), ?_, by show L.length - (i + 1) < L.length - i; omega⟩)
        refine ⟨?_, ?_, rfl, rfl, rfl, rfl, trivial⟩ <;> repeat' (first | exact trivial | exact rfl | (intro i hi; exact ⟨rfl, rfl⟩) | (intro v m g h; exact h) | refine And.intro ?_ ?_)
        show ((cntR pr i : Nat) : Int) + 1 = ((cntR pr (i + 1) : Nat) : Int)
        rw [h3]; rfl
      · have h3 := hstep _ h2
        rw [if_neg (by decide)] at h3
        refine Chk.mk (show InK .i64 ((i : Int) + 1) from ⟨by omega, by omega⟩) ⟨⟨i + 1, by omega⟩, (fun j => j), ?_, by show L.length - (i + 1) < L.length - i; omega⟩
        refine ⟨?_, ?_, rfl, rfl, rfl, rfl, trivial⟩ <;> repeat' (first | exact trivial | exact rfl | (intro i hi; exact ⟨rfl, rfl⟩) | (intro v m g h; exact h) | refine And.intro ?_ ?_)
        show ((cntR pr i : Nat) : Int) = ((cntR pr (i + 1) : Nat) : Int)
        rw [h3]; rfl
    · have h : ¬ (i : Int) < (L.length : Int) := of_decide_eq_false h
      obtain rfl : i = L.length := by omega
      refine Br.mk (fun h2 => ?_) (fun h2 => ?_)
      · have h2 : ((cntR pr L.length : Nat) : Int) = (L.length : Int) := of_decide_eq_true h2
        have hU : U = 2 := c2.2 (by omega)
        rw [hU]
        exact ⟨.inl rfl, end_noid ⟨⟨rfl, rfl⟩, ⟨rfl, rfl⟩, trivial⟩ rfl rfl (by repeat' (first | exact trivial | exact rfl | (intro i hi; exact ⟨rfl, rfl⟩) | refine And.intro ?_ ?_))⟩
      have h2 : ¬ ((cntR pr L.length : Nat) : Int) = (L.length : Int) := of_decide_eq_false h2
      refine Br.mk (fun h3 => ?_) (fun h3 => ?_)
      · have h3 : ((cntR pr L.length : Nat) : Int) = 0 := of_decide_eq_true h3
        have hU : U = 0 := c0.2 (by omega)
        rw [hU]
        exact ⟨.inl rfl, end_noid ⟨⟨rfl, rfl⟩, ⟨rfl, rfl⟩, trivial⟩ rfl rfl (by repeat' (first | exact trivial | exact rfl | (intro i hi; exact ⟨rfl, rfl⟩) | refine And.intro ?_ ?_))⟩
      · have h3 : ¬ ((cntR pr L.length : Nat) : Int) = 0 := of_decide_eq_false h3
        have hU : U = 1 := by
          have n2 : ¬ U = 2 := fun e => h2 (by rw [c2.1 e])
          have n0 : ¬ U = 0 := fun e => h3 (by rw [c0.1 e]; rfl)
          omega
        rw [hU]
        exact ⟨.inl rfl, end_noid ⟨⟨rfl, rfl⟩, ⟨rfl, rfl⟩, trivial⟩ rfl rfl (by repeat' (first | exact trivial | exact rfl | (intro i hi; exact ⟨rfl, rfl⟩) | refine And.intro ?_ ?_))⟩
theorem g24 {l : List (Nat × Ct)} (g : Good P T l) : Good P T ((24, c23) :: l) := g.add (k24 g) c23_mono (body_of Try.func24 (c := code Try.f24) rfl (by decide))
end Go.X.Gr
end

section
set_option linter.unusedVariables false
set_option linter.unusedSimpArgs false
set_option linter.unusedSectionVars false
/- Grade: PointOf of the document. -/
set_option linter.unusedVariables false
set_option linter.unusedSimpArgs false
set_option maxRecDepth 10000
set_option maxHeartbeats 4000000
namespace Go.X.Gr
open Go Go.Proofs Go.X

theorem pt_eq {q : Int} (h : 0 ≤ q ∧ q < 5) {b : B5} : fun5 (ptV q) b = b5N b q.toNat := by
  have : q = 0 ∨ q = 1 ∨ q = 2 ∨ q = 3 ∨ q = 4 := by omega
  rcases this with rfl | rfl | rfl | rfl | rfl <;> rfl
theorem b5N_sm {b : B5} (h : okI b.1 ∧ okI b.2.1 ∧ okI b.2.2.1 ∧ okI b.2.2.2.1 ∧ okI b.2.2.2.2) {i : Nat} : sm (b5N b i) := (ints_b5 h (k := i + 1) i (by omega)).2
theorem k16 {l : List (Nat × Ct)} (g0 : Good P T l) : COk P 16 c15 := by
  have g := g52 (g53 good0)
  refine cok (C := tabC _) g.ok Try.func16 (c := code Try.f16) rfl fun fr args H out h hp => ?_
  unfold c15 at h
  split at h
  case h_2 => cases h
  rename_i l q
  obtain ⟨i1, p, n, get, rfl, e1, h⟩ := gradeK_some h
  cases h
  obtain ⟨hs, hn⟩ : Lims n get ∧ n ≤ 1000000 := hp
  have hh : Hand H [(i1, .ro 2 n fun i => liC (liAt get i))] := hand_one e1 (fun i => rfl) (fun i hi => (hs i hi).symm)
  refine ⟨[(i1, .ro 2 n fun i => liC (liAt get i))], [.agg (grA 0 p), .si .i64 q], [(0, .ro 2 n fun i => liC (liAt get i))], 1, [], rfl, rfl, Nat.le_of_ble_eq_true rfl, hh, rfl, rfl, fun G hG => ?_⟩
  unfold limsL
  generalize liAt get = lm
  refine any_region fol ?_
  refine any_take 1 (g.ok _ _ _) rfl rfl rfl rfl rfl rfl rfl (by kernel_rfl) (by kernel_rfl) (by kernel_rfl) ?_
  refine any_fork [0, 2] ⟨[(11, ⟨[], .agg (grA 0 p)⟩), (13, ⟨[], .sb (inB q 0 4)⟩), (2, ⟨[], .sp 1 0⟩), (4, ⟨[], .sp 2 0⟩), (1, ⟨[], .si .i64 q⟩)], [], [(2, .cells 24 [.si .i64 0, .si .i64 0]), (1, .cells 27 (grA 0 p)), (0, .ro 2 n fun i => liC (lm i))], 3, []⟩ 6 #[true, true, true, false, false, false, false, false, false] (g.ok _ _ _) (by kernel_rfl) (by decide) (fun K hK => ?_) ?_
  · have fin : ∀ {st : St}, WeakR 1 (fun j => j) st ⟨[(11, ⟨[], .agg (grA 0 p)⟩), (13, ⟨[], .sb (inB q 0 4)⟩), (2, ⟨[], .sp 1 0⟩), (4, ⟨[], .sp 2 0⟩), (1, ⟨[], .si .i64 q⟩)], [], [(2, .cells 24 [.si .i64 0, .si .i64 0]), (1, .cells 27 (grA 0 p)), (0, .ro 2 n fun i => liC (lm i))], 3, []⟩ → AnyS _ _ 6 #[true, true, true, false, false, false, false, false, false] st K := fun hw => any_weaken 1 (fun j => j) hG hw hK
    refine ⟨?_, ?_, trivial⟩
    · skip
      refine any_step [2] (g.ok _ _ _) (by kernel_rfl) (by decide) ⟨?_, trivial⟩
      refine fin ?_
      refine ⟨?_, ?_, rfl, rfl, rfl, rfl, trivial⟩ <;> repeat' (first | exact trivial | exact rfl | (intro i hi; exact ⟨rfl, rfl⟩) | (intro v m g h; exact h) | refine And.intro ?_ ?_)
    · skip
      refine any_step [0] (g.ok _ _ _) (by kernel_rfl) (by decide) ⟨?_, trivial⟩
      refine fin ?_
      refine ⟨?_, ?_, rfl, rfl, rfl, rfl, trivial⟩ <;> repeat' (first | exact trivial | exact rfl | (intro i hi; exact ⟨rfl, rfl⟩) | (intro v m g h; exact h) | refine And.intro ?_ ?_)
  refine any_step [3] (g.ok _ _ _) (by kernel_rfl) (by decide) ⟨?_, trivial⟩
  refine fb_call (g.ok _ _ _) cont_any rfl rfl rfl rfl ⟨b51, ?_⟩
  generalize hq : inB q 0 4 = is
  refine callS_at [.agg (grA 0 p), .sb is] [(0, .ro 2 n fun i => liC (lm i))] 1 (fun j => j) (by repeat' (first | exact trivial | exact rfl | refine And.intro ?_ ?_)) rfl (by repeat' (first | exact trivial | exact rfl | (intro i hi; exact ⟨rfl, rfl⟩) | refine And.intro ?_ ?_)) rfl rfl ?_
  refine s51 hn (fun x hx => ?_)
  generalize hLm : (List.range n).map lm = Lm at hx ⊢
  rw [errS_T]
  cases x with
  | none =>
    have hx : errT p Lm is ≠ 0 := hx
    rw [resS_ne hx]
    refine ⟨rfl, (by repeat' (first | exact trivial | exact rfl | refine And.intro ?_ ?_)), (by repeat' (first | exact trivial | exact rfl | (intro i hi; exact rfl) | refine And.intro ?_ ?_)), ?_⟩
    refine any_take 4 (g.ok _ _ _) rfl rfl rfl rfl rfl rfl rfl (by kernel_rfl) (by kernel_rfl) (by kernel_rfl) ?_
    refine any_take 5 (g.ok _ _ _) rfl rfl rfl rfl rfl rfl rfl (by kernel_rfl) (by kernel_rfl) (by kernel_rfl) ?_
    refine any_take 6 (g.ok _ _ _) rfl rfl rfl rfl rfl rfl rfl (by kernel_rfl) (by kernel_rfl) (by kernel_rfl) ?_
    refine any_take 7 (g.ok _ _ _) rfl rfl rfl rfl rfl rfl rfl (by kernel_rfl) (by kernel_rfl) (by kernel_rfl) ?_
    refine any_take 8 (g.ok _ _ _) rfl rfl rfl rfl rfl rfl rfl (by kernel_rfl) (by kernel_rfl) (by kernel_rfl) ?_
    refine any_done (by kernel_rfl) ?_
    refine Br.mk (fun h => ?_) (fun h => ?_)
    · exact ⟨.inl rfl, end_noid ⟨⟨⟨rfl, rfl⟩, ⟨rfl, rfl⟩, trivial⟩, ⟨rfl, rfl⟩, trivial⟩ rfl rfl (by repeat' (first | exact trivial | exact rfl | (intro i hi; exact ⟨rfl, rfl⟩) | refine And.intro ?_ ?_))⟩
    · have h : (!decide (errT p Lm is = 0)) = false := h
      exact (hx (by simpa using h)).elim
  | some L =>
    obtain ⟨hx, hL⟩ : errT p Lm is = 0 ∧ L.map (·.2.2) = blk p := hx
    obtain ⟨he, hok, his, hb⟩ := errT_zero4 hx
    have hqr : 0 ≤ q ∧ q < 5 := by
      rw [his] at hq
      simp only [inB, Bool.and_eq_true, decide_eq_true_eq] at hq
      omega
    have hr : resS (ptV q) p Lm is = hlV (fun i => fun5 (ptV q) (L.getD i eD).2.2) L.length := by
      rw [hull_span hL (blk_ne hb), resS, if_pos he]
    rw [hx, hr]
    have hlen := en_len hok hL
    have hoks := enOk_of hok hL
    have hpos : 1 ≤ L.length := by
      cases L with
      | nil => exact (blk_ne hb hL.symm).elim
      | cons x r => simp
    have hfun : (fun i => fun5 (ptV q) (L.getD i eD).2.2) = fun j => b5N (L.getD j eD).2.2 q.toNat := by funext j; exact pt_eq hqr
    rw [hfun]
    refine ⟨rfl, (by repeat' (first | exact trivial | exact rfl | refine And.intro ?_ ?_)), (by repeat' (first | exact trivial | exact rfl | (intro i hi; exact rfl) | refine And.intro ?_ ?_)), ?_⟩
    refine any_take 4 (g.ok _ _ _) rfl rfl rfl rfl rfl rfl rfl (by kernel_rfl) (by kernel_rfl) (by kernel_rfl) ?_
    refine any_take 5 (g.ok _ _ _) rfl rfl rfl rfl rfl rfl rfl (by kernel_rfl) (by kernel_rfl) (by kernel_rfl) ?_
    refine any_take 6 (g.ok _ _ _) rfl rfl rfl rfl rfl rfl rfl (by kernel_rfl) (by kernel_rfl) (by kernel_rfl) ?_
    refine any_take 7 (g.ok _ _ _) rfl rfl rfl rfl rfl rfl rfl (by kernel_rfl) (by kernel_rfl) (by kernel_rfl) ?_
    refine any_take 8 (g.ok _ _ _) rfl rfl rfl rfl rfl rfl rfl (by kernel_rfl) (by kernel_rfl) (by kernel_rfl) ?_
    refine any_done (by kernel_rfl) ?_
    refine Br.mk (fun h => (by cases h)) (fun _ => ?_)
    refine nil_slot 8 3 1 (fun j => iC (b5N (L.getD j eD).2.2 q.toNat)) rfl ?_
    refine loop_okR (g.ok _ _ _) 1 (fun x : {i : Nat // i ≤ L.length} => ⟨[(1, ⟨[], .si .i64 q⟩), (4, ⟨[], .sp 2 0⟩), (6, ⟨[], .sl 3⟩), (8, ⟨[], .sl 5⟩), (9, ⟨[], .si .i64 x.1⟩)], [], [(5, .vec 3 1 x.1 fun j => iC (b5N (L.getD j eD).2.2 q.toNat)), (4, .fam 1 (famC L)), (3, .vec 73 1 L.length (oG L)), (2, .cells 24 [.si .i64 0, .si .i64 0]), (0, .ro 2 n fun i => liC (lm i))], 6, []⟩) (fun x => L.length - x.1) hG ⟨0, Nat.zero_le _⟩ (fun j => j) ?_ ?_
    · refine ⟨?_, ?_, rfl, rfl, rfl, rfl, trivial⟩ <;> repeat' (first | exact trivial | exact rfl | (intro i hi; exact ⟨rfl, rfl⟩) | (intro v m g h; exact h) | refine And.intro ?_ ?_)
      all_goals (intro i hi; exact absurd hi (Nat.not_lt_zero _))
    rintro ⟨i, hi⟩
    refine Br.mk (fun h => ?_) (fun h => ?_)
    · have h : (i : Int) < (L.length : Int) := of_decide_eq_true h
      have hil : i < L.length := by omega
      have hmem := en_get hil
      refine Chk.mk (show (0 : Int) ≤ (i : Int) ∧ (i : Int) < (L.length : Int) from ⟨by omega, by omega⟩) ?_
      refine fb_focus 4 31 5 (L.getD i eD).2.1 (L.getD i eD).1 (b5G (L.getD i eD).2.2) (.sl 6) (g.ok _ _ _) cont_std rfl ⟨⟨_, hmem, rfl, rfl, rfl⟩, rfl, ?_⟩
      refine Chk.mk (show (0 : Int) ≤ q ∧ q < (5 : Nat) from ⟨by omega, by omega⟩) ?_
      refine fb_append (Te := 0) 5 7 i 1 _ _ (fun j => iC (b5N (L.getD j eD).2.2 q.toNat)) (g.ok _ _ _) cont_std rfl rfl rfl rfl rfl rfl rfl rfl rfl rfl rfl rfl (by decide) (by decide) rfl rfl rfl rfl (by omega) ?_ ?_
      · intro j hj
        split
        · rfl
        · have e1 : j - i = 0 := by omega
          have e2 : j = i := by omega
          rw [e1, e2]; rfl
      refine Chk.mk (show InK .i64 ((i : Int) + 1) from ⟨by omega, by omega⟩) ⟨⟨i + 1, by omega⟩, (fun j => match j with | 5 => 8 | j => j), ?_, by show L.length - (i + 1) < L.length - i; omega⟩
      refine ⟨?_, ?_, rfl, rfl, rfl, rfl, trivial⟩ <;> repeat' (first | exact trivial | exact rfl | (intro i hi; exact ⟨rfl, rfl⟩) | (intro v m g h; exact h) | refine And.intro ?_ ?_)
    · have h : ¬ (i : Int) < (L.length : Int) := of_decide_eq_false h
      obtain rfl : i = L.length := by omega
      refine Chk.mk (show Ints L.length (fun j => iC (b5N (L.getD j eD).2.2 q.toNat)) ∧ 1 ≤ L.length ∧ L.length ≤ 1000000 from ⟨f5_int (F := varV) (L := L) fun j hj => b5N_sm (hoks _ (en_get hj)), hpos, by omega⟩) ?_
      exact ⟨.inl rfl, end_noid ⟨⟨⟨rfl, rfl⟩, ⟨rfl, rfl⟩, trivial⟩, ⟨rfl, rfl⟩, trivial⟩ rfl rfl (by repeat' (first | exact trivial | exact rfl | (intro i hi; exact ⟨rfl, rfl⟩) | refine And.intro ?_ ?_))⟩
theorem g16 {l : List (Nat × Ct)} (g : Good P T l) : Good P T ((16, c15) :: l) := g.add (k16 g) c15_mono (body_of Try.func16 (c := code Try.f16) rfl (by decide))
end Go.X.Gr
end
