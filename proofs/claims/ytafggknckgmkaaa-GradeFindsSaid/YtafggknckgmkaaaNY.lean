/- Contracts of functions of the document: sets of grades, VariesOf, OffOf, Grades, Sure, PointOf. -/
import Derived.Test.YtafggknckgmkaaaNX
import Derived.Test.YtafggknckgmkaaaNB
import Derived.Test.YtafggknckgmkaaaNH

section
set_option linter.unusedVariables false
set_option linter.unusedSimpArgs false
set_option linter.unusedSectionVars false
/- Grade: the set of the grades of some truths. -/
set_option linter.unusedVariables false
set_option linter.unusedSimpArgs false
set_option maxRecDepth 10000
set_option maxHeartbeats 4000000
namespace Go.X.Gr
open Go Go.Proofs Go.X

/-- The face of a block, as the document finds it. -/
def fcD (b : B5) : Fc := (offD (b5N b) 5, vrD (b5N b) 5 5)
def setF (Ls : List (Int × Int)) (bs : List B5) : Nat := bs.foldl (fun s b => s ||| 2 ^ ofL Ls (fcD b)) 0
theorem or_pow : ∀ s : _root_.Fin 32, ∀ n : _root_.Fin 5, (if hasV s.1 n.1 = true then s.1 else s.1 + 2 ^ n.1) = s.1 ||| 2 ^ n.1 ∧ s.1 ||| 2 ^ n.1 < 32 := by decide
theorem or_pow' {s n : Nat} (hs : s < 32) (hn : n < 5) : (if hasV s n = true then s else s + 2 ^ n) = s ||| 2 ^ n ∧ s ||| 2 ^ n < 32 := or_pow ⟨s, hs⟩ ⟨n, hn⟩
theorem setF_snoc {Ls : List (Int × Int)} {bs : List B5} {b : B5} : setF Ls (bs ++ [b]) = setF Ls bs ||| 2 ^ ofL Ls (fcD b) := by unfold setF; rw [List.foldl_append]; rfl
theorem b63 : Body P 63 := body_of Try.func63 (c := code Try.f63) rfl (by decide)
def enOk (L : List En) : Prop := ∀ e ∈ L, okI e.2.2.1 ∧ okI e.2.2.2.1 ∧ okI e.2.2.2.2.1 ∧ okI e.2.2.2.2.2.1 ∧ okI e.2.2.2.2.2.2
theorem en_get {L : List En} {i : Nat} (hi : i < L.length) : L.getD i eD ∈ L := by
  simp [List.getD, hi]
theorem take_getD {L : List En} {i : Nat} (hi : i < L.length) : (L.take (i + 1)).map (·.2.2) = (L.take i).map (·.2.2) ++ [(L.getD i eD).2.2] := by
  rw [List.take_add_one, List.map_append]
  simp [List.getD, hi]
def tHC (C : Value → Nat → (Nat → List SV) → Prop) (L : List En) (n : Nat) (l : Nat → Int × Int) : List (Nat × HB) := [(1, .vec 73 1 L.length (oG L)), (2, .fam 1 C), (0, .ro 2 n fun i => liC (l i))]
theorem s63 {p : Pts} {n : Nat} {l : Nat → Int × Int} (hn : n ≤ 4) {L : List En} {C : Value → Nat → (Nat → List SV) → Prop} (hC : ∀ e ∈ L, C (slE e) 5 (b5G e.2.2)) (hL : L.length ≤ 900000) (hok : enOk L) {Rv : SV → List (Nat × HB) → Nat → Prop} {Rp : List PanicEntry → List (Nat × HB) → Nat → Prop}
    (hRv : Rv (.si .i64 (setF ((List.range n).map l) (L.map (·.2.2)) : Nat)) (tHC C L n l) 3) : CallS P 63 [.agg (grA 0 p), .sl 1] (tHC C L n l) 3 Rv Rp := by
  have g := g67 (g96 (g97 good0))
  refine callS_to g.ok Try.func63 (c := code Try.f63) rfl (Nat.le_of_ble_eq_true rfl) _ _ _ (fun G hG => ?_) hRv
  have hofl : ∀ f, ofL ((List.range n).map l) f < 5 := fun f => by
    have := List.findIdx_le_length (p := fun l => keepsP f l) (xs := (List.range n).map l)
    rw [List.length_map, List.length_range] at this
    unfold ofL
    omega
  have hE : limsL n (fun i => liC (l i)) = (List.range n).map l := rfl
  generalize hLs : (List.range n).map l = Ls at hofl hE ⊢
  refine loop_okR (g.ok _ _ _) 3 (fun x : {x : Nat × Nat // x.1 ≤ L.length ∧ x.2 = setF Ls ((L.take x.1).map (·.2.2)) ∧ x.2 < 32} => ⟨[(1, ⟨[], .sl 1⟩), (2, ⟨[], .sp 3 0⟩), (5, ⟨[], .si .i64 (x.1.2 : Nat)⟩), (6, ⟨[], .si .i64 (x.1.1 : Nat)⟩)], [], (3, .cells 27 (grA 0 p)) :: tHC C L n l, 4, []⟩) (fun x => L.length - x.1.1) hG
    ⟨(0, 0), Nat.zero_le _, rfl, by decide⟩ (fun j => j) ?_ ?_
  · refine ⟨?_, ?_, rfl, rfl, rfl, rfl, trivial⟩ <;> repeat' (first | exact trivial | exact rfl | (intro i hi; exact ⟨rfl, rfl⟩) | (intro v m g h; exact h) | refine And.intro ?_ ?_)
  rintro ⟨⟨i, s⟩, hi, hs, hs32⟩
  refine Br.mk (fun h => ?_) (fun h => ?_)
  · have h : (i : Int) < (L.length : Int) := of_decide_eq_true h
    have hil : i < L.length := by omega
    have hmem := en_get hil
    refine drawn_ok (g.ok _ _ _) fol [0,0,0,6,14,31,63] [] 5 (by kernel_rfl) ?_
    refine Chk.mk (show (0 : Int) ≤ (i : Int) ∧ (i : Int) < (L.length : Int) from ⟨by omega, by omega⟩) ?_
    refine fb_focus 2 18 5 (L.getD i eD).2.1 (L.getD i eD).1 (b5G (L.getD i eD).2.2) (.sl 24) (g.ok _ _ _) cont_std rfl ⟨hC _ hmem, rfl, ?_⟩
    refine Chk.mk (show (Lims n (fun i => liC (l i)) ∧ n ≤ 1000000) ∧ Ints 5 (b5G (L.getD i eD).2.2) ∧ 5 ≤ 1000 from ⟨⟨fun i hi => rfl, by omega⟩, ints_b5 (hok _ hmem), by decide⟩) ?_
    have hx := hofl (fcD (L.getD i eD).2.2)
    obtain ⟨x, hxe⟩ : ∃ x, ofL Ls (fcD (L.getD i eD).2.2) = x := ⟨_, rfl⟩
    have hxe' : ofL (limsL n (fun i => liC (l i))) (offD (iAt (b5G (L.getD i eD).2.2)) 5, vrD (iAt (b5G (L.getD i eD).2.2)) 5 5) = x := by rw [← hxe, hE]; rfl
    have hnext : s ||| 2 ^ x = setF Ls ((L.take (i + 1)).map (·.2.2)) := by rw [take_getD hil, setF_snoc, hxe, ← hs]
    rw [hxe] at hx
    have hor := or_pow' hs32 hx
    refine Chk.mk ?_ ?_
    · show ((0 : Int) ≤ (s : Int) ∧ (s : Int) < 4611686018427387904) ∧ (0 : Int) ≤ ((ofL (limsL n (fun i => liC (l i))) (offD (iAt (b5G (L.getD i eD).2.2)) 5, vrD (iAt (b5G (L.getD i eD).2.2)) 5 5) : Nat) : Int) ∧ ((ofL (limsL n (fun i => liC (l i))) (offD (iAt (b5G (L.getD i eD).2.2)) 5, vrD (iAt (b5G (L.getD i eD).2.2)) 5 5) : Nat) : Int) ≤ 40
      rw [hxe']
      omega
    refine Br.mk (fun h2 => ?_) (fun h2 => ?_)
    · have h2 : (!hasV s (ofL (limsL n (fun i => liC (l i))) (offD (iAt (b5G (L.getD i eD).2.2)) 5, vrD (iAt (b5G (L.getD i eD).2.2)) 5 5))) = true := h2
      rw [hxe'] at h2
      have h2 : hasV s x = false := by simpa using h2
      rw [if_neg (by rw [h2]; decide)] at hor
      have hp16 : 2 ^ x ≤ 16 := Nat.le_trans (Nat.pow_le_pow_right (by decide) (show x ≤ 4 by omega)) (by decide)
      refine Chk.mk ?_ (Chk.mk ?_ ?_)
      · show (0 : Int) ≤ ((ofL (limsL n (fun i => liC (l i))) (offD (iAt (b5G (L.getD i eD).2.2)) 5, vrD (iAt (b5G (L.getD i eD).2.2)) 5 5) : Nat) : Int) ∧ ((ofL (limsL n (fun i => liC (l i))) (offD (iAt (b5G (L.getD i eD).2.2)) 5, vrD (iAt (b5G (L.getD i eD).2.2)) 5 5) : Nat) : Int) ≤ 40
        rw [hxe']
        omega
      · show InK .i64 ((s : Int) + ((2 ^ ((ofL (limsL n (fun i => liC (l i))) (offD (iAt (b5G (L.getD i eD).2.2)) 5, vrD (iAt (b5G (L.getD i eD).2.2)) 5 5) : Nat) : Int).toNat : Nat) : Int))
        rw [hxe', Int.toNat_natCast]
        generalize 2 ^ x = z at hp16
        exact ⟨by omega, by omega⟩
      refine Chk.mk (show InK .i64 ((i : Int) + 1) from ⟨by omega, by omega⟩) ⟨⟨(i + 1, s ||| 2 ^ x), by omega, hnext, hor.2⟩, (fun j => j), ?_, by show L.length - (i + 1) < L.length - i; omega⟩
      refine ⟨?_, ?_, rfl, rfl, rfl, rfl, trivial⟩ <;> repeat' (first | exact trivial | exact rfl | (intro i hi; exact ⟨rfl, rfl⟩) | (intro v m g h; exact h) | refine And.intro ?_ ?_)
      show (s : Int) + ((2 ^ ((ofL (limsL n (fun i => liC (l i))) (offD (iAt (b5G (L.getD i eD).2.2)) 5, vrD (iAt (b5G (L.getD i eD).2.2)) 5 5) : Nat) : Int).toNat : Nat) : Int) = ((s ||| 2 ^ x : Nat) : Int)
      rw [hxe', Int.toNat_natCast, ← hor.1]
      exact (Int.natCast_add _ _).symm
    · have h2 : (!hasV s (ofL (limsL n (fun i => liC (l i))) (offD (iAt (b5G (L.getD i eD).2.2)) 5, vrD (iAt (b5G (L.getD i eD).2.2)) 5 5))) = false := h2
      rw [hxe'] at h2
      have h2 : hasV s x = true := by simpa using h2
      rw [if_pos h2] at hor
      refine Chk.mk (show InK .i64 ((i : Int) + 1) from ⟨by omega, by omega⟩) ⟨⟨(i + 1, s), by omega, by rw [← hnext]; exact hor.1, hs32⟩, (fun j => j), ?_, by show L.length - (i + 1) < L.length - i; omega⟩
      refine ⟨?_, ?_, rfl, rfl, rfl, rfl, trivial⟩ <;> repeat' (first | exact trivial | exact rfl | (intro i hi; exact ⟨rfl, rfl⟩) | (intro v m g h; exact h) | refine And.intro ?_ ?_)
  · have h : ¬ (i : Int) < (L.length : Int) := of_decide_eq_false h
    obtain rfl : i = L.length := by omega
    have hs : s = setF Ls ((L.take L.length).map (·.2.2)) := hs
    rw [List.take_length] at hs
    refine ⟨(fun j => j), ?_, ?_, rfl, rfl, rfl, rfl⟩ <;> repeat' (first | exact trivial | exact rfl | (intro i hi; exact ⟨rfl, rfl⟩) | (intro v m g h; exact h) | refine And.intro ?_ ?_)
    show (s : Int) = _
    rw [hs]
end Go.X.Gr
end

section
set_option linter.unusedVariables false
set_option linter.unusedSimpArgs false
set_option linter.unusedSectionVars false
/- Grade: hull of the document, and how far its faces are those of the program. -/
set_option linter.unusedVariables false
set_option linter.unusedSimpArgs false
set_option maxRecDepth 10000
set_option maxHeartbeats 4000000
namespace Go.X.Gr
open Go Go.Proofs Go.X

theorem max5_cases (a0 a1 a2 a3 a4 : Int) : (a0 ≤ max5 a0 a1 a2 a3 a4 ∧ a1 ≤ max5 a0 a1 a2 a3 a4 ∧ a2 ≤ max5 a0 a1 a2 a3 a4 ∧ a3 ≤ max5 a0 a1 a2 a3 a4 ∧ a4 ≤ max5 a0 a1 a2 a3 a4) ∧
    (max5 a0 a1 a2 a3 a4 = a0 ∨ max5 a0 a1 a2 a3 a4 = a1 ∨ max5 a0 a1 a2 a3 a4 = a2 ∨ max5 a0 a1 a2 a3 a4 = a3 ∨ max5 a0 a1 a2 a3 a4 = a4) := by
  unfold max5
  obtain ⟨x, hx⟩ : ∃ x, max a0 a1 = x := ⟨_, rfl⟩
  rw [hx]
  obtain ⟨y, hy⟩ : ∃ y, max x a2 = y := ⟨_, rfl⟩
  rw [hy]
  obtain ⟨z, hz⟩ : ∃ z, max y a3 = z := ⟨_, rfl⟩
  rw [hz]
  omega
theorem offD_ge {f : Nat → Int} : ∀ {n : Nat}, 0 ≤ offD f n ∧ ∀ i, i < n → f i ≤ offD f n ∧ 0 - f i ≤ offD f n
  | 0 => ⟨Int.le_refl _, fun i hi => absurd hi (Nat.not_lt_zero _)⟩
  | n + 1 => by
    obtain ⟨h1, h2⟩ := offD_ge (f := f) (n := n)
    have e : offD f (n + 1) = max (offD f n) (max (f n - 0) (0 - f n)) := rfl
    rw [e]
    refine ⟨by omega, fun i hi => ?_⟩
    by_cases h : i = n
    · subst h; omega
    · have := h2 i (by omega); omega
theorem offD_le {f : Nat → Int} {c : Int} (hc : 0 ≤ c) : ∀ {n : Nat}, (∀ i, i < n → f i ≤ c ∧ 0 - f i ≤ c) → offD f n ≤ c
  | 0, _ => hc
  | n + 1, h => by
    have h1 := offD_le hc (f := f) (n := n) fun i hi => h i (by omega)
    have h2 := h n (by omega)
    have e : offD f (n + 1) = max (offD f n) (max (f n - 0) (0 - f n)) := rfl
    rw [e]
    omega
theorem vrO_ge {f : Nat → Int} {o x : Int} : ∀ {n : Nat}, o ≤ vrO f o x n ∧ ∀ k, k < n → x - f k ≤ vrO f o x n
  | 0 => ⟨Int.le_refl _, fun i hi => absurd hi (Nat.not_lt_zero _)⟩
  | n + 1 => by
    obtain ⟨h1, h2⟩ := vrO_ge (f := f) (o := o) (x := x) (n := n)
    have e : vrO f o x (n + 1) = max (vrO f o x n) (x - f n) := rfl
    rw [e]
    refine ⟨by omega, fun i hi => ?_⟩
    by_cases h : i = n
    · subst h; omega
    · have := h2 i (by omega); omega
theorem vrO_le {f : Nat → Int} {o x c : Int} (ho : o ≤ c) : ∀ {n : Nat}, (∀ k, k < n → x - f k ≤ c) → vrO f o x n ≤ c
  | 0, _ => ho
  | n + 1, h => by
    have h1 := vrO_le ho (f := f) (x := x) (n := n) fun i hi => h i (by omega)
    have h2 := h n (by omega)
    have e : vrO f o x (n + 1) = max (vrO f o x n) (x - f n) := rfl
    rw [e]
    omega
theorem vrD_ge {f : Nat → Int} {n : Nat} : ∀ {m : Nat}, 0 ≤ vrD f n m ∧ ∀ i k, i < m → k < n → f i - f k ≤ vrD f n m
  | 0 => ⟨Int.le_refl _, fun i k hi => absurd hi (Nat.not_lt_zero _)⟩
  | m + 1 => by
    obtain ⟨h1, h2⟩ := vrD_ge (f := f) (n := n) (m := m)
    have e : vrD f n (m + 1) = vrO f (vrD f n m) (f m) n := rfl
    obtain ⟨k1, k2⟩ := vrO_ge (f := f) (o := vrD f n m) (x := f m) (n := n)
    rw [e]
    refine ⟨by omega, fun i k hi hk => ?_⟩
    by_cases h : i = m
    · subst h; exact k2 k hk
    · have := h2 i k (by omega) hk; omega
theorem vrD_le {f : Nat → Int} {n : Nat} {c : Int} (hc : 0 ≤ c) : ∀ {m : Nat}, (∀ i k, i < m → k < n → f i - f k ≤ c) → vrD f n m ≤ c
  | 0, _ => hc
  | m + 1, h => vrO_le (vrD_le hc (m := m) fun i k hi hk => h i k (by omega) hk) fun k hk => h m k (by omega) hk
theorem b5N_cases {b : B5} {i : Nat} (hi : i < 5) : b5N b i = b.1 ∨ b5N b i = b.2.1 ∨ b5N b i = b.2.2.1 ∨ b5N b i = b.2.2.2.1 ∨ b5N b i = b.2.2.2.2 := by
  have : i = 0 ∨ i = 1 ∨ i = 2 ∨ i = 3 ∨ i = 4 := by omega
  rcases this with rfl | rfl | rfl | rfl | rfl <;> simp [b5N]
theorem offD_eq {b : B5} : offD (b5N b) 5 = fun5 offV b := by
  obtain ⟨h0, h⟩ := offD_ge (f := b5N b) (n := 5)
  have g0 := h 0 (by decide); have g1 := h 1 (by decide); have g2 := h 2 (by decide); have g3 := h 3 (by decide); have g4 := h 4 (by decide)
  simp only [b5N] at g0 g1 g2 g3 g4
  obtain ⟨m1, m2⟩ := max5_cases b.1 b.2.1 b.2.2.1 b.2.2.2.1 b.2.2.2.2
  obtain ⟨k1, k2⟩ := max5_cases (0 - b.1) (0 - b.2.1) (0 - b.2.2.1) (0 - b.2.2.2.1) (0 - b.2.2.2.2)
  have e : fun5 offV b = max (max5 b.1 b.2.1 b.2.2.1 b.2.2.2.1 b.2.2.2.2) (max5 (0 - b.1) (0 - b.2.1) (0 - b.2.2.1) (0 - b.2.2.2.1) (0 - b.2.2.2.2)) := rfl
  rw [e]
  generalize max5 b.1 b.2.1 b.2.2.1 b.2.2.2.1 b.2.2.2.2 = M at m1 m2
  generalize max5 (0 - b.1) (0 - b.2.1) (0 - b.2.2.1) (0 - b.2.2.2.1) (0 - b.2.2.2.2) = N at k1 k2
  refine Int.le_antisymm (offD_le (by omega) fun i hi => ?_) ?_
  · have := b5N_cases (b := b) hi
    omega
  · omega
theorem vrD_eq {b : B5} : vrD (b5N b) 5 5 = fun5 varV b := by
  obtain ⟨h0, h⟩ := vrD_ge (f := b5N b) (n := 5) (m := 5)
  obtain ⟨m1, m2⟩ := max5_cases b.1 b.2.1 b.2.2.1 b.2.2.2.1 b.2.2.2.2
  obtain ⟨k1, k2⟩ := max5_cases (0 - b.1) (0 - b.2.1) (0 - b.2.2.1) (0 - b.2.2.2.1) (0 - b.2.2.2.2)
  have e : fun5 varV b = max5 b.1 b.2.1 b.2.2.1 b.2.2.2.1 b.2.2.2.2 + max5 (0 - b.1) (0 - b.2.1) (0 - b.2.2.1) (0 - b.2.2.2.1) (0 - b.2.2.2.2) := rfl
  rw [e]
  generalize max5 b.1 b.2.1 b.2.2.1 b.2.2.2.1 b.2.2.2.2 = M at m1 m2
  generalize max5 (0 - b.1) (0 - b.2.1) (0 - b.2.2.1) (0 - b.2.2.2.1) (0 - b.2.2.2.2) = N at k1 k2
  refine Int.le_antisymm (vrD_le (by omega) fun i k hi hk => ?_) ?_
  · have q1 : b5N b i ≤ M := by have := b5N_cases (b := b) hi; omega
    have q2 : 0 - b5N b k ≤ N := by have := b5N_cases (b := b) hk; omega
    omega
  · obtain ⟨i, hi, ei⟩ : ∃ i, i < 5 ∧ b5N b i = M := by
      rcases m2 with h | h | h | h | h
      · exact ⟨0, by decide, h.symm⟩
      · exact ⟨1, by decide, h.symm⟩
      · exact ⟨2, by decide, h.symm⟩
      · exact ⟨3, by decide, h.symm⟩
      · exact ⟨4, by decide, h.symm⟩
    obtain ⟨k, hk, ek⟩ : ∃ k, k < 5 ∧ 0 - b5N b k = N := by
      rcases k2 with h | h | h | h | h
      · exact ⟨0, by decide, h.symm⟩
      · exact ⟨1, by decide, h.symm⟩
      · exact ⟨2, by decide, h.symm⟩
      · exact ⟨3, by decide, h.symm⟩
      · exact ⟨4, by decide, h.symm⟩
    have := h i k hi hk
    omega
theorem fcD_eq {b : B5} : fcD b = lk5 lkP b := by
  unfold fcD
  rw [offD_eq, vrD_eq]
  rfl

/-! ### hull -/
end Go.X.Gr
end

section
set_option linter.unusedVariables false
set_option linter.unusedSimpArgs false
set_option linter.unusedSectionVars false
/- Grade: VariesOf, OffOf, Grades of the document. -/
set_option linter.unusedVariables false
set_option linter.unusedSimpArgs false
set_option maxRecDepth 10000
set_option maxHeartbeats 4000000
namespace Go.X.Gr
open Go Go.Proofs Go.X

theorem enOk_of {g : Pts} {L : List (Int × Int)} {E : List En} (h : gradeOk g L = true) (hE : E.map (·.2.2) = blk g) : enOk E := fun e he => by
  have hm : e.2.2 ∈ blk g := hE ▸ List.mem_map.2 ⟨e, he, rfl⟩
  exact (mem_blk.1 hm).ok (gradeOk_b h).1
theorem en_len {g : Pts} {L : List (Int × Int)} {E : List En} (h : gradeOk g L = true) (hE : E.map (·.2.2) = blk g) : E.length ≤ 16807 := by
  have := congrArg List.length hE
  rw [List.length_map] at this
  rw [this]
  exact blk_len (gradeOk_narrow h)
theorem errT_zero4 {g : Pts} {L : List (Int × Int)} {q : Bool} (h : errT g L q = 0) : errG g L q = 0 ∧ gradeOk g L = true ∧ q = true ∧ hasB g = true := by
  unfold errT at h
  split at h
  · rename_i h1
    split at h
    · rename_i h2
      exact ⟨h1, (errG_zero h1).1, (errG_zero h1).2, h2⟩
    · cases h
  · rename_i h1; exact (h1 h).elim
end Go.X.Gr
end

section
set_option linter.unusedVariables false
set_option linter.unusedSimpArgs false
set_option linter.unusedSectionVars false
/- Grade: Grades of the document; the set of grades is that of the program. -/
set_option linter.unusedVariables false
set_option linter.unusedSimpArgs false
set_option maxRecDepth 10000
set_option maxHeartbeats 4000000
namespace Go.X.Gr
open Go Go.Proofs Go.X

theorem of3_eq {L : List (Int × Int)} {f : Fc} (hf : f.1 ≤ 40 ∧ f.2 ≤ 40) : ofL (lims3 L) f = ofL L f := by
  have hk : keepsP f (40, 40) = true := by simp [keepsP, keepsB, hf.1, hf.2]
  unfold ofL lims3
  rw [List.findIdx_append]
  split
  · rfl
  · rename_i h
    have h1 : L.findIdx (fun l => keepsP f l) = L.length := by
      refine List.findIdx_eq_length.2 fun x hx => ?_
      cases e : keepsP f x with
      | false => rfl
      | true => exact (h (List.findIdx_lt_length_of_exists ⟨x, hx, e⟩)).elim
    rw [h1]
    simp [List.findIdx_cons, hk]
theorem face40 {g : Pts} {b : B5} (hg : ptsB g) (h : OkB g b) : (lk5 lkP b).1 ≤ 40 ∧ (lk5 lkP b).2 ≤ 40 := face_b hg _ (by
  have := faces_mem (L := lkP) (g := g) (f := lk5 lkP b)
  obtain ⟨p, hp, e⟩ := List.mem_map.1 (this.2 ⟨b, h, rfl⟩)
  obtain ⟨x, y⟩ := p
  cases e
  have hy : y = true := by
    have key : ∀ (l : List B5) (c : List (Fc × Bool)), (∀ q ∈ c, q.2 = true) → ∀ q ∈ l.foldl (fun c b => (f5 (fFaces lkP) c b).1) c, q.2 = true := by
      intro l
      induction l with
      | nil => intro c hc; exact hc
      | cons x r ih =>
        intro c hc
        rw [List.foldl_cons]
        refine ih _ fun q hq => ?_
        have : ∀ {m : List (Fc × Bool)} {k : Fc}, (∀ q ∈ m, q.2 = true) → ∀ q ∈ updA m k true, q.2 = true := by
          intro m k
          induction m with
          | nil => intro _ q hq; simp [updA] at hq; rw [hq]
          | cons z s ih2 =>
            intro hm q hq
            unfold updA at hq
            split at hq
            · rcases List.mem_cons.1 hq with rfl | hq
              · rfl
              · exact hm q (List.mem_cons_of_mem _ hq)
            · rcases List.mem_cons.1 hq with rfl | hq
              · exact hm _ List.mem_cons_self
              · exact ih2 (fun q hq => hm q (List.mem_cons_of_mem _ hq)) q hq
        exact this hc q hq
    have hp2 := hp
    unfold facesV at hp2
    rw [on0_blk, foldS_true (fun _ _ => rfl)] at hp2
    exact key _ [] (fun q hq => by cases hq) _ hp2
  rw [hy] at hp
  exact hp)
theorem setF_grades {Ls : List (Int × Int)} {bs : List B5} : setF Ls bs = gradesN Ls (bs.map fcD) := by
  unfold setF gradesN
  rw [List.foldl_map]
theorem setF_bit {Ls : List (Int × Int)} {bs : List B5} {k : Nat} : (setF Ls bs).testBit k = true ↔ ∃ b ∈ bs, ofL Ls (fcD b) = k := by
  rw [setF_grades, gradesN_bit, List.any_eq_true]
  constructor
  · rintro ⟨f, hf, e⟩
    obtain ⟨b, hb, rfl⟩ := List.mem_map.1 hf
    exact ⟨b, hb, of_decide_eq_true e⟩
  · rintro ⟨b, hb, e⟩
    exact ⟨_, List.mem_map.2 ⟨b, hb, rfl⟩, decide_eq_true e⟩
theorem ofD_eq {g : Pts} {L : List (Int × Int)} {b : B5} (hg : ptsB g) (h : OkB g b) : ofL L (fcD b) = ofL (lims3 L) (lk5 lkP b) := by
  rw [fcD_eq, of3_eq (face40 hg h)]
end Go.X.Gr
end

section
set_option linter.unusedVariables false
set_option linter.unusedSimpArgs false
set_option linter.unusedSectionVars false
/- Grade: Sure and PointOf of the document. -/
set_option linter.unusedVariables false
set_option linter.unusedSimpArgs false
set_option maxRecDepth 10000
set_option maxHeartbeats 4000000
namespace Go.X.Gr
open Go Go.Proofs Go.X

end Go.X.Gr
end

section
set_option linter.unusedVariables false
set_option linter.unusedSimpArgs false
set_option linter.unusedSectionVars false
/- Grade: PointOf of the document. -/
set_option linter.unusedVariables false
set_option linter.unusedSimpArgs false
set_option maxRecDepth 10000
set_option maxHeartbeats 4000000
namespace Go.X.Gr
open Go Go.Proofs Go.X

theorem pt_eq {q : Int} (h : 0 ≤ q ∧ q < 5) {b : B5} : fun5 (ptV q) b = b5N b q.toNat := by
  have : q = 0 ∨ q = 1 ∨ q = 2 ∨ q = 3 ∨ q = 4 := by omega
  rcases this with rfl | rfl | rfl | rfl | rfl <;> rfl
theorem b5N_sm {b : B5} (h : okI b.1 ∧ okI b.2.1 ∧ okI b.2.2.1 ∧ okI b.2.2.2.1 ∧ okI b.2.2.2.2) {i : Nat} : sm (b5N b i) := (ints_b5 h (k := i + 1) i (by omega)).2
end Go.X.Gr
end
