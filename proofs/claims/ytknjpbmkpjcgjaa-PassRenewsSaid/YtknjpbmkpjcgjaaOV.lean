/- All chains as the document goes through them. -/
import Derived.Test.YtknjpbmkpjcgjaaOU
import Derived.Test.YtknjpbmkpjcgjaaOR
import Derived.Test.YtknjpbmkpjcgjaaOP
import Derived.Test.YtknjpbmkpjcgjaaMH
import Derived.Test.YtknjpbmkpjcgjaaMJ

section
set_option linter.unusedVariables false
set_option linter.unusedSimpArgs false
set_option linter.unusedSectionVars false
/- Pass: all chains, as slices that are told of (the document's chains). -/
set_option linter.unusedVariables false
set_option linter.unusedSimpArgs false
set_option maxRecDepth 10000
set_option maxHeartbeats 4000000
namespace Go.X.Ps
open Go Go.Proofs Go.X

/-- A chain that lies frozen: where, how much room, and its numbers. -/
abbrev EnL := Addr × Nat × List Int
def slL (e : EnL) : Value := .slice (some e.1) e.2.2.length e.2.1
def famL (L : List EnL) : Value → Nat → (Nat → List SV) → Prop := fun v n get => ∃ e ∈ L, v = slL e ∧ n = e.2.2.length ∧ get = getI e.2.2
def eL : EnL := (⟨0, 0, none⟩, 0, [])
def oL (L : List EnL) (i : Nat) : List SV := [.sv (slL (L.getD i eL))]
def lA (n : Nat) (r : Nat → Pp) (beg : List Int) (L : List EnL) : List (Nat × HB) := [(0, .ro 5 n fun i => ppC (r i)), (1, .vec 3 1 beg.length (getI beg)), (2, .vec 30 1 L.length (oL L)), (3, .fam 1 (famL L))]
def lH (n : Nat) (r : Nat → Pp) (L : List EnL) : List (Nat × HB) := [(5, .vec 30 1 L.length (oL L)), (3, .fam 1 (famL L)), (2, .dead), (1, .dead), (0, .ro 5 n fun i => ppC (r i))]
theorem oL_app {L : List EnL} {e : EnL} {i : Nat} (hi : i < L.length + 1) : oL (L ++ [e]) i = if i < L.length then oL L i else [.sv (slL e)] := by
  unfold oL
  split
  · rename_i h; simp [List.getD, List.getElem?_append_left h]
  · rename_i h
    obtain rfl : i = L.length := by omega
    simp [List.getD]
theorem famL_app {L : List EnL} {e : EnL} {v : Value} {n : Nat} {get : Nat → List SV} (h : famL (L ++ [e]) v n get) : addC (famL L) (slL e) e.2.2.length (getI e.2.2) v n get := by
  obtain ⟨x, hx, h⟩ := h
  rcases List.mem_append.1 hx with hx | hx
  · exact .inr ⟨x, hx, h⟩
  · obtain rfl := List.mem_singleton.1 hx
    exact .inl h
theorem b89 : Body P 89 := body_of Try.func89 (c := code Try.f89) rfl (by decide)
/-! How many chains there are. -/
def BegOk (n : Nat) (beg : List Int) : Prop := beg.Nodup ∧ ∀ v ∈ beg, ∃ j : Nat, j < n ∧ v = (j : Int)
theorem begOk_snoc {n : Nat} {beg : List Int} (h : BegOk n beg) {i : Nat} (hi : i < n) (hm : ¬ (i : Int) ∈ beg) : BegOk n (beg ++ [(i : Int)]) := by
  refine ⟨List.nodup_append.2 ⟨h.1, by simp, fun a ha b hb2 => ?_⟩, fun v hv => ?_⟩
  · rw [List.mem_singleton.1 hb2]
    rintro rfl
    exact hm ha
  · rcases List.mem_append.1 hv with hv | hv
    · exact h.2 v hv
    · exact ⟨i, hi, List.mem_singleton.1 hv⟩
def natI (l : List Nat) : List Int := l.map fun i : Nat => (i : Int)
def frees (n : Nat) (beg : List Int) : List Nat := (List.range n).filter fun i => !beg.contains (i : Int)
theorem frees_len {n : Nat} {beg : List Int} (h : BegOk n beg) : beg.length + (frees n beg).length ≤ n := by
  have h1 := nodup_le (n := n) (l := beg ++ natI (frees n beg)) (by
    refine List.nodup_append.2 ⟨h.1, ?_, fun a ha b hb => ?_⟩
    · exact List.Pairwise.map _ (fun a b hab h => hab (Int.ofNat_inj.1 h)) (List.Pairwise.filter _ List.nodup_range)
    · obtain ⟨i, hi, rfl⟩ := List.mem_map.1 hb
      have := (List.mem_filter.1 hi).2
      rintro rfl
      rw [List.contains_iff_mem.2 ha] at this
      cases this) (by
    intro v hv
    rcases List.mem_append.1 hv with hv | hv
    · exact h.2 v hv
    · obtain ⟨i, hi, rfl⟩ := List.mem_map.1 hv
      exact ⟨i, List.mem_range.1 (List.mem_filter.1 hi).1, rfl⟩)
  rwa [List.length_append, show (natI (frees n beg)).length = (frees n beg).length by simp [natI]] at h1
theorem flat_len {α : Type} {l : List Nat} {p : Nat → Bool} {p2 : Nat → Bool} (hp : ∀ i, p i = true → p2 i = true) {g : Nat → List α} {M : Nat} (hg : ∀ i ∈ l, p i = true → (g i).length ≤ M) : (l.flatMap fun i => if p i = true then g i else []).length ≤ (l.filter p2).length * M := by
  induction l with
  | nil => simp
  | cons a l ih =>
    have ih := ih fun i hi => hg i (List.mem_cons_of_mem _ hi)
    rw [List.flatMap_cons, List.length_append]
    by_cases h : p a = true
    · rw [if_pos h, List.filter_cons, if_pos (hp a h), List.length_cons]
      have := hg a List.mem_cons_self h
      rw [Nat.succ_mul]
      omega
    · rw [if_neg h, List.filter_cons]
      split
      · rw [List.length_cons, Nat.succ_mul, List.length_nil]
        omega
      · rw [List.length_nil]
        omega
theorem canD_free {ag q y : Int} {r : Nat → Pp} {beg : List Int} {i : Nat} (h : canD ag q y r beg i = true) : ¬ (i : Int) ∈ beg := by
  unfold canD at h
  rw [Bool.and_eq_true, Bool.not_eq_true'] at h
  intro hm
  rw [List.contains_iff_mem.2 hm] at h
  cases h.2
/-- There are not too many chains. -/
def Few (ag : Int) (n : Nat) (r : Nat → Pp) : Prop := ∀ q y, (chainsD ag n r (n + 1) [] q y).length ≤ 900000
end Go.X.Ps
end

section
set_option linter.unusedVariables false
set_option linter.unusedSimpArgs false
set_option linter.unusedSectionVars false
/- Regions of any order: the same, where some operations are known to have run. -/
set_option linter.unusedVariables false
set_option linter.unusedSimpArgs false
set_option maxRecDepth 10000
set_option maxHeartbeats 4000000
namespace Go.X
open Go
theorem exM_all {m : Nat} {l : List Bool} (hl : l.length = m) (he : exM m l = true) : l = List.replicate m true := by
  refine List.eq_replicate_iff.2 ⟨hl, fun b hb => ?_⟩
  obtain ⟨i, hi, rfl⟩ := List.mem_iff_getElem.1 hb
  have h := List.all_eq_true.1 he i (List.mem_range.2 (by omega))
  rwa [List.getD, List.getElem?_eq_getElem hi] at h
theorem mem_set {ks : List Nat} : ∀ (l : List Bool) (i : Nat), (∀ q ∈ ks, l.getD q false = true) → ∀ q ∈ ks, (l.set i true).getD q false = true := fun l i h q hq => by
  have h := h q hq
  by_cases e : i = q
  · subst e
    by_cases hl : i < l.length
    · simp [List.getD, hl]
    · rw [List.getD, List.getElem?_eq_none (by omega)] at h; cases h
  · simpa [List.getD, List.getElem?_set_ne e] using h
end Go.X
end

section
set_option linter.unusedVariables false
set_option linter.unusedSimpArgs false
set_option linter.unusedSectionVars false
/- Pass: how the document's chains go on by one certificate, in whatever order (printed by gen-ei.py). -/
set_option linter.unusedVariables false
set_option linter.unusedSimpArgs false
set_option maxRecDepth 10000
set_option maxHeartbeats 4000000
namespace Go.X.Ps
open Go Go.Proofs Go.X

noncomputable def op89 : Array Oper := regO 7 (code Try.f89)
noncomputable abbrev X89 (C : Nat → Option Ct) (G : Base) : Cx := ⟨P, T, C, G, none, Try.f89.ntmps⟩
def ix89 : Nat → Option Nat
  | 0 => some 0
  | 1 => some 1
  | 2 => some 2
  | 3 => some 3
  | 4 => some 4
  | 7 => some 5
  | 8 => some 6
  | 9 => some 7
  | 10 => some 8
  | 11 => some 9
  | 12 => some 10
  | 13 => some 11
  | 14 => some 12
  | 15 => some 13
  | 16 => some 14
  | 17 => some 15
  | 18 => some 16
  | 19 => some 17
  | _ => none

def oi89 (i : Nat) : Nat := if Nat.blt i 5 then i else i + 2
def z89 (a b : Bool) : Nat → Bool
  | 5 => a
  | 6 => b
  | _ => false
def an89 : Nat → List Nat
  | 3 => [1, 2]
  | 6 => [5]
  | 8 => [6, 7]
  | 9 => [8]
  | 10 => [9]
  | 12 => [11]
  | 14 => [12, 13]
  | 15 => [14]
  | 16 => [15]
  | _ => []
theorem an89_lt : ∀ i, ∀ j ∈ an89 i, j < i := by
  intro i j hj
  unfold an89 at hj
  split at hj <;> simp at hj <;> omega
theorem lat89a : symC op89 22 18 ix89 oi89 5 an89 [4] (z89 false false) = true := by kernel_rfl
theorem lat89b : symC op89 22 18 ix89 oi89 6 an89 [3] (z89 true false) = true := by kernel_rfl
theorem lat89c : symXP op89 22 18 ix89 oi89 an89 (z89 true true) [1, 2, 3, 4] = true := by kernel_rfl
theorem zz89a : ∀ k, k < 22 → k ≠ 5 → z89 true false k = z89 false false k := by
  intro k _ h
  unfold z89
  split <;> first | rfl | exact absurd rfl h
theorem zz89b : ∀ k, k < 22 → k ≠ 6 → z89 true true k = z89 true false k := by
  intro k _ h
  unfold z89
  split <;> first | rfl | exact absurd rfl h
noncomputable def ar89 (a b : Bool) : List Bool → Array Bool := arrZ 22 ix89 (z89 a b)
def sl89 (it ag : Int) (r : Nat → Pp) (i a b : Nat) : Nat → List (Nat × FE)
  | 0 => [(45, ⟨[], .agg (paA 0 it ag)⟩)]
  | 1 => [(46, ⟨[], .sl a⟩)]
  | 2 => [(47, ⟨[], .sl 1⟩)]
  | 3 => [(48, ⟨[], .sl b⟩)]
  | 4 => [(49, ⟨[], .si .i64 (i : Int)⟩)]
  | 5 => [(52, ⟨[], .sp 5 2⟩)]
  | 6 => [(53, ⟨[], .sl 0⟩)]
  | 7 => [(54, ⟨[], .si .i64 (i : Int)⟩)]
  | 8 => [(55, ⟨[], .se 0 (i : Int) 0⟩)]
  | 9 => [(56, ⟨[], .se 0 (i : Int) 1⟩)]
  | 10 => [(57, ⟨[], .si .i64 (r i).by_⟩)]
  | 11 => [(58, ⟨[], .sp 5 2⟩)]
  | 12 => [(59, ⟨[], .sl 0⟩)]
  | 13 => [(60, ⟨[], .si .i64 (i : Int)⟩)]
  | 14 => [(61, ⟨[], .se 0 (i : Int) 0⟩)]
  | 15 => [(62, ⟨[], .se 0 (i : Int) 3⟩)]
  | 16 => [(63, ⟨[], .si .i64 (r i).yr⟩)]
  | 17 => [(64, ⟨[], .sl 6⟩)]
  | _ => []
theorem sl89_ne {it ag : Int} {r : Nat → Pp} {k a b i : Nat} (hi : i < 18) {p : Nat × FE} (hp : p ∈ sl89 it ag r k a b i) : 50 ≠ p.1 ∧ 51 ≠ p.1 := by
  rcases (show i = 0 ∨ i = 1 ∨ i = 2 ∨ i = 3 ∨ i = 4 ∨ i = 5 ∨ i = 6 ∨ i = 7 ∨ i = 8 ∨ i = 9 ∨ i = 10 ∨ i = 11 ∨ i = 12 ∨ i = 13 ∨ i = 14 ∨ i = 15 ∨ i = 16 ∨ i = 17 by omega) with rfl | rfl | rfl | rfl | rfl | rfl | rfl | rfl | rfl | rfl | rfl | rfl | rfl | rfl | rfl | rfl | rfl | rfl <;> (rw [List.mem_singleton.1 hp]; simp)
def b89F (q y : Int) (i : Nat) : List (Nat × FE) := [(1, ⟨[], .sl 1⟩), (2, ⟨[], .si .i64 q⟩), (3, ⟨[], .si .i64 y⟩), (4, ⟨[], .sl 6⟩), (5, ⟨[], .sp 5 0⟩), (11, ⟨[], .si .i64 (i : Int)⟩)]
def b89H (it ag : Int) (n : Nat) (r : Nat → Pp) (beg : List Int) (L : List EnL) : List (Nat × HB) := [(6, .vec 30 1 L.length (oL L)), (5, .cells 24 (paA 0 it ag)), (3, .fam 1 (famL L)), (2, .dead), (1, .vec 3 1 beg.length (getI beg)), (0, .ro 5 n fun i => ppC (r i))]
def rA (a : Nat) : Nat × HB := (a, .row 3 1 0 [])
def rC (c i : Nat) : Nat × HB := (c, .row 3 1 1 [.si .i64 (i : Int)])
def aB (a b : Nat) (beg : List Int) (H : List (Nat × HB)) : List (Nat × HB) := (b, .vec 3 1 beg.length (getI beg)) :: (a, .dead) :: (a, .vec 3 1 0 (getI beg)) :: H
def aD (b : Nat) (beg : List Int) (i : Nat) (H : List (Nat × HB)) : List (Nat × HB) := (10, .vec 3 1 (beg.length + 1) (getI (beg ++ [(i : Int)]))) :: (b, .dead) :: H
def HA89 (B : List (Nat × HB)) (beg : List Int) (l : List Bool) : List (Nat × HB) := if l.getD 3 false = true then aB 7 8 beg (rA 7 :: B) else if l.getD 1 false = true then rA 7 :: B else B
def nA89 (l : List Bool) : Nat := if l.getD 3 false = true then 9 else if l.getD 1 false = true then 8 else 7
def H189 (B : List (Nat × HB)) (beg : List Int) (i : Nat) (l : List Bool) : List (Nat × HB) := if l.getD 3 false = true then aB 8 9 beg (rA 8 :: rC 7 i :: B) else if l.getD 1 false = true then rA 8 :: rC 7 i :: B else rC 7 i :: B
def n189 (l : List Bool) : Nat := if l.getD 3 false = true then 10 else if l.getD 1 false = true then 9 else 8
def H289 (B : List (Nat × HB)) (beg : List Int) (i : Nat) (l : List Bool) : List (Nat × HB) := if l.getD 3 false = true then aB 7 9 beg (rC 8 i :: rA 7 :: B) else rC 8 i :: rA 7 :: B
def n289 (l : List Bool) : Nat := if l.getD 3 false = true then 10 else 9
def H389 (B : List (Nat × HB)) (beg : List Int) (i : Nat) (l : List Bool) : List (Nat × HB) := rC 9 i :: aB 7 8 beg (rA 7 :: B)
def n389 (l : List Bool) : Nat := 10
/-- What holds when all is ready for the call. -/
def st89 (it ag q y : Int) (n : Nat) (r : Nat → Pp) (beg : List Int) (L : List EnL) (i : Nat) : St := ⟨[(45, ⟨[], .agg (paA 0 it ag)⟩), (51, ⟨[], .sl 7⟩), (57, ⟨[], .si .i64 (r i).by_⟩), (63, ⟨[], .si .i64 (r i).yr⟩), (64, ⟨[], .sl 6⟩)] ++ b89F q y i, [], (7, .vec 3 1 (beg.length + 1) (getI (beg ++ [(i : Int)]))) :: b89H it ag n r beg L, 8, []⟩
theorem no89 {l : List Bool} (hl : l.length = 18) (hcl : clB2 an89 l = true) (h1 : l.getD 1 false = false) : l.getD 3 false = false := by
  cases h7 : l.getD 3 false with
  | false => rfl
  | true =>
    have h := List.all_eq_true.1 hcl 3 (List.mem_range.2 (by omega))
    rw [h7] at h
    have h : (l.getD 1 false && (l.getD 2 false && true)) = true := h
    rw [h1] at h
    cases h
theorem dn89 {l : List Bool} (hl : l.length = 18) (hcl : clB2 an89 l = true) (h3 : l.getD 3 false = true) (h4 : l.getD 4 false = true) : ∀ q ∈ [1, 2, 3, 4], l.getD q false = true := by
  have h := List.all_eq_true.1 hcl 3 (List.mem_range.2 (by omega))
  rw [h3] at h
  have h : (l.getD 1 false && (l.getD 2 false && true)) = true := h
  rw [Bool.and_eq_true, Bool.and_true] at h
  intro q hq
  simp at hq
  rcases hq with rfl | rfl | rfl | rfl
  · exact h.1
  · exact h.2
  · exact h3
  · exact h4
section
variable {C : Nat → Option Ct} {G : Base} {it ag q y : Int} {n i : Nat} {r : Nat → Pp} {beg : List Int} {L : List EnL} {K : Ex → St → Prop}
theorem pc89_1 (hX : (X89 C G).Ok) (hG : ∀ j, 5 ≤ j → G.ρ j = none) (hin : i < n) (hbl : beg.length ≤ 1000) (hK : AnyS (X89 C G) op89 2 (ar89 true true (List.replicate 18 true)) (st89 it ag q y n r beg L i) K) : ∀ l : List Bool, l.length = 18 → clB2 an89 l = true → (∀ q ∈ [1, 2, 3, 4], l.getD q false = true) → AnyS (X89 C G) op89 (l.count false + 2) (ar89 true true l) ⟨slF (sl89 it ag r i 8 9) ((51, ⟨[], .sl 10⟩) :: (50, ⟨[], .sl 7⟩) :: b89F q y i) l, [], aD 9 beg i (aB 8 9 beg (rA 8 :: rC 7 i :: b89H it ag n r beg L)), 11, []⟩ K := by
  refine any_latV (D := []) hX 18 (ar89 true true) oi89 (exM 18) (sl89 it ag r i 8 9) ((51, ⟨[], .sl 10⟩) :: (50, ⟨[], .sl 7⟩) :: b89F q y i) (fun _ => aD 9 beg i (aB 8 9 beg (rA 8 :: rC 7 i :: b89H it ag n r beg L))) (fun _ => 11) an89 2 (fun l => ∀ q ∈ [1, 2, 3, 4], l.getD q false = true) mem_set (fun i hi j hj => by have := an89_lt i j hj; omega) (latX_symP lat89c) ?_ ?_ ?_
  · repeat' (first | exact trivial | exact ⟨rfl, rfl⟩ | refine And.intro ?_ ?_)
  · intro j hj l hl hpl hf ha hcl
    rcases (show j = 1 ∨ j = 3 ∨ j = 8 ∨ j = 14 ∨ j = 0 ∨ j = 2 ∨ j = 4 ∨ j = 5 ∨ j = 6 ∨ j = 7 ∨ j = 9 ∨ j = 10 ∨ j = 11 ∨ j = 12 ∨ j = 13 ∨ j = 15 ∨ j = 16 ∨ j = 17 by omega) with rfl | rfl | rfl | rfl | rfl | rfl | rfl | rfl | rfl | rfl | rfl | rfl | rfl | rfl | rfl | rfl | rfl | rfl
    · have h4 := getF (show 1 < l.length by omega) hf
      have := h4.symm.trans (hpl 1 (by decide)); cases this
    · have h7 := getF (show 3 < l.length by omega) hf
      have := h7.symm.trans (hpl 3 (by decide)); cases this
    · exact ⟨_, rfl, rfl, fun tail Q Kn hC hK => Chk.mk (show (0 : Int) ≤ (i : Int) ∧ (i : Int) < (n : Int) from ⟨by omega, by omega⟩) hK⟩
    · exact ⟨_, rfl, rfl, fun tail Q Kn hC hK => Chk.mk (show (0 : Int) ≤ (i : Int) ∧ (i : Int) < (n : Int) from ⟨by omega, by omega⟩) hK⟩
    all_goals
      refine ⟨_, rfl, rfl, fun tail Q Kn hC hK => ?_⟩
      first | exact hK | exact fb_again hX hC rfl hK
  · intro l hl he
    obtain rfl := exM_all hl he
    refine any_weaken 5 (fun j => match j with | 7 => 10 | j => j) hG ?_ hK
    refine ⟨?_, ?_, rfl, rfl, rfl, rfl, trivial⟩
    · repeat' (first | exact trivial | exact rfl | refine And.intro ?_ ?_)
    · repeat' (first | exact trivial | exact rfl | exact List.Perm.refl _ | (intro i hi; exact ⟨rfl, rfl⟩) | (intro v m g h; exact h) | refine And.intro ?_ ?_)
theorem pb89_1 (hX : (X89 C G).Ok) (hG : ∀ j, 5 ≤ j → G.ρ j = none) (hin : i < n) (hbl : beg.length ≤ 1000) (hK : AnyS (X89 C G) op89 2 (ar89 true true (List.replicate 18 true)) (st89 it ag q y n r beg L i) K) : ∀ l : List Bool, l.length = 18 → clB2 an89 l = true → (∀ q ∈ [4], l.getD q false = true) → AnyS (X89 C G) op89 (l.count false + (2 + 1)) (ar89 true false l) ⟨slF (sl89 it ag r i 8 9) ((50, ⟨[], .sl 7⟩) :: b89F q y i) l, [], H189 (b89H it ag n r beg L) beg i l, n189 l, []⟩ K := by
  refine any_latF (D := []) hX 18 (ar89 true false) (ar89 true true) oi89 6 (sl89 it ag r i 8 9) ((50, ⟨[], .sl 7⟩) :: b89F q y i) (fun l => [(51, ⟨[], .sl 10⟩)]) (fun l => (51, ⟨[], .sl 10⟩) :: (50, ⟨[], .sl 7⟩) :: b89F q y i) (H189 (b89H it ag n r beg L) beg i) n189 (fun _ => aD 9 beg i (aB 8 9 beg (rA 8 :: rC 7 i :: b89H it ag n r beg L))) (fun _ => 11) an89 [3] 2 (fun l => (∀ q ∈ [4], l.getD q false = true)) mem_set (fun i hi j hj => by have := an89_lt i j hj; omega) (fun j hj => by rw [List.mem_singleton.1 hj]; decide) (latC_sym lat89b rfl zz89b) ?_ (fun l => ⟨⟨rfl, rfl⟩, trivial⟩) ?_ ?_ ?_ ?_ ?_
  · repeat' (first | exact trivial | exact ⟨rfl, rfl⟩ | refine And.intro ?_ ?_)
  · intro l p hp
    simp only [b89F, List.mem_cons, List.not_mem_nil, or_false] at hp ⊢
    rcases hp with rfl | rfl | rfl | rfl | rfl | rfl | rfl | rfl <;> simp
  · intro i hi l p hp q' hq'
    rw [List.mem_singleton.1 hq']
    exact (sl89_ne hi hp).2
  · intro j hj l hl hpl hf ha hcl
    have n1 : j ≠ 1 → (l.set j true).getD 1 false = l.getD 1 false := getN
    have n3 : j ≠ 3 → (l.set j true).getD 3 false = l.getD 3 false := getN
    rcases (show j = 1 ∨ j = 3 ∨ j = 8 ∨ j = 14 ∨ j = 0 ∨ j = 2 ∨ j = 4 ∨ j = 5 ∨ j = 6 ∨ j = 7 ∨ j = 9 ∨ j = 10 ∨ j = 11 ∨ j = 12 ∨ j = 13 ∨ j = 15 ∨ j = 16 ∨ j = 17 by omega) with rfl | rfl | rfl | rfl | rfl | rfl | rfl | rfl | rfl | rfl | rfl | rfl | rfl | rfl | rfl | rfl | rfl | rfl
    · have h1 := getF (show 1 < l.length by omega) hf
      have h3 := no89 hl hcl h1
      refine ⟨_, rfl, rfl, fun tail Q Kn hC hK => ?_⟩
      simp only [H189, n189, getN (l := l) (show 1 ≠ 3 by decide), getS (l := l) (i := 1) (by omega), h1, h3, if_true, if_false, Bool.false_eq_true] at hK ⊢
      first | exact hK | exact fb_again hX hC rfl hK
    · have h3 := getF (show 3 < l.length by omega) hf
      have h1 : l.getD 1 false = true := ha 1 (by decide)
      refine ⟨_, rfl, rfl, fun tail Q Kn hC hK => ?_⟩
      simp only [H189, n189, getN (l := l) (show 3 ≠ 1 by decide), getS (l := l) (i := 3) (by omega), h1, h3, if_true, if_false, Bool.false_eq_true] at hK ⊢
      exact fb_append0 8 1 beg.length (getI beg) hX hC rfl rfl rfl rfl rfl rfl rfl rfl rfl rfl rfl rfl (by decide) (by decide) rfl rfl rfl rfl (by decide) (by omega) hK
    · refine ⟨_, rfl, rfl, fun tail Q Kn hC hK => ?_⟩
      simp only [H189, n189, n1 (by decide), n3 (by decide)] at hK ⊢
      cases h3 : l.getD 3 false <;> cases h1 : l.getD 1 false <;> simp only [h3, h1, if_true, if_false, Bool.false_eq_true] at hK ⊢ <;> exact Chk.mk (show (0 : Int) ≤ (i : Int) ∧ (i : Int) < (n : Int) from ⟨by omega, by omega⟩) hK
    · refine ⟨_, rfl, rfl, fun tail Q Kn hC hK => ?_⟩
      simp only [H189, n189, n1 (by decide), n3 (by decide)] at hK ⊢
      cases h3 : l.getD 3 false <;> cases h1 : l.getD 1 false <;> simp only [h3, h1, if_true, if_false, Bool.false_eq_true] at hK ⊢ <;> exact Chk.mk (show (0 : Int) ≤ (i : Int) ∧ (i : Int) < (n : Int) from ⟨by omega, by omega⟩) hK
    all_goals
      refine ⟨_, rfl, rfl, fun tail Q Kn hC hK => ?_⟩
      simp only [H189, n189, n1 (by decide), n3 (by decide)] at hK ⊢
      cases h3 : l.getD 3 false <;> cases h1 : l.getD 1 false <;> simp only [h3, h1, if_true, if_false, Bool.false_eq_true] at hK ⊢ <;> first | exact hK | exact fb_again hX hC rfl hK
  · intro l hl hpl ha hcl
    have h3 : l.getD 3 false = true := ha 3 (by decide)
    refine ⟨_, rfl, rfl, fun tail Q Kn hC hK => ?_⟩
    simp only [H189, n189, h3, if_true] at hK ⊢
    exact fb_append (Te := 0) 9 7 beg.length 1 (getI beg) _ (getI (beg ++ [(i : Int)])) hX hC rfl rfl rfl rfl rfl rfl rfl rfl rfl rfl rfl rfl (by decide) (by decide) rfl rfl rfl rfl (by omega) (fun j hj => getI_snoc hj) hK
  · exact fun l hl hcl hpl ha => pc89_1 hX hG hin hbl hK l hl hcl (dn89 hl hcl (ha 3 (by decide)) (hpl 4 (by decide)))
theorem pc89_2 (hX : (X89 C G).Ok) (hG : ∀ j, 5 ≤ j → G.ρ j = none) (hin : i < n) (hbl : beg.length ≤ 1000) (hK : AnyS (X89 C G) op89 2 (ar89 true true (List.replicate 18 true)) (st89 it ag q y n r beg L i) K) : ∀ l : List Bool, l.length = 18 → clB2 an89 l = true → (∀ q ∈ [1, 2, 3, 4], l.getD q false = true) → AnyS (X89 C G) op89 (l.count false + 2) (ar89 true true l) ⟨slF (sl89 it ag r i 7 9) ((51, ⟨[], .sl 10⟩) :: (50, ⟨[], .sl 8⟩) :: b89F q y i) l, [], aD 9 beg i (aB 7 9 beg (rC 8 i :: rA 7 :: b89H it ag n r beg L)), 11, []⟩ K := by
  refine any_latV (D := []) hX 18 (ar89 true true) oi89 (exM 18) (sl89 it ag r i 7 9) ((51, ⟨[], .sl 10⟩) :: (50, ⟨[], .sl 8⟩) :: b89F q y i) (fun _ => aD 9 beg i (aB 7 9 beg (rC 8 i :: rA 7 :: b89H it ag n r beg L))) (fun _ => 11) an89 2 (fun l => ∀ q ∈ [1, 2, 3, 4], l.getD q false = true) mem_set (fun i hi j hj => by have := an89_lt i j hj; omega) (latX_symP lat89c) ?_ ?_ ?_
  · repeat' (first | exact trivial | exact ⟨rfl, rfl⟩ | refine And.intro ?_ ?_)
  · intro j hj l hl hpl hf ha hcl
    rcases (show j = 1 ∨ j = 3 ∨ j = 8 ∨ j = 14 ∨ j = 0 ∨ j = 2 ∨ j = 4 ∨ j = 5 ∨ j = 6 ∨ j = 7 ∨ j = 9 ∨ j = 10 ∨ j = 11 ∨ j = 12 ∨ j = 13 ∨ j = 15 ∨ j = 16 ∨ j = 17 by omega) with rfl | rfl | rfl | rfl | rfl | rfl | rfl | rfl | rfl | rfl | rfl | rfl | rfl | rfl | rfl | rfl | rfl | rfl
    · have h4 := getF (show 1 < l.length by omega) hf
      have := h4.symm.trans (hpl 1 (by decide)); cases this
    · have h7 := getF (show 3 < l.length by omega) hf
      have := h7.symm.trans (hpl 3 (by decide)); cases this
    · exact ⟨_, rfl, rfl, fun tail Q Kn hC hK => Chk.mk (show (0 : Int) ≤ (i : Int) ∧ (i : Int) < (n : Int) from ⟨by omega, by omega⟩) hK⟩
    · exact ⟨_, rfl, rfl, fun tail Q Kn hC hK => Chk.mk (show (0 : Int) ≤ (i : Int) ∧ (i : Int) < (n : Int) from ⟨by omega, by omega⟩) hK⟩
    all_goals
      refine ⟨_, rfl, rfl, fun tail Q Kn hC hK => ?_⟩
      first | exact hK | exact fb_again hX hC rfl hK
  · intro l hl he
    obtain rfl := exM_all hl he
    refine any_weaken 5 (fun j => match j with | 7 => 10 | j => j) hG ?_ hK
    refine ⟨?_, ?_, rfl, rfl, rfl, rfl, trivial⟩
    · repeat' (first | exact trivial | exact rfl | refine And.intro ?_ ?_)
    · repeat' (first | exact trivial | exact rfl | exact List.Perm.refl _ | (intro i hi; exact ⟨rfl, rfl⟩) | (intro v m g h; exact h) | refine And.intro ?_ ?_)
theorem pb89_2 (hX : (X89 C G).Ok) (hG : ∀ j, 5 ≤ j → G.ρ j = none) (hin : i < n) (hbl : beg.length ≤ 1000) (hK : AnyS (X89 C G) op89 2 (ar89 true true (List.replicate 18 true)) (st89 it ag q y n r beg L i) K) : ∀ l : List Bool, l.length = 18 → clB2 an89 l = true → (∀ q ∈ [1, 4], l.getD q false = true) → AnyS (X89 C G) op89 (l.count false + (2 + 1)) (ar89 true false l) ⟨slF (sl89 it ag r i 7 9) ((50, ⟨[], .sl 8⟩) :: b89F q y i) l, [], H289 (b89H it ag n r beg L) beg i l, n289 l, []⟩ K := by
  refine any_latF (D := []) hX 18 (ar89 true false) (ar89 true true) oi89 6 (sl89 it ag r i 7 9) ((50, ⟨[], .sl 8⟩) :: b89F q y i) (fun l => [(51, ⟨[], .sl 10⟩)]) (fun l => (51, ⟨[], .sl 10⟩) :: (50, ⟨[], .sl 8⟩) :: b89F q y i) (H289 (b89H it ag n r beg L) beg i) n289 (fun _ => aD 9 beg i (aB 7 9 beg (rC 8 i :: rA 7 :: b89H it ag n r beg L))) (fun _ => 11) an89 [3] 2 (fun l => (∀ q ∈ [1, 4], l.getD q false = true)) mem_set (fun i hi j hj => by have := an89_lt i j hj; omega) (fun j hj => by rw [List.mem_singleton.1 hj]; decide) (latC_sym lat89b rfl zz89b) ?_ (fun l => ⟨⟨rfl, rfl⟩, trivial⟩) ?_ ?_ ?_ ?_ ?_
  · repeat' (first | exact trivial | exact ⟨rfl, rfl⟩ | refine And.intro ?_ ?_)
  · intro l p hp
    simp only [b89F, List.mem_cons, List.not_mem_nil, or_false] at hp ⊢
    rcases hp with rfl | rfl | rfl | rfl | rfl | rfl | rfl | rfl <;> simp
  · intro i hi l p hp q' hq'
    rw [List.mem_singleton.1 hq']
    exact (sl89_ne hi hp).2
  · intro j hj l hl hpl hf ha hcl
    have n1 : j ≠ 1 → (l.set j true).getD 1 false = l.getD 1 false := getN
    have n3 : j ≠ 3 → (l.set j true).getD 3 false = l.getD 3 false := getN
    rcases (show j = 1 ∨ j = 3 ∨ j = 8 ∨ j = 14 ∨ j = 0 ∨ j = 2 ∨ j = 4 ∨ j = 5 ∨ j = 6 ∨ j = 7 ∨ j = 9 ∨ j = 10 ∨ j = 11 ∨ j = 12 ∨ j = 13 ∨ j = 15 ∨ j = 16 ∨ j = 17 by omega) with rfl | rfl | rfl | rfl | rfl | rfl | rfl | rfl | rfl | rfl | rfl | rfl | rfl | rfl | rfl | rfl | rfl | rfl
    · have h1 := getF (show 1 < l.length by omega) hf
      have := h1.symm.trans (hpl 1 (by decide)); cases this
    · have h3 := getF (show 3 < l.length by omega) hf
      refine ⟨_, rfl, rfl, fun tail Q Kn hC hK => ?_⟩
      simp only [H289, n289, getS (l := l) (i := 3) (by omega), h3, if_true, if_false, Bool.false_eq_true] at hK ⊢
      exact fb_append0 7 1 beg.length (getI beg) hX hC rfl rfl rfl rfl rfl rfl rfl rfl rfl rfl rfl rfl (by decide) (by decide) rfl rfl rfl rfl (by decide) (by omega) hK
    · refine ⟨_, rfl, rfl, fun tail Q Kn hC hK => ?_⟩
      simp only [H289, n289, n1 (by decide), n3 (by decide)] at hK ⊢
      cases h3 : l.getD 3 false <;> cases h1 : l.getD 1 false <;> simp only [h3, h1, if_true, if_false, Bool.false_eq_true] at hK ⊢ <;> exact Chk.mk (show (0 : Int) ≤ (i : Int) ∧ (i : Int) < (n : Int) from ⟨by omega, by omega⟩) hK
    · refine ⟨_, rfl, rfl, fun tail Q Kn hC hK => ?_⟩
      simp only [H289, n289, n1 (by decide), n3 (by decide)] at hK ⊢
      cases h3 : l.getD 3 false <;> cases h1 : l.getD 1 false <;> simp only [h3, h1, if_true, if_false, Bool.false_eq_true] at hK ⊢ <;> exact Chk.mk (show (0 : Int) ≤ (i : Int) ∧ (i : Int) < (n : Int) from ⟨by omega, by omega⟩) hK
    all_goals
      refine ⟨_, rfl, rfl, fun tail Q Kn hC hK => ?_⟩
      simp only [H289, n289, n1 (by decide), n3 (by decide)] at hK ⊢
      cases h3 : l.getD 3 false <;> cases h1 : l.getD 1 false <;> simp only [h3, h1, if_true, if_false, Bool.false_eq_true] at hK ⊢ <;> first | exact hK | exact fb_again hX hC rfl hK
  · intro l hl hpl ha hcl
    have h3 : l.getD 3 false = true := ha 3 (by decide)
    refine ⟨_, rfl, rfl, fun tail Q Kn hC hK => ?_⟩
    simp only [H289, n289, h3, if_true] at hK ⊢
    exact fb_append (Te := 0) 9 8 beg.length 1 (getI beg) _ (getI (beg ++ [(i : Int)])) hX hC rfl rfl rfl rfl rfl rfl rfl rfl rfl rfl rfl rfl (by decide) (by decide) rfl rfl rfl rfl (by omega) (fun j hj => getI_snoc hj) hK
  · exact fun l hl hcl hpl ha => pc89_2 hX hG hin hbl hK l hl hcl (dn89 hl hcl (ha 3 (by decide)) (hpl 4 (by decide)))
theorem pc89_3 (hX : (X89 C G).Ok) (hG : ∀ j, 5 ≤ j → G.ρ j = none) (hin : i < n) (hbl : beg.length ≤ 1000) (hK : AnyS (X89 C G) op89 2 (ar89 true true (List.replicate 18 true)) (st89 it ag q y n r beg L i) K) : ∀ l : List Bool, l.length = 18 → clB2 an89 l = true → (∀ q ∈ [1, 2, 3, 4], l.getD q false = true) → AnyS (X89 C G) op89 (l.count false + 2) (ar89 true true l) ⟨slF (sl89 it ag r i 7 8) ((51, ⟨[], .sl 10⟩) :: (50, ⟨[], .sl 9⟩) :: b89F q y i) l, [], aD 8 beg i (rC 9 i :: aB 7 8 beg (rA 7 :: b89H it ag n r beg L)), 11, []⟩ K := by
  refine any_latV (D := []) hX 18 (ar89 true true) oi89 (exM 18) (sl89 it ag r i 7 8) ((51, ⟨[], .sl 10⟩) :: (50, ⟨[], .sl 9⟩) :: b89F q y i) (fun _ => aD 8 beg i (rC 9 i :: aB 7 8 beg (rA 7 :: b89H it ag n r beg L))) (fun _ => 11) an89 2 (fun l => ∀ q ∈ [1, 2, 3, 4], l.getD q false = true) mem_set (fun i hi j hj => by have := an89_lt i j hj; omega) (latX_symP lat89c) ?_ ?_ ?_
  · repeat' (first | exact trivial | exact ⟨rfl, rfl⟩ | refine And.intro ?_ ?_)
  · intro j hj l hl hpl hf ha hcl
    rcases (show j = 1 ∨ j = 3 ∨ j = 8 ∨ j = 14 ∨ j = 0 ∨ j = 2 ∨ j = 4 ∨ j = 5 ∨ j = 6 ∨ j = 7 ∨ j = 9 ∨ j = 10 ∨ j = 11 ∨ j = 12 ∨ j = 13 ∨ j = 15 ∨ j = 16 ∨ j = 17 by omega) with rfl | rfl | rfl | rfl | rfl | rfl | rfl | rfl | rfl | rfl | rfl | rfl | rfl | rfl | rfl | rfl | rfl | rfl
    · have h4 := getF (show 1 < l.length by omega) hf
      have := h4.symm.trans (hpl 1 (by decide)); cases this
    · have h7 := getF (show 3 < l.length by omega) hf
      have := h7.symm.trans (hpl 3 (by decide)); cases this
    · exact ⟨_, rfl, rfl, fun tail Q Kn hC hK => Chk.mk (show (0 : Int) ≤ (i : Int) ∧ (i : Int) < (n : Int) from ⟨by omega, by omega⟩) hK⟩
    · exact ⟨_, rfl, rfl, fun tail Q Kn hC hK => Chk.mk (show (0 : Int) ≤ (i : Int) ∧ (i : Int) < (n : Int) from ⟨by omega, by omega⟩) hK⟩
    all_goals
      refine ⟨_, rfl, rfl, fun tail Q Kn hC hK => ?_⟩
      first | exact hK | exact fb_again hX hC rfl hK
  · intro l hl he
    obtain rfl := exM_all hl he
    refine any_weaken 5 (fun j => match j with | 7 => 10 | j => j) hG ?_ hK
    refine ⟨?_, ?_, rfl, rfl, rfl, rfl, trivial⟩
    · repeat' (first | exact trivial | exact rfl | refine And.intro ?_ ?_)
    · repeat' (first | exact trivial | exact rfl | exact List.Perm.refl _ | (intro i hi; exact ⟨rfl, rfl⟩) | (intro v m g h; exact h) | refine And.intro ?_ ?_)
theorem pb89_3 (hX : (X89 C G).Ok) (hG : ∀ j, 5 ≤ j → G.ρ j = none) (hin : i < n) (hbl : beg.length ≤ 1000) (hK : AnyS (X89 C G) op89 2 (ar89 true true (List.replicate 18 true)) (st89 it ag q y n r beg L i) K) : ∀ l : List Bool, l.length = 18 → clB2 an89 l = true → (∀ q ∈ [3, 4], l.getD q false = true) → AnyS (X89 C G) op89 (l.count false + (2 + 1)) (ar89 true false l) ⟨slF (sl89 it ag r i 7 8) ((50, ⟨[], .sl 9⟩) :: b89F q y i) l, [], H389 (b89H it ag n r beg L) beg i l, n389 l, []⟩ K := by
  refine any_latF (D := []) hX 18 (ar89 true false) (ar89 true true) oi89 6 (sl89 it ag r i 7 8) ((50, ⟨[], .sl 9⟩) :: b89F q y i) (fun l => [(51, ⟨[], .sl 10⟩)]) (fun l => (51, ⟨[], .sl 10⟩) :: (50, ⟨[], .sl 9⟩) :: b89F q y i) (H389 (b89H it ag n r beg L) beg i) n389 (fun _ => aD 8 beg i (rC 9 i :: aB 7 8 beg (rA 7 :: b89H it ag n r beg L))) (fun _ => 11) an89 [3] 2 (fun l => (∀ q ∈ [3, 4], l.getD q false = true)) mem_set (fun i hi j hj => by have := an89_lt i j hj; omega) (fun j hj => by rw [List.mem_singleton.1 hj]; decide) (latC_sym lat89b rfl zz89b) ?_ (fun l => ⟨⟨rfl, rfl⟩, trivial⟩) ?_ ?_ ?_ ?_ ?_
  · repeat' (first | exact trivial | exact ⟨rfl, rfl⟩ | refine And.intro ?_ ?_)
  · intro l p hp
    simp only [b89F, List.mem_cons, List.not_mem_nil, or_false] at hp ⊢
    rcases hp with rfl | rfl | rfl | rfl | rfl | rfl | rfl | rfl <;> simp
  · intro i hi l p hp q' hq'
    rw [List.mem_singleton.1 hq']
    exact (sl89_ne hi hp).2
  · intro j hj l hl hpl hf ha hcl
    have n1 : j ≠ 1 → (l.set j true).getD 1 false = l.getD 1 false := getN
    have n3 : j ≠ 3 → (l.set j true).getD 3 false = l.getD 3 false := getN
    rcases (show j = 1 ∨ j = 3 ∨ j = 8 ∨ j = 14 ∨ j = 0 ∨ j = 2 ∨ j = 4 ∨ j = 5 ∨ j = 6 ∨ j = 7 ∨ j = 9 ∨ j = 10 ∨ j = 11 ∨ j = 12 ∨ j = 13 ∨ j = 15 ∨ j = 16 ∨ j = 17 by omega) with rfl | rfl | rfl | rfl | rfl | rfl | rfl | rfl | rfl | rfl | rfl | rfl | rfl | rfl | rfl | rfl | rfl | rfl
    · have h1 := getF (show 1 < l.length by omega) hf
      have := (no89 hl hcl h1).symm.trans (hpl 3 (by decide)); cases this
    · have h3 := getF (show 3 < l.length by omega) hf
      have := h3.symm.trans (hpl 3 (by decide)); cases this
    · exact ⟨_, rfl, rfl, fun tail Q Kn hC hK => Chk.mk (show (0 : Int) ≤ (i : Int) ∧ (i : Int) < (n : Int) from ⟨by omega, by omega⟩) hK⟩
    · exact ⟨_, rfl, rfl, fun tail Q Kn hC hK => Chk.mk (show (0 : Int) ≤ (i : Int) ∧ (i : Int) < (n : Int) from ⟨by omega, by omega⟩) hK⟩
    all_goals
      refine ⟨_, rfl, rfl, fun tail Q Kn hC hK => ?_⟩
      first | exact hK | exact fb_again hX hC rfl hK
  · intro l hl hpl ha hcl
    have h3 : l.getD 3 false = true := ha 3 (by decide)
    refine ⟨_, rfl, rfl, fun tail Q Kn hC hK => ?_⟩
    simp only [H389, n389, h3, if_true] at hK ⊢
    exact fb_append (Te := 0) 8 9 beg.length 1 (getI beg) _ (getI (beg ++ [(i : Int)])) hX hC rfl rfl rfl rfl rfl rfl rfl rfl rfl rfl rfl rfl (by decide) (by decide) rfl rfl rfl rfl (by omega) (fun j hj => getI_snoc hj) hK
  · exact fun l hl hcl hpl ha => pc89_3 hX hG hin hbl hK l hl hcl (dn89 hl hcl (ha 3 (by decide)) (hpl 4 (by decide)))
theorem reg89 (hX : (X89 C G).Ok) (hG : ∀ j, 5 ≤ j → G.ρ j = none) (hin : i < n) (hbl : beg.length ≤ 1000) (hK : AnyS (X89 C G) op89 2 (ar89 true true (List.replicate 18 true)) (st89 it ag q y n r beg L i) K) : AnyS (X89 C G) op89 22 (Array.replicate 22 false) ⟨b89F q y i, [], b89H it ag n r beg L, 7, []⟩ K := by
  refine any_latF (D := []) hX 18 (ar89 false false) (ar89 true false) oi89 5 (sl89 it ag r i 7 8) (b89F q y i) (fun l => [(50, ⟨[], .sl (nA89 l)⟩)]) (fun l => (50, ⟨[], .sl (nA89 l)⟩) :: b89F q y i) (HA89 (b89H it ag n r beg L) beg) nA89 (fun l => rC (nA89 l) i :: HA89 (b89H it ag n r beg L) beg l) (fun l => nA89 l + 1) an89 [4] (2 + 1) (fun l => True) (fun _ _ _ => trivial) (fun i hi j hj => by have := an89_lt i j hj; omega) (fun j hj => by rw [List.mem_singleton.1 hj]; decide) (latC_sym lat89a rfl zz89a) ?_ (fun l => ⟨⟨rfl, rfl⟩, trivial⟩) ?_ ?_ ?_ ?_ ?_ (List.replicate 18 false) rfl (by decide) trivial
  · repeat' (first | exact trivial | exact ⟨rfl, rfl⟩ | refine And.intro ?_ ?_)
  · intro l p hp
    simp only [b89F, List.mem_cons, List.not_mem_nil, or_false] at hp ⊢
    rcases hp with rfl | rfl | rfl | rfl | rfl | rfl | rfl <;> simp
  · intro i hi l p hp q' hq'
    rw [List.mem_singleton.1 hq']
    exact (sl89_ne hi hp).1
  · intro j hj l hl hpl hf ha hcl
    have n1 : j ≠ 1 → (l.set j true).getD 1 false = l.getD 1 false := getN
    have n3 : j ≠ 3 → (l.set j true).getD 3 false = l.getD 3 false := getN
    rcases (show j = 1 ∨ j = 3 ∨ j = 8 ∨ j = 14 ∨ j = 0 ∨ j = 2 ∨ j = 4 ∨ j = 5 ∨ j = 6 ∨ j = 7 ∨ j = 9 ∨ j = 10 ∨ j = 11 ∨ j = 12 ∨ j = 13 ∨ j = 15 ∨ j = 16 ∨ j = 17 by omega) with rfl | rfl | rfl | rfl | rfl | rfl | rfl | rfl | rfl | rfl | rfl | rfl | rfl | rfl | rfl | rfl | rfl | rfl
    · have h1 := getF (show 1 < l.length by omega) hf
      have h3 := no89 hl hcl h1
      refine ⟨_, rfl, rfl, fun tail Q Kn hC hK => ?_⟩
      simp only [HA89, nA89, getN (l := l) (show 1 ≠ 3 by decide), getS (l := l) (i := 1) (by omega), h1, h3, if_true, if_false, Bool.false_eq_true] at hK ⊢
      first | exact hK | exact fb_again hX hC rfl hK
    · have h3 := getF (show 3 < l.length by omega) hf
      have h1 : l.getD 1 false = true := ha 1 (by decide)
      refine ⟨_, rfl, rfl, fun tail Q Kn hC hK => ?_⟩
      simp only [HA89, nA89, getN (l := l) (show 3 ≠ 1 by decide), getS (l := l) (i := 3) (by omega), h1, h3, if_true, if_false, Bool.false_eq_true] at hK ⊢
      exact fb_append0 7 1 beg.length (getI beg) hX hC rfl rfl rfl rfl rfl rfl rfl rfl rfl rfl rfl rfl (by decide) (by decide) rfl rfl rfl rfl (by decide) (by omega) hK
    · refine ⟨_, rfl, rfl, fun tail Q Kn hC hK => ?_⟩
      simp only [HA89, nA89, n1 (by decide), n3 (by decide)] at hK ⊢
      cases h3 : l.getD 3 false <;> cases h1 : l.getD 1 false <;> simp only [h3, h1, if_true, if_false, Bool.false_eq_true] at hK ⊢ <;> exact Chk.mk (show (0 : Int) ≤ (i : Int) ∧ (i : Int) < (n : Int) from ⟨by omega, by omega⟩) hK
    · refine ⟨_, rfl, rfl, fun tail Q Kn hC hK => ?_⟩
      simp only [HA89, nA89, n1 (by decide), n3 (by decide)] at hK ⊢
      cases h3 : l.getD 3 false <;> cases h1 : l.getD 1 false <;> simp only [h3, h1, if_true, if_false, Bool.false_eq_true] at hK ⊢ <;> exact Chk.mk (show (0 : Int) ≤ (i : Int) ∧ (i : Int) < (n : Int) from ⟨by omega, by omega⟩) hK
    all_goals
      refine ⟨_, rfl, rfl, fun tail Q Kn hC hK => ?_⟩
      simp only [HA89, nA89, n1 (by decide), n3 (by decide)] at hK ⊢
      cases h3 : l.getD 3 false <;> cases h1 : l.getD 1 false <;> simp only [h3, h1, if_true, if_false, Bool.false_eq_true] at hK ⊢ <;> first | exact hK | exact fb_again hX hC rfl hK
  · intro l hl hpl ha hcl
    refine ⟨_, rfl, rfl, fun tail Q Kn hC hK => ?_⟩
    simp only [HA89, nA89] at hK ⊢
    cases h3 : l.getD 3 false <;> cases h1 : l.getD 1 false <;> simp only [h3, h1, if_true, if_false, Bool.false_eq_true] at hK ⊢ <;> exact hK
  · intro l hl hcl _ ha
    cases h3 : l.getD 3 false with
    | true =>
      have h := pb89_3 hX hG hin hbl hK l hl hcl (fun q hq => by simp at hq; rcases hq with rfl | rfl; exact h3; exact ha 4 (by decide))
      simp only [HA89, nA89, h3, if_true]
      exact h
    | false =>
      cases h1 : l.getD 1 false with
      | true =>
        have h := pb89_2 hX hG hin hbl hK l hl hcl (fun q hq => by simp at hq; rcases hq with rfl | rfl; exact h1; exact ha 4 (by decide))
        simp only [HA89, nA89, h3, h1, if_true, if_false, Bool.false_eq_true]
        simp only [H289, n289, h3, if_false, Bool.false_eq_true] at h
        rw [slF_congr (slots' := sl89 it ag r i 7 9) (fun k hk => by
          by_cases e : k = 3
          · subst e; rw [h3] at hk; cases hk
          · unfold sl89; split <;> first | rfl | exact absurd rfl e)]
        exact h
      | false =>
        have h := pb89_1 hX hG hin hbl hK l hl hcl (fun q hq => by simp at hq; subst hq; exact ha 4 (by decide))
        simp only [HA89, nA89, h3, h1, if_true, if_false, Bool.false_eq_true]
        simp only [H189, n189, h3, h1, if_false, Bool.false_eq_true] at h
        rw [slF_congr (slots' := sl89 it ag r i 8 9) (fun k hk => by
          by_cases e : k = 3
          · subst e; rw [h3] at hk; cases hk
          · by_cases e2 : k = 1
            · subst e2; rw [h1] at hk; cases hk
            · unfold sl89; split <;> first | rfl | exact absurd rfl e | exact absurd rfl e2)]
        exact h
end
end Go.X.Ps
end

section
set_option linter.unusedVariables false
set_option linter.unusedSimpArgs false
set_option linter.unusedSectionVars false
/- Pass: all chains, as slices that are told of (the document's chains, to any depth). -/
set_option linter.unusedVariables false
set_option linter.unusedSimpArgs false
set_option maxRecDepth 10000
set_option maxHeartbeats 4000000
namespace Go.X.Ps
open Go Go.Proofs Go.X
theorem range_next {i n : Nat} (h : i < n) : List.range' i (n - i) = i :: List.range' (i + 1) (n - (i + 1)) := by
  rw [show n - i = (n - (i + 1)) + 1 by omega, List.range'_succ]
def restD (ag : Int) (n : Nat) (r : Nat → Pp) (k : Nat) (beg : List Int) (q y : Int) (i : Nat) : List (List Int) := (List.range' i (n - i)).flatMap fun i => if canD ag q y r beg i = true then chainsD ag n r k (beg ++ [(i : Int)]) (r i).by_ (r i).yr else []
def canB (ag q y : Int) (r : Nat → Pp) (beg : List Int) (i : Nat) : Bool := decide ((r i).of = q) && inB y (r i).yr ((r i).yr + ag) && !(intL beg.length (intAt (getI beg))).contains (i : Int)
theorem canB_eq (ag q y : Int) (r : Nat → Pp) (beg : List Int) (i : Nat) : canB ag q y r beg i = canD ag q y r beg i := by
  unfold canB canD holdsV
  rw [intL_getI]
theorem s89 {it ag : Int} {n : Nat} {r : Nat → Pp} (hr : PpOk ag n r) (hby : ∀ j, j < n → -1 ≤ (r j).by_) : ∀ (k : Nat) (beg : List Int) (q y : Int) (L : List EnL) (T : List (List Int)), BegOk n beg → beg.length + k = n + 1 → -1 ≤ q → (q < 0 → 0 < beg.length) → (0 ≤ y ∧ y ≤ 20) → L.map (·.2.2) ++ chainsD ag n r k beg q y = T → T.length ≤ 900000 →
    ∀ {Rv : SV → List (Nat × HB) → Nat → Prop} {Rp : List PanicEntry → List (Nat × HB) → Nat → Prop}, (∀ L' : List EnL, L'.map (·.2.2) = T → Rv (.sl 5) (lH n r L') 6) → CallS P 89 [.agg (paA 0 it ag), .sl 1, .si .i64 q, .si .i64 y, .sl 2] (lA n r beg L) 4 Rv Rp
  | 0, beg, q, y, L, T, hb, hk, hq, hq0, hy, hT, hN, Rv, Rp, hRv => by
    have := nodup_le hb.1 hb.2
    omega
  | k + 1, beg, q, y, L, T, hb, hk, hq, hq0, hy, hT, hN, Rv, Rp, hRv => by
    have g := g96 (g97 good0)
    have hN1 : L.length ≤ 900000 := by
      have := congrArg List.length hT
      simp only [List.length_append, List.length_map] at this
      omega
    have hbl : beg.length ≤ n := nodup_le hb.1 hb.2
    have hn40 := hr.1
    refine callS_move 2 [.agg (paA 0 it ag), .sl 1, .si .i64 q, .si .i64 y, .sl 4] rfl rfl (by repeat' (first | exact trivial | exact rfl | refine And.intro ?_ ?_)) rfl ?_
    refine callS_toE (ι := {L' : List EnL // L'.map (·.2.2) = T}) g.ok Try.func89 (c := code Try.f89) rfl (Nat.le_of_ble_eq_true rfl) (fun _ => .sl 5) (fun x => lH n r x.1) 6 (fun G hG => ?_) (fun x => hRv x.1 x.2)
    unfold chainsD at hT
    refine Br.mk (fun h => ?_) (fun h => ?_)
    · have h : q < 0 := of_decide_eq_true h
      rw [if_pos h] at hT
      have hb0 := hq0 h
      refine fb_freeze 1 3 [] [6] (g.ok _ _ _) cont_std rfl ⟨rfl, hb0, fun i hi => rfl, rfl, rfl, by decide, fun ad c => ?_⟩
      refine fb_append (Te := 0) 4 6 L.length 1 (oL L) _ (oL (L ++ [(ad, c, beg)])) (g.ok _ _ _) cont_std rfl rfl rfl rfl rfl rfl rfl rfl rfl rfl rfl rfl (by decide) (by decide) rfl rfl rfl rfl (by omega) ?_ ?_
      · intro i hi
        rw [oL_app hi]
        split
        · rfl
        · have e : i - L.length = 0 := by omega
          rw [e]; rfl
      refine ⟨⟨L ++ [(ad, c, beg)], (by rw [← hT, List.map_append]; rfl)⟩, (fun j => match j with | 5 => 7 | j => j), ?_, ?_, rfl, rfl, rfl, rfl⟩ <;> repeat' (first | exact trivial | exact rfl | (intro i hi; exact ⟨rfl, rfl⟩) | refine And.intro ?_ ?_)
      · show L.length + 1 = (L ++ [_]).length
        simp
      · intro v m g h
        exact famL_app h
    · have h : ¬ q < 0 := of_decide_eq_false h
      rw [if_neg h] at hT
      refine loop_okR (g.ok _ _ _) 5 (fun x : {x : Nat × List EnL // x.1 ≤ n ∧ x.2.map (·.2.2) ++ restD ag n r k beg q y x.1 = T} => ⟨b89F q y x.1.1, [], b89H it ag n r beg x.1.2, 7, []⟩) (fun x => n - x.1.1) hG ⟨(0, L), Nat.zero_le _, by unfold restD; rw [Nat.sub_zero, ← List.range_eq_range']; exact hT⟩ (fun j => match j with | 6 => 4 | j => j) ?_ ?_
      · refine ⟨?_, ?_, rfl, rfl, rfl, rfl, trivial⟩ <;> repeat' (first | exact trivial | exact rfl | (intro i hi; exact ⟨rfl, rfl⟩) | (intro v m g h; exact h) | refine And.intro ?_ ?_)
      rintro ⟨⟨i, L1⟩, hin, hinv⟩
      have hin : i ≤ n := hin
      have hinv : L1.map (·.2.2) ++ restD ag n r k beg q y i = T := hinv
      refine Br.mk (fun h => ?_) (fun h => ?_)
      · have h : (i : Int) < (n : Int) := of_decide_eq_true h
        have hbi : (0 : Int) ≤ (i : Int) ∧ (i : Int) < (n : Int) := ⟨by omega, h⟩
        unfold restD at hinv
        rw [range_next (by omega), List.flatMap_cons] at hinv
        refine Chk.mk hbi (Chk.mk (fun _ => ⟨pps_i _ _, hr, hbi⟩) ?_)
        refine Chk.mk (fun _ => ⟨ints_getI _ _, by omega⟩) ?_
        refine Br.mk (fun h2 => ?_) (fun h2 => ?_)
        · have h2 : canB ag q y r beg i = true := h2
          rw [canB_eq] at h2
          rw [if_pos h2, ← List.append_assoc] at hinv
          have hx := hr.2.2 i (by omega)
          refine (show SemC _ _ _ _ from ?_)
          refine any_region fol ?_
          refine any_weaken (st' := ⟨b89F q y i, [], b89H it ag n r beg L1, 7, []⟩) 5 (fun j => j) hG (by
            refine ⟨?_, ?_, rfl, rfl, rfl, rfl, trivial⟩ <;> repeat' (first | exact trivial | exact rfl | exact List.Perm.refl _ | (intro i hi; exact ⟨rfl, rfl⟩) | (intro v m g h; exact h) | refine And.intro ?_ ?_)) ?_
          refine reg89 (g.ok _ _ _) hG (by omega) (by omega) ?_
          refine any_step [20] (g.ok _ _ _) (by kernel_rfl) (by decide) ⟨?_, trivial⟩
          refine fb_call (g.ok _ _ _) cont_any rfl rfl rfl rfl ⟨b89, ?_⟩
          have hl1 : beg.length + 1 = (beg ++ [(i : Int)]).length := by simp
          refine callS_at [.agg (paA 0 it ag), .sl 1, .si .i64 (r i).by_, .si .i64 (r i).yr, .sl 2] (lA n r (beg ++ [(i : Int)]) L1) 4 (fun j => match j with | 1 => 7 | 2 => 6 | j => j) (by repeat' (first | exact trivial | exact rfl | refine And.intro ?_ ?_)) rfl (by repeat' (first | exact trivial | exact rfl | exact hl1 | (intro i hi; exact ⟨rfl, rfl⟩) | (intro v m g h; exact h) | refine And.intro ?_ ?_)) rfl rfl ?_
          refine s89 hr hby k (beg ++ [(i : Int)]) (r i).by_ (r i).yr L1 _ (begOk_snoc hb (by omega) (canD_free h2)) (by rw [← hl1]; omega) (hby i (by omega)) (fun _ => by rw [← hl1]; omega) hx.2.1 rfl (by
            have := congrArg List.length hinv
            simp only [List.length_append] at this ⊢
            omega) (fun L2 hL2 => ⟨rfl, ?_, ?_, ?_⟩)
          · repeat' (first | exact trivial | exact rfl | refine And.intro ?_ ?_)
          · repeat' (first | exact trivial | exact rfl | (intro i hi; exact rfl) | refine And.intro ?_ ?_)
          refine any_step [21] (g.ok _ _ _) (by kernel_rfl) (by decide) ⟨?_, trivial⟩
          refine any_done (by kernel_rfl) ?_
          refine Chk.mk (show InK .i64 ((i : Int) + 1) from ⟨by omega, by omega⟩) ⟨⟨(i + 1, L2), by show i + 1 ≤ n; omega, by rw [hL2]; exact hinv⟩, (fun j => match j with | 6 => 9 | j => j), ?_, by show n - (i + 1) < n - i; omega⟩
          refine ⟨?_, ?_, rfl, rfl, rfl, rfl, trivial⟩ <;> repeat' (first | exact trivial | exact rfl | (intro i hi; exact ⟨rfl, rfl⟩) | (intro v m g h; exact h) | refine And.intro ?_ ?_)
        · have h2 : canB ag q y r beg i = false := h2
          rw [canB_eq] at h2
          rw [if_neg (by rw [h2]; decide), List.nil_append] at hinv
          refine Chk.mk (show InK .i64 ((i : Int) + 1) from ⟨by omega, by omega⟩) ⟨⟨(i + 1, L1), by show i + 1 ≤ n; omega, hinv⟩, (fun j => j), ?_, by show n - (i + 1) < n - i; omega⟩
          refine ⟨?_, ?_, rfl, rfl, rfl, rfl, trivial⟩ <;> repeat' (first | exact trivial | exact rfl | (intro i hi; exact ⟨rfl, rfl⟩) | (intro v m g h; exact h) | refine And.intro ?_ ?_)
      · have h : ¬ (i : Int) < (n : Int) := of_decide_eq_false h
        obtain rfl : i = n := by omega
        unfold restD at hinv
        rw [Nat.sub_self, List.range'_zero, List.flatMap_nil, List.append_nil] at hinv
        refine ⟨⟨L1, hinv⟩, (fun j => match j with | 5 => 6 | j => j), ?_, ?_, rfl, rfl, rfl, rfl⟩ <;> repeat' (first | exact trivial | exact rfl | (intro i hi; exact ⟨rfl, rfl⟩) | (intro v m g h; exact h) | refine And.intro ?_ ?_)
end Go.X.Ps
end

section
set_option linter.unusedVariables false
set_option linter.unusedSimpArgs false
set_option linter.unusedSectionVars false
/- Calls: an argument that is told of by a family is handed over as a piece that is looked at. -/
set_option linter.unusedVariables false
set_option linter.unusedSimpArgs false
set_option maxRecDepth 10000
set_option maxHeartbeats 4000000
namespace Go.X
open Go
theorem callS_focus {P : Program} {n : Nat} {l l' : List SV} {H : List (Nat × HB)} {nx : Nat} {Rv : SV → List (Nat × HB) → Nat → Prop} {Rp : List PanicEntry → List (Nat × HB) → Nat → Prop} (fid m c size : Nat) (ad : Addr) (get : Nat → List SV) {C : Value → Nat → (Nat → List SV) → Prop}
    (hf : findH H fid = some (.fam size C)) (hc : C (.slice (some ad) m c) m get)
    (hl : ∀ ρ : Env, ρ nx = some (.sl (some ad) m c size) → ∀ vals, denL ρ l = some vals → denL ρ l' = some vals)
    (h : CallS P n l' ((nx, .ro size m get) :: H) (nx + 1) Rv Rp) : CallS P n l H nx Rv Rp := by
  refine callS_pre (fun ρ w hm hnx => ?_) h
  have hx := hnx nx (Nat.le_refl _)
  let X : Cx := ⟨P, fun _ => none, fun _ => none, ⟨w, Own ρ (findH H), ρ, Fz (findH H)⟩, none, 0⟩
  have hmod : Mod X ρ ⟨[], [], H, nx, []⟩ { tmps := #[], defers := [] } w := {
    fm := fun t e hf => by cases hf
    gs := fun t e hf => by cases hf
    df := trivial
    hm := hm
    kp := { str := Str.refl _, size := Nat.le_refl _, same := fun _ _ _ => rfl, own := fun b h => .inl h, ext := Ext.refl ρ, fz := fun b h => .inr (.inr h) }
    nx := hnx
    sz := rfl }
  have hm' := hmod.focus hf hc
  refine ⟨_, Ext.upd _ hx, hm'.hm, hm'.nx, fun vals hd => hl _ (upd_self ..) _ (denL_ext (Ext.upd _ hx) _ _ hd), ?_, ?_⟩
  · rintro b ⟨j, x, nm', h1, h2, h3, h4⟩
    rw [findH_cons] at h1
    by_cases e1 : nx = j
    · subst e1
      rw [upd_self] at h3; cases h3
      cases h4
    · rw [updL_ne _ _ e1] at h1
      rw [upd_ne _ _ (Ne.symm e1)] at h3
      exact ⟨j, x, nm', h1, h2, h3, h4⟩
  · rintro b ⟨id, s2, C', v, m', get', q1, q2, q3, q4⟩
    rw [findH_cons] at q1
    by_cases e1 : nx = id
    · subst e1
      rw [updL_self] at q1; cases q1
    · rw [updL_ne _ _ e1] at q1
      exact ⟨id, s2, C', v, m', get', q1, q2, q3, q4⟩
end Go.X
end
