/- The best chain, as the document finds it. -/
import Derived.Test.YtknjpbmkpjcgjaaOV
import Derived.Test.YtknjpbmkpjcgjaaOU

section
set_option linter.unusedVariables false
set_option linter.unusedSimpArgs false
set_option linter.unusedSectionVars false
/- Pass: all chains of an item, as the document goes through them. -/
set_option linter.unusedVariables false
set_option linter.unusedSimpArgs false
set_option maxRecDepth 10000
set_option maxHeartbeats 4000000
namespace Go.X.Ps
open Go Go.Proofs Go.X

theorem b72 : Body P 72 := body_of Try.func72 (c := code Try.f72) rfl (by decide)
theorem b51 : Body P 51 := body_of Try.func51 (c := code Try.f51) rfl (by decide)
def tL (L : List EnL) (n : Nat) (r : Nat → Pp) : List (Nat × HB) := [(1, .vec 30 1 L.length (oL L)), (2, .fam 1 (famL L)), (0, .ro 5 n fun i => ppC (r i))]
theorem nil_den5 {ρ : Env} {nx s : Nat} {x a b y : SV} (h : ρ nx = some (.sl none 0 0 s)) : (∀ vals, denL ρ [x, .sv (.slice none 0 0), a, b, y] = some vals → denL ρ [x, .sl nx, a, b, y] = some vals) ∧ ∀ vals, denL ρ [x, y, a, b, .sv (.slice none 0 0)] = some vals → denL ρ [x, y, a, b, .sl nx] = some vals := by
  have e : den ρ (.sl nx) = den ρ (.sv (.slice none 0 0)) := by simp [den, h, Value.oneCell']
  constructor <;> (intro vals hv; simp only [denL, e] at hv ⊢; exact hv)
theorem s72 {it ag : Int} {n : Nat} {r : Nat → Pp} (hr : PpOk ag n r) (hby : ∀ j, j < n → -1 ≤ (r j).by_) (hn : Few ag n r) {q y : Int} (hq : 0 ≤ q) (hy : 0 ≤ y ∧ y ≤ 20) {Rv : SV → List (Nat × HB) → Nat → Prop} {Rp : List PanicEntry → List (Nat × HB) → Nat → Prop}
    (hRv : ∀ L : List EnL, L.map (·.2.2) = chainsD ag n r (n + 1) [] q y → Rv (.sl 1) (tL L n r) 3) : CallS P 72 [.agg (paA 0 it ag), .si .i64 q, .si .i64 y] [(0, .ro 5 n fun i => ppC (r i))] 1 Rv Rp := by
  have g := g96 (g97 good0)
  have hb0 : BegOk n [] := ⟨List.nodup_nil, fun v hv => by cases hv⟩
  refine callS_toE (ι := {L : List EnL // L.map (·.2.2) = chainsD ag n r (n + 1) [] q y}) g.ok Try.func72 (c := code Try.f72) rfl (Nat.le_of_ble_eq_true rfl) (fun _ => .sl 1) (fun x => tL x.1 n r) 3 (fun G hG => ?_) (fun x => hRv x.1 x.2)
  refine fb_call (g.ok _ _ _) cont_std rfl rfl rfl rfl ⟨b89, ?_⟩
  refine callS_nil (l' := [.agg (paA 0 it ag), .sl 2, .si .i64 q, .si .i64 y, .sv (.slice none 0 0)]) 3 1 (getI []) (fun ρ h => (nil_den5 h).1) ?_
  refine callS_nil (l' := [.agg (paA 0 it ag), .sl 2, .si .i64 q, .si .i64 y, .sl 3]) 30 1 (oL []) (fun ρ h => (nil_den5 h).2) ?_
  refine callS_fam0 1 ?_
  refine callS_at [.agg (paA 0 it ag), .sl 1, .si .i64 q, .si .i64 y, .sl 2] (lA n r [] []) 4 (fun j => match j with | 1 => 2 | 2 => 3 | 3 => 4 | j => j) (by repeat' (first | exact trivial | exact rfl | refine And.intro ?_ ?_)) rfl (by repeat' (first | exact trivial | exact rfl | (intro i hi; exact ⟨rfl, rfl⟩) | (rintro v m g ⟨e, he, _⟩; exact absurd he (List.not_mem_nil)) | refine And.intro ?_ ?_)) rfl rfl ?_
  refine s89 hr hby (n + 1) [] q y [] (chainsD ag n r (n + 1) [] q y) hb0 (by simp) (by omega) (fun h => by omega) hy rfl (hn q y) (fun L2 hL2 => ⟨rfl, ?_, ?_, ?_⟩)
  · repeat' (first | exact trivial | exact rfl | refine And.intro ?_ ?_)
  · repeat' (first | exact trivial | exact rfl | (intro i hi; exact rfl) | refine And.intro ?_ ?_)
  refine ⟨⟨L2, hL2⟩, (fun j => match j with | 1 => 6 | 2 => 4 | j => j), ?_, ?_, rfl, rfl, rfl, rfl⟩ <;> repeat' (first | exact trivial | exact rfl | (intro i hi; exact ⟨rfl, rfl⟩) | (intro v m g h; exact h) | refine And.intro ?_ ?_)
/-! best -/
noncomputable def op51 : Array Oper := regO 8 (code Try.f51)
noncomputable abbrev X51 (G : Base) : Cx := ⟨P, T, tabC [(73, c73), (74, c74)], G, none, Try.f51.ntmps⟩
def ix51 (j : Nat) : Option Nat := if Nat.blt j 10 then some j else none
def an51 : Nat → List Nat
  | 3 => [1, 2]
  | 4 => [3]
  | 6 => [0, 4, 5]
  | _ => []
theorem an51_lt : ∀ i, ∀ j ∈ an51 i, j < i := by
  intro i j hj
  unfold an51 at hj
  split at hj <;> simp at hj <;> omega
theorem lat51 : symX op51 13 10 ix51 (fun i => i) an51 (fun _ => false) = true := by kernel_rfl
def chE (L : List EnL) (i : Nat) : List Int := (L.getD i eL).2.2
def sl51 (it ag y : Int) (r : Nat → Pp) (L : List EnL) (k i : Nat) : Nat → List (Nat × FE)
  | 0 => [(29, ⟨[], .agg (paA 0 it ag)⟩)]
  | 1 => [(30, ⟨[], .sl 2⟩)]
  | 2 => [(31, ⟨[], .si .i64 (i : Int)⟩)]
  | 3 => [(32, ⟨[], .se 2 (i : Int) 0⟩)]
  | 4 => [(33, ⟨[], .sv (slL (L.getD i eL))⟩)]
  | 5 => [(34, ⟨[], .si .i64 y⟩)]
  | 6 => [(35, ⟨[], .si .i64 (sumD r (intL (chE L i).length (intAt (getI (chE L i)))) y 0)⟩)]
  | 7 => [(36, ⟨[], .agg (paA 0 it ag)⟩)]
  | 8 => [(37, ⟨[], .sv (slL (L.getD k eL))⟩)]
  | 9 => [(38, ⟨[], .si .i64 y⟩)]
  | _ => []
def b51F (y : Int) (L : List EnL) (k i : Nat) : List (Nat × FE) := [(2, ⟨[], .si .i64 y⟩), (3, ⟨[], .sp 1 0⟩), (8, ⟨[], .sl 2⟩), (9, ⟨[], .sv (slL (L.getD k eL))⟩), (10, ⟨[], .si .i64 (i : Int)⟩)]
def b51H (it ag : Int) (n : Nat) (r : Nat → Pp) (L : List EnL) : List (Nat × HB) := [(2, .vec 30 1 L.length (oL L)), (3, .fam 1 (famL L)), (1, .cells 24 (paA 0 it ag)), (0, .ro 5 n fun i => ppC (r i))]
def H51 (it ag : Int) (n : Nat) (r : Nat → Pp) (L : List EnL) (i : Nat) (l : List Bool) : List (Nat × HB) := if l.getD 6 false = true then (4, .ro 1 (chE L i).length (getI (chE L i))) :: b51H it ag n r L else b51H it ag n r L
def n51 (l : List Bool) : Nat := if l.getD 6 false = true then 9 else 4
theorem bd73 : Body P 73 := body_of Try.func73 (c := code Try.f73) rfl (by decide)
theorem den_foc {ρ : Env} {nx m c : Nat} {ad : Addr} {x y : SV} (h : ρ nx = some (.sl (some ad) m c 1)) : ∀ vals, denL ρ [x, .sv (.slice (some ad) m c), y] = some vals → denL ρ [x, .sl nx, y] = some vals := by
  have e : den ρ (.sl nx) = den ρ (.sv (.slice (some ad) m c)) := by simp [den, h, Value.oneCell']
  intro vals hv
  simp only [denL, e] at hv ⊢
  exact hv
theorem famL_get {L : List EnL} {i : Nat} (h : i < L.length) : famL L (slL (L.getD i eL)) (chE L i).length (getI (chE L i)) := ⟨L.getD i eL, by rw [List.getD, List.getElem?_eq_getElem h]; exact List.getElem_mem h, rfl, rfl, rfl⟩
/-- What holds of the chains that are gone through. -/
def ChOk (n : Nat) (L : List EnL) : Prop := L.length ≤ 900000 ∧ ∀ i, i < L.length → (chE L i).length ≤ 1000 ∧ ∀ j, j < (chE L i).length → 0 ≤ (chE L i).getD j 0 ∧ (chE L i).getD j 0 < n
section
variable {G : Base} {it ag y : Int} {n k i : Nat} {r : Nat → Pp} {L : List EnL} {K : Ex → St → Prop}
theorem reg51 (hX : (X51 G).Ok) (hG : ∀ j, 1 ≤ j → G.ρ j = none) (hr : PpOk ag n r) (hy : 0 ≤ y ∧ y ≤ 20) (hL : ChOk n L) (hi : i < L.length) (hk : k < L.length)
    (hK : K .normal ⟨(11, ⟨[], .si .i64 (sumD r (chE L i) y 0)⟩) :: (12, ⟨[], .si .i64 (sumD r (chE L k) y 0)⟩) :: b51F y L k i, [], b51H it ag n r L, 4, []⟩) :
    AnyS (X51 G) op51 13 (Array.replicate 13 false) ⟨b51F y L k i, [], b51H it ag n r L, 4, []⟩ K := by
  have hbi : (0 : Int) ≤ (i : Int) ∧ (i : Int) < (L.length : Int) := ⟨by omega, by omega⟩
  refine any_latU (D := []) hX 10 (arrZ 13 ix51 (fun _ => false)) (fun i => i) (exM 10) (sl51 it ag y r L k i) (b51F y L k i) (H51 it ag n r L i) n51 an51 3 (fun l => True) (fun _ _ _ => trivial) (fun i hi j hj => by have := an51_lt i j hj; omega) (latX_sym lat51) ?_ ?_ ?_ (List.replicate 10 false) rfl (by decide) trivial
  · repeat' (first | exact trivial | exact ⟨rfl, rfl⟩ | refine And.intro ?_ ?_)
  · intro j hj l hl hpl hf ha hcl
    rcases (show j = 6 ∨ j = 3 ∨ j = 0 ∨ j = 1 ∨ j = 2 ∨ j = 4 ∨ j = 5 ∨ j = 7 ∨ j = 8 ∨ j = 9 by omega) with rfl | rfl | rfl | rfl | rfl | rfl | rfl | rfl | rfl | rfl
    · have h6 := getF (show 6 < l.length by omega) hf
      refine ⟨_, rfl, rfl, fun tail Q Kn hC hK => ?_⟩
      simp only [H51, n51, getS (l := l) (i := 6) (by omega), h6, if_true, if_false, Bool.false_eq_true] at hK ⊢
      exact fb_call hX hC rfl rfl rfl rfl ⟨bd73, callS_focus 3 (chE L i).length (L.getD i eL).2.1 1 (L.getD i eL).1 (getI (chE L i)) rfl (famL_get hi) (l' := [.agg (paA 0 it ag), .sl 4, .si .i64 y]) (fun ρ h => den_foc h) (callS_ct (k73 good0) rfl ⟨pps_i _ _, ints_getI _ _, (hL.2 i hi).1, hr, (hL.2 i hi).2, hy⟩ (fun _ => hK) (fun ch h => by cases h))⟩
    · refine ⟨_, rfl, rfl, fun tail Q Kn hC hK => ?_⟩
      simp only [H51, n51, getN (l := l) (show 3 ≠ 6 by decide)] at hK ⊢
      cases h6 : l.getD 6 false <;> simp only [h6, if_true, if_false, Bool.false_eq_true] at hK ⊢ <;> exact Chk.mk hbi hK
    all_goals
      refine ⟨_, rfl, rfl, fun tail Q Kn hC hK => ?_⟩
      simp only [H51, n51, getN (l := l) (show 0 ≠ 6 by decide), getN (l := l) (show 1 ≠ 6 by decide), getN (l := l) (show 2 ≠ 6 by decide), getN (l := l) (show 4 ≠ 6 by decide), getN (l := l) (show 5 ≠ 6 by decide), getN (l := l) (show 7 ≠ 6 by decide), getN (l := l) (show 8 ≠ 6 by decide), getN (l := l) (show 9 ≠ 6 by decide)] at hK ⊢
      cases h6 : l.getD 6 false <;> simp only [h6, if_true, if_false, Bool.false_eq_true] at hK ⊢ <;> first | exact hK | exact fb_again hX hC rfl hK
  · intro l hl he
    match l, hl, he with
    | [a0, a1, a2, a3, a4, a5, a6, a7, a8, a9], _, he =>
      have he : (a0 && (a1 && (a2 && (a3 && (a4 && (a5 && (a6 && (a7 && (a8 && (a9 && true)))))))))) = true := he
      simp only [Bool.and_eq_true] at he
      obtain ⟨rfl, rfl, rfl, rfl, rfl, rfl, rfl, rfl, rfl, rfl, -⟩ := he
      refine any_step [10] hX (by kernel_rfl) (by decide) ⟨?_, trivial⟩
      refine fb_call hX cont_any rfl rfl rfl rfl ⟨bd73, callS_focus 3 (chE L k).length (L.getD k eL).2.1 1 (L.getD k eL).1 (getI (chE L k)) rfl (famL_get hk) (l' := [.agg (paA 0 it ag), .sl 9, .si .i64 y]) (fun ρ h => den_foc h) (callS_ct (k73 good0) rfl ⟨pps_i _ _, ints_getI _ _, (hL.2 k hk).1, hr, (hL.2 k hk).2, hy⟩ (fun _ => ?_) (fun ch h => by cases h))⟩
      refine any_step [11] hX (by kernel_rfl) (by decide) ⟨?_, trivial⟩
      refine any_step [12] hX (by kernel_rfl) (by decide) ⟨?_, trivial⟩
      refine any_weaken 1 (fun j => j) hG ?_ (any_done (by kernel_rfl) hK)
      have e1 : sumD r (intL (chE L i).length (intAt (getI (chE L i)))) y 0 = sumD r (chE L i) y 0 := by rw [intL_getI]
      have e2 : sumD r (intL (chE L k).length (intAt (getI (chE L k)))) y 0 = sumD r (chE L k) y 0 := by rw [intL_getI]
      refine ⟨?_, ?_, rfl, rfl, rfl, rfl, trivial⟩ <;> repeat' (first | exact trivial | exact rfl | exact e1 | exact e2 | exact List.Perm.refl _ | (intro i hi; exact ⟨rfl, rfl⟩) | (intro v m g h; exact h) | refine And.intro ?_ ?_)
end
end Go.X.Ps
end

section
set_option linter.unusedVariables false
set_option linter.unusedSimpArgs false
set_option linter.unusedSectionVars false
/- Pass: the best chain, as the document finds it. -/
set_option linter.unusedVariables false
set_option linter.unusedSimpArgs false
set_option maxRecDepth 10000
set_option maxHeartbeats 4000000
namespace Go.X.Ps
open Go Go.Proofs Go.X

theorem chE_mem {L : List EnL} {i : Nat} (h : i < L.length) : chE L i ∈ L.map (·.2.2) := by
  refine List.mem_map.2 ⟨L.getD i eL, ?_, rfl⟩
  rw [List.getD, List.getElem?_eq_getElem h]; exact List.getElem_mem h
def chF (r : Nat → Pp) (y : Int) (L : List EnL) (i : Nat) : Ch := ⟨chE L i, sumD r (chE L i) y 0⟩
theorem bestG_congrE {f g : Nat → Ch} : ∀ {n : Nat}, (∀ i, i < n → f i = g i) → bestG f n = bestG g n
  | 0, _ => rfl
  | n + 1, h => by
    have ih := bestG_congrE (n := n) (fun i hi => h i (by omega))
    unfold bestG
    rw [ih, h n (by omega)]
    by_cases e : n = 0
    · subst e; exact h 0 (by omega)
    · simp only [e, if_false]
theorem chsD_best {ag : Int} {n : Nat} {r : Nat → Pp} {q y : Int} {L : List EnL} (h : L.map (·.2.2) = chainsD ag n r (n + 1) [] q y) (h0 : 0 < L.length) : lstC (chsD ag n r q y) = some (bestG (chF r y L) L.length) := by
  have hl : (chsD ag n r q y).length = L.length := by unfold chsD; rw [← h]; simp
  unfold lstC
  rw [if_neg (by omega), hl]
  congr 1
  refine bestG_congrE fun i hi => ?_
  unfold chsD chF chE
  rw [← h]
  simp [List.getD, hi]
theorem chsD_nil {ag : Int} {n : Nat} {r : Nat → Pp} {q y : Int} {L : List EnL} (h : L.map (·.2.2) = chainsD ag n r (n + 1) [] q y) (h0 : L.length = 0) : lstC (chsD ag n r q y) = none := by
  have hl : (chsD ag n r q y).length = L.length := by unfold chsD; rw [← h]; simp
  unfold lstC
  rw [if_pos (by omega)]
theorem chOk_of {ag : Int} {n : Nat} {r : Nat → Pp} (hby : ∀ j, j < n → -1 ≤ (r j).by_) (hn : Few ag n r) (hn40 : n ≤ 40) {q y : Int} (hq : 0 ≤ q) {L : List EnL} (h : L.map (·.2.2) = chainsD ag n r (n + 1) [] q y) : ChOk n L := by
  have hb0 : BegOk n [] := ⟨List.nodup_nil, fun v hv => by cases hv⟩
  refine ⟨?_, fun i hi => ?_⟩
  · have h3 := hn q y
    have := congrArg List.length h
    simp only [List.length_map] at this
    omega
  · have hm := chE_mem hi
    rw [h] at hm
    obtain ⟨c, h1, h2, h3⟩ := chainsD_mem hby (by omega) List.nodup_nil hm
    rw [List.nil_append] at h2
    have hw := walkC_mem h1
    rw [← h2] at hw
    refine ⟨Nat.le_trans (nodup_le h3 hw) (by omega), fun j hj => ?_⟩
    obtain ⟨k, hk, e⟩ := hw _ (show (chE L i).getD j 0 ∈ chE L i by rw [List.getD, List.getElem?_eq_getElem hj]; exact List.getElem_mem hj)
    rw [e]
    omega
theorem bg_take {f : Nat → Ch} {i k : Nat} (hinv : f k = if i = 0 then f 0 else bestG f i) (h : lessV (f i) (f k) = true) : f i = if i + 1 = 0 then f 0 else bestG f (i + 1) := by
  rw [if_neg (by omega)]
  unfold bestG
  by_cases e : i = 0
  · subst e
    rw [if_pos rfl]
  · rw [if_neg e] at hinv ⊢
    rw [← hinv, if_pos h]
theorem bg_keep {f : Nat → Ch} {i k : Nat} (hinv : f k = if i = 0 then f 0 else bestG f i) (h : lessV (f i) (f k) = false) : f k = if i + 1 = 0 then f 0 else bestG f (i + 1) := by
  rw [if_neg (by omega)]
  unfold bestG
  by_cases e : i = 0
  · subst e
    rw [if_pos rfl] at hinv ⊢
    exact hinv
  · rw [if_neg e] at hinv ⊢
    rw [← hinv, if_neg (by rw [h]; decide)]
def vB (e : EnL) : Option Ch → SV
  | none => .tup [.sv (.slice none 0 0), .si .i64 (-1)]
  | some c => .tup [.sv (slL e), .si .i64 c.w]
def hB (n : Nat) (r : Nat → Pp) (L : List EnL) : Option Ch → List (Nat × HB)
  | none => [(0, .ro 5 n fun i => ppC (r i))]
  | some c => [(1, .fam 1 (famL L)), (0, .ro 5 n fun i => ppC (r i))]
def nB : Option Ch → Nat
  | none => 1
  | some _ => 2
def LeB (o : Option Ch) (L : List EnL) (e : EnL) : Prop := ∀ c, o = some c → e ∈ L ∧ e.2.2 = c.ps
theorem s51 {it ag : Int} {n : Nat} {r : Nat → Pp} (hr : PpOk ag n r) (hby : ∀ j, j < n → -1 ≤ (r j).by_) (hn : Few ag n r) {q y : Int} (hq : 0 ≤ q) (hy : 0 ≤ y ∧ y ≤ 20) {Rv : SV → List (Nat × HB) → Nat → Prop} {Rp : List PanicEntry → List (Nat × HB) → Nat → Prop}
    (hRv : ∀ o L e, o = bst ag n r q y → LeB o L e → Rv (vB e o) (hB n r L o) (nB o)) : CallS P 51 [.agg (paA 0 it ag), .si .i64 q, .si .i64 y] [(0, .ro 5 n fun i => ppC (r i))] 1 Rv Rp := by
  have g := g73 (g74 good0)
  have hpb : PpB ag n r := fun j hj => ⟨(hr.2.2 j hj).1.1, (hr.2.2 j hj).2.2.1⟩
  have hbest := best_eq hpb hby (q := q) (y := y) (by omega)
  obtain ⟨oo, hoo⟩ : ∃ o, o = bst ag n r q y := ⟨_, rfl⟩
  refine callS_toE (ι := {p : List EnL × EnL // LeB oo p.1 p.2}) g.ok Try.func51 (c := code Try.f51) rfl (Nat.le_of_ble_eq_true rfl) (fun x => vB x.1.2 oo) (fun x => hB n r x.1.1 oo) (nB oo) (fun G hG => ?_) (fun x => hRv oo _ _ hoo x.2)
  refine fb_call (g.ok _ _ _) cont_std rfl rfl rfl rfl ⟨b72, ?_⟩
  refine callS_at [.agg (paA 0 it ag), .si .i64 q, .si .i64 y] [(0, .ro 5 n fun i => ppC (r i))] 1 (fun j => j) (by repeat' (first | exact trivial | exact rfl | refine And.intro ?_ ?_)) rfl (by repeat' (first | exact trivial | exact rfl | (intro i hi; exact ⟨rfl, rfl⟩) | refine And.intro ?_ ?_)) rfl rfl ?_
  refine s72 hr hby hn hq hy (fun L hL => ⟨rfl, ?_, ?_, ?_⟩)
  · repeat' (first | exact trivial | exact rfl | refine And.intro ?_ ?_)
  · repeat' (first | exact trivial | exact rfl | (intro i hi; exact rfl) | refine And.intro ?_ ?_)
  have hC := chOk_of hby hn hr.1 hq hL
  refine Br.mk (fun h => ?_) (fun h => ?_)
  · have h : ((L.length : Nat) : Int) = 0 := of_decide_eq_true h
    have e : oo = none := by rw [hoo, ← hbest]; exact chsD_nil hL (by omega)
    subst e
    refine ⟨⟨([], eL), fun c h => by cases h⟩, (fun j => j), ?_, ?_, rfl, rfl, rfl, rfl⟩ <;> repeat' (first | exact trivial | exact rfl | (intro i hi; exact ⟨rfl, rfl⟩) | (intro v m g h; exact h) | refine And.intro ?_ ?_)
  have h : ¬ ((L.length : Nat) : Int) = 0 := of_decide_eq_false h
  have h0 : 0 < L.length := by omega
  refine Chk.mk (show (0 : Int) ≤ 0 ∧ (0 : Int) < (L.length : Int) from ⟨by omega, by omega⟩) ?_
  refine loop_okR (g.ok _ _ _) 1 (fun z : {p : Nat × Nat // p.1 ≤ L.length ∧ p.2 < L.length ∧ chF r y L p.2 = if p.1 = 0 then chF r y L 0 else bestG (chF r y L) p.1} => ⟨b51F y L z.1.2 z.1.1, [], b51H it ag n r L, 4, []⟩)
    (fun z => L.length - z.1.1) hG ⟨(0, 0), Nat.zero_le _, h0, rfl⟩ (fun j => j) ?_ ?_
  · refine ⟨?_, ?_, rfl, rfl, rfl, rfl, trivial⟩ <;> repeat' (first | exact trivial | exact rfl | exact List.Perm.refl _ | (intro i hi; exact ⟨rfl, rfl⟩) | (intro v m g h; exact h) | refine And.intro ?_ ?_)
  rintro ⟨⟨i, k⟩, hi, hk, hinv⟩
  have hi : i ≤ L.length := hi
  have hk : k < L.length := hk
  have hinv : chF r y L k = if i = 0 then chF r y L 0 else bestG (chF r y L) i := hinv
  refine Br.mk (fun h => ?_) (fun h => ?_)
  · have h : (i : Int) < (L.length : Int) := of_decide_eq_true h
    have hbi : (0 : Int) ≤ (i : Int) ∧ (i : Int) < (L.length : Int) := ⟨by omega, h⟩
    refine (show SemC _ _ _ _ from ?_)
    refine any_region fol ?_
    refine any_weaken (st' := ⟨b51F y L k i, [], b51H it ag n r L, 4, []⟩) 1 (fun j => j) hG (by
      refine ⟨?_, ?_, rfl, rfl, rfl, rfl, trivial⟩ <;> repeat' (first | exact trivial | exact rfl | exact List.Perm.refl _ | (intro i hi; exact ⟨rfl, rfl⟩) | (intro v m g h; exact h) | refine And.intro ?_ ?_)) ?_
    refine reg51 (g.ok _ _ _) hG hr hy hC (by omega) hk ?_
    obtain ⟨a, ha⟩ : ∃ a, sumD r (chE L i) y 0 = a := ⟨_, rfl⟩
    obtain ⟨b, hb⟩ : ∃ b, sumD r (chE L k) y 0 = b := ⟨_, rfl⟩
    rw [ha, hb]
    have hC1 := hC.1
    have hlv : lessV (chF r y L i) (chF r y L k) = (decide (a < b) || (decide (a = b) && (decide ((chE L i).length < (chE L k).length) || (decide ((chE L i).length = (chE L k).length) && befD (chE L i) (chE L k))))) := by
      rw [← lessD_eq, ← ha, ← hb]
      rfl
    by_cases hA : a < b
    · repeat (first | refine Chk.mk (under_of hbi) ?_ | refine fb_skip 43 false (g.ok _ _ _) cont_std rfl rfl rfl rfl rfl rfl rfl trivial (by show decide (a < b) = !false; simp [hA]) ?_)
      refine Br.mk (fun _ => ?_) (fun h2 => ?_)
      · refine Chk.mk hbi ?_
        refine Chk.mk (show InK .i64 ((i : Int) + 1) from ⟨by omega, by omega⟩) ⟨⟨(i + 1, i), by show i + 1 ≤ L.length; omega, by show i < L.length; omega, bg_take hinv (by rw [hlv]; simp [hA])⟩, (fun j => j), ?_, by show L.length - (i + 1) < L.length - i; omega⟩
        refine ⟨?_, ?_, rfl, rfl, rfl, rfl, trivial⟩ <;> repeat' (first | exact trivial | exact rfl | exact List.Perm.refl _ | (intro i hi; exact ⟨rfl, rfl⟩) | (intro v m g h; exact h) | refine And.intro ?_ ?_)
      · exfalso
        have h2 : (decide (a < b) || decide (a = b) && (false || false && false)) = false := h2
        simp [hA] at h2
    by_cases hB : a = b
    · refine Chk.mk (under_of hbi) ?_
      refine fb_run rfl rfl ⟨⟨trivial, rfl, (by show decide (a < b) = false; simp [hA])⟩, rfl, (by show decide (a = b) = true; simp [hB])⟩ ?_
      refine fb_focus 3 51 (chE L i).length (L.getD i eL).2.1 (L.getD i eL).1 (getI (chE L i)) (.sl 4) (g.ok _ _ _) cont_std rfl ⟨famL_get (by omega), rfl, ?_⟩
      refine fb_run rfl rfl ⟨trivial, rfl, (by show decide (a = b) = true; simp [hB])⟩ ?_
      refine fb_focus 3 53 (chE L k).length (L.getD k eL).2.1 (L.getD k eL).1 (getI (chE L k)) (.sl 5) (g.ok _ _ _) cont_std rfl ⟨famL_get hk, rfl, ?_⟩
      by_cases hCl : (chE L i).length < (chE L k).length
      · repeat (first | refine Chk.mk (under_of hbi) ?_ | refine fb_skip 56 false (g.ok _ _ _) cont_std rfl rfl rfl rfl rfl rfl rfl ⟨trivial, rfl, (by show decide (a = b) = true; simp [hB])⟩ (by show decide (((chE L i).length : Int) < ((chE L k).length : Int)) = !false; simp; omega) ?_)
        refine Br.mk (fun _ => ?_) (fun h2 => ?_)
        · refine Chk.mk hbi ?_
          refine Chk.mk (show InK .i64 ((i : Int) + 1) from ⟨by omega, by omega⟩) ⟨⟨(i + 1, i), by show i + 1 ≤ L.length; omega, by show i < L.length; omega, bg_take hinv (by rw [hlv]; simp [hA, hB, hCl])⟩, (fun j => j), ?_, by show L.length - (i + 1) < L.length - i; omega⟩
          refine ⟨?_, ?_, rfl, rfl, rfl, rfl, trivial⟩ <;> repeat' (first | exact trivial | exact rfl | exact List.Perm.refl _ | (intro i hi; exact ⟨rfl, rfl⟩) | (intro v m g h; exact h) | refine And.intro ?_ ?_)
        · exfalso
          have h2 : (decide (a < b) || decide (a = b) && (decide (((chE L i).length : Int) < ((chE L k).length : Int)) || false && false)) = false := h2
          simp [hB] at h2
          omega
      · refine Chk.mk (under_of hbi) ?_
        refine fb_run rfl rfl ⟨⟨trivial, rfl, (by show decide (a = b) = true; simp [hB])⟩, rfl, (by show decide (((chE L i).length : Int) < ((chE L k).length : Int)) = false; simp; omega)⟩ ?_
        refine fb_focus 3 60 (chE L i).length (L.getD i eL).2.1 (L.getD i eL).1 (getI (chE L i)) (.sl 6) (g.ok _ _ _) cont_std rfl ⟨famL_get (by omega), rfl, ?_⟩
        refine fb_run rfl rfl ⟨trivial, rfl, (by show decide (((chE L i).length : Int) < ((chE L k).length : Int)) = false; simp; omega)⟩ ?_
        refine fb_focus 3 62 (chE L k).length (L.getD k eL).2.1 (L.getD k eL).1 (getI (chE L k)) (.sl 7) (g.ok _ _ _) cont_std rfl ⟨famL_get hk, rfl, ?_⟩
        by_cases hD : (chE L i).length = (chE L k).length
        · refine Chk.mk (under_of hbi) ?_
          refine fb_run rfl rfl ⟨⟨trivial, rfl, (by show decide (((chE L i).length : Int) < ((chE L k).length : Int)) = false; simp; omega)⟩, rfl, (by show decide (((chE L i).length : Int) = ((chE L k).length : Int)) = true; simp; omega)⟩ ?_
          refine fb_focus 3 69 (chE L i).length (L.getD i eL).2.1 (L.getD i eL).1 (getI (chE L i)) (.sl 8) (g.ok _ _ _) cont_std rfl ⟨famL_get (by omega), rfl, ?_⟩
          refine fb_focus 3 70 (chE L k).length (L.getD k eL).2.1 (L.getD k eL).1 (getI (chE L k)) (.sl 9) (g.ok _ _ _) cont_std rfl ⟨famL_get hk, rfl, ?_⟩
          refine Chk.mk ⟨ints_getI _ _, ints_getI _ _, hD, (hC.2 i (by omega)).1⟩ ?_
          refine Br.mk (fun h2 => ?_) (fun h2 => ?_)
          · have h2 : (decide (a < b) || decide (a = b) && (decide (((chE L i).length : Int) < ((chE L k).length : Int)) || decide (((chE L i).length : Int) = ((chE L k).length : Int)) && befD (intL (chE L i).length (intAt (getI (chE L i)))) (intL (chE L k).length (intAt (getI (chE L k)))))) = true := h2
            rw [intL_getI, intL_getI] at h2
            have hE : befD (chE L i) (chE L k) = true := by simpa [hA, hB, hD] using h2
            refine Chk.mk hbi ?_
            refine Chk.mk (show InK .i64 ((i : Int) + 1) from ⟨by omega, by omega⟩) ⟨⟨(i + 1, i), by show i + 1 ≤ L.length; omega, by show i < L.length; omega, bg_take hinv (by rw [hlv]; simp [hB, hD, hE])⟩, (fun j => j), ?_, by show L.length - (i + 1) < L.length - i; omega⟩
            refine ⟨?_, ?_, rfl, rfl, rfl, rfl, trivial⟩ <;> repeat' (first | exact trivial | exact rfl | exact List.Perm.refl _ | (intro i hi; exact ⟨rfl, rfl⟩) | (intro v m g h; exact h) | refine And.intro ?_ ?_)
          · have h2 : (decide (a < b) || decide (a = b) && (decide (((chE L i).length : Int) < ((chE L k).length : Int)) || decide (((chE L i).length : Int) = ((chE L k).length : Int)) && befD (intL (chE L i).length (intAt (getI (chE L i)))) (intL (chE L k).length (intAt (getI (chE L k)))))) = false := h2
            rw [intL_getI, intL_getI] at h2
            have hE : befD (chE L i) (chE L k) = false := by simpa [hA, hB, hD] using h2
            refine Chk.mk (show InK .i64 ((i : Int) + 1) from ⟨by omega, by omega⟩) ⟨⟨(i + 1, k), by show i + 1 ≤ L.length; omega, hk, bg_keep hinv (by rw [hlv]; simp [hB, hD, hE])⟩, (fun j => j), ?_, by show L.length - (i + 1) < L.length - i; omega⟩
            refine ⟨?_, ?_, rfl, rfl, rfl, rfl, trivial⟩ <;> repeat' (first | exact trivial | exact rfl | exact List.Perm.refl _ | (intro i hi; exact ⟨rfl, rfl⟩) | (intro v m g h; exact h) | refine And.intro ?_ ?_)
        · repeat (first | refine Chk.mk (under_of hbi) ?_ | refine fb_skip 65 true (g.ok _ _ _) cont_std rfl rfl rfl rfl rfl rfl rfl ⟨trivial, rfl, (by show decide (((chE L i).length : Int) < ((chE L k).length : Int)) = false; simp; omega)⟩ (by show decide (((chE L i).length : Int) = ((chE L k).length : Int)) = !true; simp; omega) ?_)
          refine Br.mk (fun h2 => ?_) (fun _ => ?_)
          · exfalso
            have h2 : (decide (a < b) || decide (a = b) && (decide (((chE L i).length : Int) < ((chE L k).length : Int)) || decide (((chE L i).length : Int) = ((chE L k).length : Int)) && false)) = true := h2
            simp [hB] at h2
            omega
          · refine Chk.mk (show InK .i64 ((i : Int) + 1) from ⟨by omega, by omega⟩) ⟨⟨(i + 1, k), by show i + 1 ≤ L.length; omega, hk, bg_keep hinv (by rw [hlv]; simp [hA, hB, hCl, hD])⟩, (fun j => j), ?_, by show L.length - (i + 1) < L.length - i; omega⟩
            refine ⟨?_, ?_, rfl, rfl, rfl, rfl, trivial⟩ <;> repeat' (first | exact trivial | exact rfl | exact List.Perm.refl _ | (intro i hi; exact ⟨rfl, rfl⟩) | (intro v m g h; exact h) | refine And.intro ?_ ?_)
    · repeat (first | refine Chk.mk (under_of hbi) ?_ | refine fb_skip 47 true (g.ok _ _ _) cont_std rfl rfl rfl rfl rfl rfl rfl ⟨trivial, rfl, (by show decide (a < b) = false; simp [hA])⟩ (by show decide (a = b) = !true; simp [hB]) ?_)
      refine Br.mk (fun h2 => ?_) (fun _ => ?_)
      · exfalso
        have h2 : (decide (a < b) || decide (a = b) && (false || false && false)) = true := h2
        simp [hA, hB] at h2
      · refine Chk.mk (show InK .i64 ((i : Int) + 1) from ⟨by omega, by omega⟩) ⟨⟨(i + 1, k), by show i + 1 ≤ L.length; omega, hk, bg_keep hinv (by rw [hlv]; simp [hA, hB])⟩, (fun j => j), ?_, by show L.length - (i + 1) < L.length - i; omega⟩
        refine ⟨?_, ?_, rfl, rfl, rfl, rfl, trivial⟩ <;> repeat' (first | exact trivial | exact rfl | exact List.Perm.refl _ | (intro i hi; exact ⟨rfl, rfl⟩) | (intro v m g h; exact h) | refine And.intro ?_ ?_)
  · have h : ¬ (i : Int) < (L.length : Int) := of_decide_eq_false h
    obtain rfl : i = L.length := by omega
    rw [if_neg (by omega)] at hinv
    have e : oo = some (chF r y L k) := by rw [hoo, ← hbest, hinv]; exact chsD_best hL h0
    subst e
    refine fb_focus 3 82 (chE L k).length (L.getD k eL).2.1 (L.getD k eL).1 (getI (chE L k)) (.sl 4) (g.ok _ _ _) cont_std rfl ⟨famL_get hk, rfl, ?_⟩
    refine Chk.mk ⟨pps_i _ _, ints_getI _ _, (hC.2 k hk).1, hr, (hC.2 k hk).2, hy⟩ ?_
    have e2 : sumD r (intL (chE L k).length (intAt (getI (chE L k)))) y 0 = (chF r y L k).w := by rw [intL_getI]; rfl
    refine ⟨⟨(L, L.getD k eL), fun c hc => by cases hc; exact ⟨by rw [List.getD, List.getElem?_eq_getElem hk]; exact List.getElem_mem hk, rfl⟩⟩, (fun j => match j with | 1 => 3 | j => j), ?_, ?_, rfl, rfl, rfl, rfl⟩ <;> repeat' (first | exact trivial | exact rfl | exact e2 | (intro i hi; exact ⟨rfl, rfl⟩) | (intro v m g h; exact h) | refine And.intro ?_ ?_)
end Go.X.Ps
end
