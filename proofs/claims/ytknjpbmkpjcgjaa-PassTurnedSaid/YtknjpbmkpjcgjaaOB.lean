/- Contracts of functions of the package pass: the best chains of one more link. -/
import Derived.Test.YtknjpbmkpjcgjaaOA
import Derived.Test.YtknjpbmkpjcgjaaMJ

section
set_option linter.unusedVariables false
set_option linter.unusedSimpArgs false
set_option linter.unusedSectionVars false
/- Pass: what is read for one certificate, and the call, in whatever order. -/
set_option linter.unusedVariables false
set_option linter.unusedSimpArgs false
set_option maxRecDepth 10000
set_option maxHeartbeats 4000000
namespace Go.X.Ps
open Go Go.Proofs Go.X

/-- Certificates that are valid, as far as chains ask. -/
def PpOk (ag : Int) (n : Nat) (r : Nat → Pp) : Prop := n ≤ 40 ∧ (0 ≤ ag ∧ ag ≤ 20) ∧ ∀ i, i < n → (0 ≤ (r i).wr ∧ (r i).wr ≤ 50) ∧ (0 ≤ (r i).yr ∧ (r i).yr ≤ 20) ∧ 0 ≤ (r i).dr ∧ (r i).dr ≤ 10
/-- What a step of the recursion holds, between certificates. -/
def StZ (ag : Int) (n : Nat) (r : Nat → Pp) (C : Fam) (x y : Int) (k : Nat) : Type :=
  {p : Nat × List Cv × Fam × List (Ky × Option Cv) // p.1 ≤ n ∧ p.2.1.map Cv.ch = chainsC (bestW ag n r k) ag x y r p.1 ∧ (∀ c ∈ p.2.1, tells p.2.2.1 c) ∧ (∀ v n g, C v n g → p.2.2.1 v n g) ∧ KnOk ag n r p.2.2.1 p.2.2.2}
noncomputable def stT (it ag : Int) (n : Nat) (r : Nat → Pp) (om : List (SV × SV)) (x y : Int) (k : Nat) (L : List Cv) (C : Fam) (es : List (Ky × Option Cv)) : List (Nat × HB) :=
  [(14, .dfr), (16, .vec 72 2 L.length fun j => cvC (L.getD j cv0)), (9, .cells 113 [.sl 16]),
    (8, .cells 112 [.si .i64 x, .si .i64 y, .si .i64 ((k + 1 : Nat) : Int)]), (10, .cells 114 [.fn (.func 76) [.agg [.si .i64 x, .si .i64 y]] []]), (11, .cells 63 [.sp 1 0]), (12, .cells 80 [.si .i64 x, .si .i64 y])] ++ bsH it ag n r om C es
noncomputable def loH (fn : Nat) (s : LoopState) : HB := .loop [(3, .sp 5 0), (4, .sp 8 0), (8, .sp 9 0), (9, .sp 10 0)] Try.f75.ntmps fn [41, 42] (rfA (code Try.f75)) (rfB (code Try.f75)) 14 s none
noncomputable def stH (it ag : Int) (n : Nat) (r : Nat → Pp) (om : List (SV × SV)) (x y : Int) (k fn : Nat) (L : List Cv) (C : Fam) (es : List (Ky × Option Cv)) : List (Nat × HB) :=
  (15, loH fn .ready) :: stT it ag n r om x y k L C es
noncomputable def buH (it ag : Int) (n : Nat) (r : Nat → Pp) (om : List (SV × SV)) (x y : Int) (k fn i : Nat) (L : List Cv) (C : Fam) (es : List (Ky × Option Cv)) : List (Nat × HB) :=
  (15, loH fn .busy) :: (17, .cells 49 (ppC (r i))) :: stT it ag n r om x y k L C es
noncomputable def stF (n i : Nat) : List (Nat × FE) := [(0, ⟨[], .fy 15⟩), (1, ⟨[], .sp 11 0⟩), (2, ⟨[], .sp 12 0⟩), (10, ⟨[], .sl 0⟩), (11, ⟨[], .si .i64 n⟩), (12, ⟨[], .si .i64 i⟩)]
theorem b77 : Body P 77 := body_of Try.func77 (c := code Try.f77) rfl (by decide)
def Ih (it ag : Int) (n : Nat) (r : Nat → Pp) (om : List (SV × SV)) (k : Nat) : Prop :=
  ∀ {C : Fam} {es : List (Ky × Option Cv)} {x y : Int} {Rv : SV → List (Nat × HB) → Nat → Prop} {Rp : List PanicEntry → List (Nat × HB) → Nat → Prop}, KnOk ag n r C es → BsR it ag n r om C x y k Rv → CallS P 75 (bsA x y (k : Int)) (bsH it ag n r om C es) 8 Rv Rp

section
variable {it ag : Int} {n : Nat} {r : Nat → Pp} {om : List (SV × SV)} {k : Nat} {x y : Int} {fn i : Nat} {L : List Cv} {C1 : Fam} {es1 : List (Ky × Option Cv)} {G : Base} {rr : Option Nat} {K : Ex → St → Prop}
/-- What follows a call. -/
def AftC (it ag : Int) (n : Nat) (r : Nat → Pp) (om : List (SV × SV)) (x y : Int) (k fn i : Nat) (L : List Cv) (C1 : Fam) (K : Ex → St → Prop) : Prop :=
  ∀ (C2 : Fam) (es2 : List (Ky × Option Cv)) (v : Option Cv), (∀ v n g, C1 v n g → C2 v n g) → KnOk ag n r C2 es2 → v.map Cv.ch = bestW ag n r k (r i).by_ (r i).yr → (∀ c, v = some c → tells C2 c) →
    K .normal ⟨slF (slo15 v) (base15 v i) [true, true, true, true, true, true, true], [], (47, .cells 74 (cvC (chD v))) :: (47, .cells 74 (cvC cv0)) :: (46, .cells 49 (ppC (r i))) :: buH it ag n r om x y k fn i L C2 es2, 48, []⟩
theorem call12B (hk9 : k ≤ 100) (hG : ∀ j, 46 ≤ j → G.ρ j = none) (ih : Ih it ag n r om k) (hK1 : KnOk ag n r C1 es1) (hk : AftC it ag n r om x y k fn i L C1 K) :
    AnyS (X12 G rr) ops12 7 (arr12 [true, true, true, true, true, true, true, true, true]) ⟨slF (slo12 x y k (r i)) (rdB i) [true, true, true, true, true, true, true, true, true], [], (47, .cells 74 (cvC cv0)) :: rdH x y k (r i) (buH it ag n r om x y k fn i L C1 es1), 48, []⟩ K := by
  have hk1 : ((k + 1 : Nat) : Int) - 1 = (k : Int) := by omega
  refine any_step [8] x12_ok (by kernel_rfl) (by decide) ⟨?_, trivial⟩
  refine fb_call x12_ok cont_any rfl rfl rfl rfl ⟨b75, ?_⟩
  refine callS_at (bsA (r i).by_ (r i).yr (k : Int)) (bsH it ag n r om C1 es1) 8 (fun j => j) ?_ rfl (by repeat' (first | exact trivial | exact rfl | exact List.Perm.refl _ | (intro i hi; exact ⟨rfl, rfl⟩) | (intro v m g h; exact h) | refine And.intro ?_ ?_)) rfl rfl ?_
  · repeat' (first | exact trivial | exact rfl | exact hk1 | refine And.intro ?_ ?_)
  refine ih hK1 fun C2 es2 v hC2 hK2 hv hvt => ?_
  refine ⟨rfl, (by repeat' (first | exact trivial | exact rfl | refine And.intro ?_ ?_)), (by repeat' (first | exact trivial | exact rfl | (intro i hi; exact rfl) | refine And.intro ?_ ?_)), ?_⟩
  have hW := (tail12 (G := G) (rr := rr) (hk C2 es2 v hC2 hK2 hv hvt)).2
  cases v with
  | none =>
    refine any_weaken 46 (fun j => j) hG ?_ hW
    refine ⟨?_, ?_, injI_id _, rfl, rfl, rfl, trivial⟩
    · repeat' (first | exact trivial | exact rfl | refine And.intro ?_ ?_)
    · repeat' (first | exact trivial | exact rfl | exact List.Perm.refl _ | (intro i hi; exact ⟨rfl, rfl⟩) | (intro v m g h; exact h) | refine allV_find ?_ | refine And.intro ?_ ?_)
  | some c =>
    refine any_weaken 46 (fun j => j) hG ?_ hW
    refine ⟨?_, ?_, injI_id _, rfl, rfl, rfl, trivial⟩
    · repeat' (first | exact trivial | exact rfl | refine And.intro ?_ ?_)
    · repeat' (first | exact trivial | exact rfl | exact List.Perm.refl _ | (intro i hi; exact ⟨rfl, rfl⟩) | (intro v m g h; exact h) | refine allV_find ?_ | refine And.intro ?_ ?_)
theorem call12 (hk9 : k ≤ 100) (hG : ∀ j, 46 ≤ j → G.ρ j = none) (ih : Ih it ag n r om k) (hK1 : KnOk ag n r C1 es1) (hk : AftC it ag n r om x y k fn i L C1 K) :
    AnyS (X12 G rr) ops12 16 (Array.replicate 16 false) ⟨rdB i, [], rdH x y k (r i) (buH it ag n r om x y k fn i L C1 es1), 47, []⟩ K := by
  have hk1 : ((k + 1 : Nat) : Int) - 1 = (k : Int) := by omega
  have hB := call12B (rr := rr) hk9 hG ih hK1 hk
  refine pure12 hk9 ?_ hB
  refine any_step [8, 13] x12_ok (by kernel_rfl) (by decide) ⟨?_, ?_, trivial⟩
  · refine fb_call x12_ok cont_any rfl rfl rfl rfl ⟨b75, ?_⟩
    refine callS_at (bsA (r i).by_ (r i).yr (k : Int)) (bsH it ag n r om C1 es1) 8 (fun j => j) ?_ rfl (by repeat' (first | exact trivial | exact rfl | exact List.Perm.refl _ | (intro i hi; exact ⟨rfl, rfl⟩) | (intro v m g h; exact h) | refine And.intro ?_ ?_)) rfl rfl ?_
    · repeat' (first | exact trivial | exact rfl | exact hk1 | refine And.intro ?_ ?_)
    refine ih hK1 fun C2 es2 v hC2 hK2 hv hvt => ?_
    refine ⟨rfl, (by repeat' (first | exact trivial | exact rfl | refine And.intro ?_ ?_)), (by repeat' (first | exact trivial | exact rfl | (intro i hi; exact rfl) | refine And.intro ?_ ?_)), ?_⟩
    have hW := (tail12 (G := G) (rr := rr) (hk C2 es2 v hC2 hK2 hv hvt)).1
    cases v with
    | none =>
      refine any_weaken 46 (fun j => j) hG ?_ hW
      refine ⟨?_, ?_, injI_id _, rfl, rfl, rfl, trivial⟩
      · repeat' (first | exact trivial | exact rfl | refine And.intro ?_ ?_)
      · repeat' (first | exact trivial | exact rfl | exact List.Perm.refl _ | (intro i hi; exact ⟨rfl, rfl⟩) | (intro v m g h; exact h) | refine allV_find ?_ | refine And.intro ?_ ?_)
    | some c =>
      refine any_weaken 46 (fun j => j) hG ?_ hW
      refine ⟨?_, ?_, injI_id _, rfl, rfl, rfl, trivial⟩
      · repeat' (first | exact trivial | exact rfl | refine And.intro ?_ ?_)
      · repeat' (first | exact trivial | exact rfl | exact List.Perm.refl _ | (intro i hi; exact ⟨rfl, rfl⟩) | (intro v m g h; exact h) | refine allV_find ?_ | refine And.intro ?_ ?_)
  · refine any_weaken 46 (fun j => j) hG ?_ hB
    refine ⟨?_, ?_, injI_id _, rfl, rfl, rfl, trivial⟩
    · repeat' (first | exact trivial | exact rfl | refine And.intro ?_ ?_)
    · repeat' (first | exact trivial | exact rfl | exact List.Perm.refl _ | (intro i hi; exact ⟨rfl, rfl⟩) | (intro v m g h; exact h) | refine allV_find ?_ | refine And.intro ?_ ?_)
end
end Go.X.Ps
end

section
set_option linter.unusedVariables false
set_option linter.unusedSimpArgs false
set_option linter.unusedSectionVars false
/- Pass: the best chain, a step of the recursion. -/
set_option linter.unusedVariables false
set_option linter.unusedSimpArgs false
set_option maxRecDepth 10000
set_option maxHeartbeats 4000000
namespace Go.X.Ps
open Go Go.Proofs Go.X

theorem adds_in {ag it y : Int} {x : Pp} (ha : 0 ≤ ag ∧ ag ≤ 20) (hx : (0 ≤ x.wr ∧ x.wr ≤ 50) ∧ (0 ≤ x.yr ∧ x.yr ≤ 20) ∧ 0 ≤ x.dr ∧ x.dr ≤ 10) (h : holdsV it y x ag = true) :
    (InK .i64 (y - x.yr) ∧ InK .i64 (x.dr * (y - x.yr)) ∧ InK .i64 (x.wr + x.dr * (y - x.yr))) ∧ 0 ≤ addsV y x ∧ addsV y x ≤ 250 := by
  have h : (decide (x.of = it) && (decide (x.yr ≤ y) && decide (y ≤ x.yr + ag))) = true := h
  simp only [Bool.and_eq_true, decide_eq_true_eq] at h
  have hz : 0 ≤ x.dr * (y - x.yr) ∧ x.dr * (y - x.yr) ≤ 10 * 20 := ⟨Int.mul_nonneg hx.2.2.1 (by omega), Int.mul_le_mul hx.2.2.2 (by omega) (by omega) (by omega)⟩
  unfold addsV
  exact ⟨⟨⟨by omega, by omega⟩, ⟨by omega, by omega⟩, ⟨by omega, by omega⟩⟩, by omega, by omega⟩
theorem le_1000 {a k : Nat} (h : k ≤ 100) (h2 : a ≤ k) : a ≤ 1000 := by omega
theorem sum_in {k : Nat} {a w : Int} (h : k ≤ 100) (h1 : 0 ≤ a ∧ a ≤ 250) (h2 : 0 ≤ w ∧ w ≤ 250 * (k : Int)) : InK .i64 (a + w) := ⟨by omega, by omega⟩
theorem pos_1 (a : Nat) : 0 < 1 + a := by omega
theorem getD_snoc {L : List Cv} {c : Cv} {j : Nat} {get2 : Nat → List SV} (h2 : get2 0 = cvC c) (hj : j < L.length + 1) : cvC ((L ++ [c]).getD j cv0) = if j < L.length then cvC (L.getD j cv0) else get2 (j - L.length) := by
  split
  · rename_i h; simp [List.getD, List.getElem?_append_left h]
  · rename_i h
    obtain rfl : j = L.length := by omega
    simp [List.getD, h2]
theorem chainsC_len {rec : Int → Int → Option Ch} {age it y : Int} {r : Nat → Pp} : ∀ m, (chainsC rec age it y r m).length ≤ m
  | 0 => Nat.le_refl _
  | m + 1 => by
    have := chainsC_len (rec := rec) (age := age) (it := it) (y := y) (r := r) m
    rw [chainsC, List.length_append]
    have h1 : (oneC rec age it y m (r m)).length ≤ 1 := by
      unfold oneC
      split
      · split <;> simp
      · simp
    omega
theorem len_ok {n i : Nat} {L : List Cv} {rec : Int → Int → Option Ch} {age it y : Int} {r : Nat → Pp} (hn : n ≤ 40) (hi : i ≤ n) (hL : L.map Cv.ch = chainsC rec age it y r i) : L.length + 1 ≤ 1000000 := by
  have h := congrArg List.length hL
  rw [List.length_map] at h
  have := chainsC_len (rec := rec) (age := age) (it := it) (y := y) (r := r) i
  omega
theorem cn_eq {cn : Cv} {ad : Addr} {cap i : Nat} {ps : List Int} {w : Int} (h : cn = ⟨some (ad, cap), (i : Int) :: ps, w⟩) : [SV.sv (.slice (some ad) (1 + ps.length) cap), .si .i64 w] = cvC cn := by
  subst h
  simp [cvC, Cv.v, Nat.add_comm]
theorem cn_get {i : Nat} {ps : List Int} (x : Nat → Int) (hx : x 0 = (i : Int)) : (fun j => intC (joinA 1 x (intAt (getI ps)) j)) = getI ((i : Int) :: ps) := by
  funext j
  cases j with
  | zero => simp [joinA, getI, intC, hx]
  | succ j => simp [joinA, getI, intC, intAt]
theorem cn_tells {cn : Cv} {C : Fam} {ad : Addr} {cap i : Nat} {ps : List Int} {w : Int} (h : cn = ⟨some (ad, cap), (i : Int) :: ps, w⟩) (x : Nat → Int) (hx : x 0 = (i : Int)) (hl : ps.length + 1 ≤ 100) : tells (addC C (.slice (some ad) (1 + ps.length) cap) (1 + ps.length) (fun j => intC (joinA 1 x (intAt (getI ps)) j))) cn := by
  subst h
  rw [cn_get x hx]
  refine ⟨.inr ⟨ad, cap, rfl, .inl ⟨?_, ?_, rfl⟩⟩, hl⟩
  · show Value.slice _ (ps.length + 1) cap = _
    rw [Nat.add_comm]
  · show ps.length + 1 = _
    rw [Nat.add_comm]
theorem snoc_len {α : Type} {L : List α} {c : α} : L.length + 1 = (L ++ [c]).length := by simp
theorem lst_best {L : List Cv} (h : 0 < L.length) : lstC (L.map Cv.ch) = some (bestF (fun j => L.getD j cv0) L.length).ch := by
  unfold lstC
  rw [if_neg (by rw [List.length_map]; omega), List.length_map, bestF_G]
  congr 1
  refine bestG_congr fun i hi => ?_
  simp [List.getD, hi]
theorem s75_s {it ag : Int} {n : Nat} {r : Nat → Pp} {om : List (SV × SV)} {k : Nat} (hk9 : k ≤ 99) (hr : PpOk ag n r) (ih : Ih it ag n r om k)
    {C : Fam} {es : List (Ky × Option Cv)} (hK : KnOk ag n r C es) {x y : Int} {Rv : SV → List (Nat × HB) → Nat → Prop} {Rp : List PanicEntry → List (Nat × HB) → Nat → Prop}
    (hk : BsR it ag n r om C x y (k + 1) Rv) : CallS P 75 (bsA x y ((k + 1 : Nat) : Int)) (bsH it ag n r om C es) 8 Rv Rp := by
  have g := g76 (g79 (g78 (g92 good0)))
  refine callS_toEM (ι := BsE it ag n r C x y (k + 1)) g.ok Try.func75 (c := code Try.f75) rfl (Nat.le_of_ble_eq_true rfl) (fun p => encT p.1.2.2) (fun p => bsH it ag n r om p.1.1 p.1.2.1) 8 (fun G hG => ?_) (fun p => hk _ _ _ p.2.1 p.2.2.1 p.2.2.2.1 p.2.2.2.2)
  refine Br.mk (fun h => ?_) (fun h => ?_)
  · have h : decide (x = -1) = true := h
    have h : x = -1 := of_decide_eq_true h
    refine ⟨⟨(C, es, some cv0), fun _ _ _ h => h, hK, by simp [bestW, h, Cv.ch, cv0, ch0], fun c e => by cases e; exact tells0 C⟩, (fun j => j), ?_, ?_, rfl, rfl, rfl, rfl⟩ <;> repeat' (first | exact trivial | exact rfl | exact List.Perm.refl _ | (intro i hi; exact ⟨rfl, rfl⟩) | (intro v m g h; exact h) | refine And.intro ?_ ?_)
  have h : decide (x = -1) = false := h
  have hx : ¬ x = -1 := of_decide_eq_false h
  refine fb_lookup encK encT es ⟨x, y, ((k + 1 : Nat) : Int)⟩ 6 (g.ok _ _ _) cont_std rfl rfl rfl rfl rfl rfl rfl rfl rfl encK_key encT_cl rfl rfl rfl ?_
  intro hnd
  refine ⟨fun v hv => ?_, fun hv => ?_⟩
  · have hv' := hK _ _ hv
    cases v with
    | none =>
      refine Br.mk (fun _ => ?_) (fun h => by cases h)
      refine ⟨⟨(C, es, none), fun _ _ _ h => h, hK, hv'.1, hv'.2⟩, (fun j => j), ?_, ?_, rfl, rfl, rfl, rfl⟩ <;> repeat' (first | exact trivial | exact rfl | exact List.Perm.refl _ | (intro i hi; exact ⟨rfl, rfl⟩) | (intro v m g h; exact h) | refine And.intro ?_ ?_)
    | some c =>
    refine Br.mk (fun _ => ?_) (fun h => by cases h)
    refine ⟨⟨(C, es, some c), fun _ _ _ h => h, hK, hv'.1, hv'.2⟩, (fun j => j), ?_, ?_, rfl, rfl, rfl, rfl⟩ <;> repeat' (first | exact trivial | exact rfl | exact List.Perm.refl _ | (intro i hi; exact ⟨rfl, rfl⟩) | (intro v m g h; exact h) | refine And.intro ?_ ?_)
  refine Br.mk (fun h => by cases h) (fun _ => ?_)
  refine Br.mk (fun _ => ?_) (fun h => by have h : decide ((0 : Int) < ((k + 1 : Nat) : Int)) = false := h; have := of_decide_eq_false h; omega)
  refine fb_call (g.ok _ _ _) cont_std rfl rfl rfl rfl ⟨b77, ?_⟩
  refine callS_exec g.ok Try.func77 (c := code Try.f77) rfl (Nat.le_of_ble_eq_true rfl) fun G2 hG2 => ?_
  refine nil_cell 9 113 72 2 (fun i => cvC (L0 i)) rfl ?_
  refine rangeFunc_ok (g.ok _ _ _) rfl rfl rfl b91 ?_
  intro fn
  refine callS_exec g.ok Try.func91 (c := code Try.f91) rfl (Nat.le_of_ble_eq_true rfl) fun G3 hG3 => ?_
  refine loop_okR (g.ok _ _ _) 16 (fun z : StZ ag n r C x y k => ⟨stF n z.1.1, [], stH it ag n r om x y k fn z.1.2.1 z.1.2.2.1 z.1.2.2.2, 17, []⟩) (fun z => n - z.1.1) hG3 ⟨(0, [], C, es), Nat.zero_le _, rfl, fun c h => (List.not_mem_nil h).elim, fun _ _ _ h => h, hK⟩ (fun j => match j with | 16 => 13 | j => j) ?_ ?_
  · refine ⟨?_, ?_, rfl, rfl, rfl, rfl, trivial⟩
    · repeat' (first | exact trivial | exact rfl | refine And.intro ?_ ?_)
    · repeat' (first | exact trivial | exact rfl | exact List.Perm.refl _ | (intro i hi; exact ⟨rfl, rfl⟩) | (intro v m g h; exact h) | refine allV_find ?_ | refine And.intro ?_ ?_)
  rintro ⟨⟨i, L, C1, es1⟩, hi, hL, hT, hC, hK1⟩
  refine Br.mk (fun h => ?_) (fun h => ?_)
  · have h : (i : Int) < (n : Int) := of_decide_eq_true h
    refine Chk.mk (show (0 : Int) ≤ (i : Int) ∧ (i : Int) < (n : Int) from ⟨by omega, by omega⟩) ?_
    refine drawn_ok (g.ok _ _ _) fol [0,0,0,4,12,28,60,127,255] [] 7 (by kernel_rfl) ?_
    have hri := hr.2.2 i (by omega)
    refine Chk.mk (show InK .i64 ((r i).yr + ag) from ⟨by have := hr.2.1; omega, by have := hr.2.1; omega⟩) ?_
    refine Br.mk (fun h2 => ?_) (fun h2 => ?_)
    · have h2 : (!holdsV x y (r i) ag) = true := h2
      refine Chk.mk (show InK .i64 ((i : Int) + 1) from ⟨by omega, by have := hr.1; omega⟩) ⟨⟨(i + 1, L, C1, es1), by show i + 1 ≤ n; omega, ?_, hT, hC, hK1⟩, (fun j => j), ?_, by show n - (i + 1) < n - i; omega⟩
      · show L.map Cv.ch = chainsC _ ag x y r (i + 1)
        rw [chainsC, ← hL, oneC, if_neg (by simpa using h2), List.append_nil]
      · refine ⟨?_, ?_, rfl, rfl, rfl, rfl, trivial⟩
        · repeat' (first | exact trivial | exact rfl | refine And.intro ?_ ?_)
        · repeat' (first | exact trivial | exact rfl | exact List.Perm.refl _ | (intro i hi; exact ⟨rfl, rfl⟩) | (intro v m g h; exact h) | refine allV_find ?_ | refine And.intro ?_ ?_)
    · have h2 : (!holdsV x y (r i) ag) = false := h2
      refine fb_yield 15 g.ok (g.ok _ _ _) cont_std rfl rfl rfl rfl rfl rfl rfl rfl rfl (by decide) ?_
      intro G4 rr hG4
      refine (show SemC _ _ _ _ from ?_)
      refine any_region fol ?_
      refine any_weaken (st' := ⟨rdB i, [], rdH x y k (r i) (buH it ag n r om x y k fn i L C1 es1), 47, []⟩) 46 (fun j => j) hG4 (by
        refine ⟨?_, ?_, injI_id _, rfl, rfl, rfl, trivial⟩
        · repeat' (first | exact trivial | exact rfl | refine And.intro ?_ ?_)
        · repeat' (first | exact trivial | exact rfl | exact List.Perm.refl _ | (intro i hi; exact ⟨rfl, rfl⟩) | (intro v m g h; exact h) | refine allV_find ?_ | refine And.intro ?_ ?_)) ?_
      refine call12 (fn := fn) (L := L) (by omega) hG4 ih hK1 ?_
      intro C2 es2 v hC2 hK2 hv hvt
      have h2 : holdsV x y (r i) ag = true := by simpa using h2
      have hn40 := hr.1
      cases v with
      | none =>
        refine Br.mk (fun h => by cases h) (fun _ => ?_)
        refine Br.mk (fun h => by cases h) (fun _ => ?_)
        refine Chk.mk (show InK .i64 ((i : Int) + 1) from ⟨by omega, by have := hr.1; omega⟩) ⟨⟨(i + 1, L, C2, es2), by show i + 1 ≤ n; omega, ?_, fun c hc => tells_mono hC2 (hT c hc), fun v n g h => hC2 v n g (hC v n g h), hK2⟩, (fun j => j), ?_, by show n - (i + 1) < n - i; omega⟩
        · show L.map Cv.ch = chainsC _ ag x y r (i + 1)
          have hv : none = bestW ag n r k (r i).by_ (r i).yr := hv
          rw [chainsC, ← hL, oneC, if_pos h2, ← hv, List.append_nil]
        · refine ⟨?_, ?_, rfl, rfl, rfl, rfl, trivial⟩
          · repeat' (first | exact trivial | exact rfl | refine And.intro ?_ ?_)
          · repeat' (first | exact trivial | exact rfl | exact List.Perm.refl _ | (intro i hi; exact ⟨rfl, rfl⟩) | (intro v m g h; exact h) | refine allV_find ?_ | refine And.intro ?_ ?_)
      | some c =>
        refine Br.mk (fun _ => ?_) (fun h => by cases h)
        refine sem_lookCell 7 47 74 c.ps.length 1 c.v (getI c.ps) (cvC c) [.sl 48, .si .i64 c.w] rfl rfl (hvt c rfl).1 rfl ?_
        refine drawn_ok x12_ok fol [0,0,2,0,8,24,62,126,0,256,0,2046,0,4096,12288,32766,65534,131070,262143,524287] [] 18 (by kernel_rfl) ?_
        have hb := bestW_bound hr.2.1 hr.2.2 k _ _ c.ch hv.symm
        have hb1 : c.ps.length ≤ k := hb.1
        obtain ⟨q1, q2⟩ := adds_in hr.2.1 hri h2
        refine Chk.mk ⟨⟨fun j hj => by obtain rfl : j = 0 := by omega
                                       rfl, ints_getI _ _⟩, by decide, le_1000 (by omega) hb1⟩ (Chk.mk q1
          (Chk.mk (sum_in (by omega) q2 hb.2) ?_))
        refine fb_freeze 77 7 [] [117] x12_ok cont_std rfl ⟨rfl, pos_1 _, fun i hi => rfl, rfl, rfl, by decide, fun ad cap => ?_⟩
        obtain ⟨cn, hcn⟩ : ∃ cn : Cv, cn = ⟨some (ad, cap), (i : Int) :: c.ps, addsV y (r i) + c.w⟩ := ⟨_, rfl⟩
        refine fb_append (Te := 0) 16 117 L.length 1 (fun j => cvC (L.getD j cv0)) _ (fun j => cvC ((L ++ [cn]).getD j cv0)) x12_ok cont_std rfl rfl rfl rfl rfl rfl rfl rfl rfl rfl rfl rfl (by decide) (by decide) rfl rfl rfl rfl ?_ ?_ ?_
        · exact len_ok (i := i) hn40 (by omega) hL
        · exact fun j hj => getD_snoc (c := cn) (get2 := fun q => takeL 2 (dropL (q * 2) [SV.sv (.slice (some ad) (1 + c.ps.length) cap), SV.si .i64 (addsV y (r i) + c.w)])) (cn_eq hcn) hj
        · refine Br.mk (fun h => by cases h) (fun _ => ?_)
          refine Chk.mk (show InK .i64 ((i : Int) + 1) from ⟨by omega, by omega⟩) ⟨⟨(i + 1, L ++ [cn], addC C2 (.slice (some ad) (1 + c.ps.length) cap) (1 + c.ps.length) (fun j => intC (joinA 1 (intAt fun q => takeL 1 (dropL (q * 1) [SV.si IntKind.i64 (i : Int)])) (intAt (getI c.ps)) j)), es2), by show i + 1 ≤ n; omega, ?_, ?_, fun v n g h => .inr (hC2 v n g (hC v n g h)), hK2.mono fun v n g h => .inr h⟩, (fun j => match j with | 16 => 121 | j => j), ?_, by show n - (i + 1) < n - i; omega⟩
          · show (L ++ [cn]).map Cv.ch = chainsC _ ag x y r (i + 1)
            have hv : some c.ch = bestW ag n r k (r i).by_ (r i).yr := hv
            rw [List.map_append, chainsC, ← hL, oneC, if_pos h2, ← hv, hcn]
            rfl
          · intro q hq
            rcases List.mem_append.1 hq with hq | hq
            · exact tells_mono (fun v n g h => .inr (hC2 v n g h)) (hT q hq)
            · obtain rfl := List.mem_singleton.1 hq
              exact cn_tells hcn _ rfl (by omega)
          · refine ⟨?_, ?_, rfl, rfl, rfl, rfl, trivial⟩
            · repeat' (first | exact trivial | exact rfl | refine And.intro ?_ ?_)
            · repeat' (first | exact trivial | exact rfl | exact List.Perm.refl _ | exact snoc_len | (intro i hi; exact ⟨rfl, rfl⟩) | (intro v m g h; exact h) | refine allV_find ?_ | refine And.intro ?_ ?_)
  · have h : ¬ (i : Int) < (n : Int) := of_decide_eq_false h
    obtain rfl : i = n := by omega
    have hLn : L.length ≤ 1000 := by
      have h1 : (L.map Cv.ch).length = (chainsC (bestW ag i r k) ag x y r i).length := congrArg List.length hL
      rw [List.length_map] at h1
      have := chainsC_len (rec := bestW ag i r k) (age := ag) (it := x) (y := y) (r := r) i
      have := hr.1
      omega
    have htl : ∀ j, j < L.length → tells C1 (L.getD j cv0) := fun j hj => by
      have : L.getD j cv0 = L[j] := by simp [List.getD, hj]
      rw [this]
      exact hT _ (List.getElem_mem hj)
    have hbw : bestW ag i r (k + 1) x y = lstC (L.map Cv.ch) := by
      unfold bestW
      rw [if_neg hx, ← hL]
    refine fb_call (g.ok _ _ _) cont_std rfl rfl rfl rfl ⟨b80, ?_⟩
    refine callS_at [.sl 0, .agg [.fn (.func 81) [] []]] (lsH C1 L.length fun j => L.getD j cv0) 2 (fun j => match j with | 0 => 16 | _ => 7) (by repeat' (first | exact trivial | exact rfl | refine And.intro ?_ ?_)) rfl (by repeat' (first | exact trivial | exact rfl | (intro i hi; exact ⟨rfl, rfl⟩) | (intro v m g h; exact h) | refine And.intro ?_ ?_)) rfl rfl ?_
    refine s80 hLn htl ?_
    refine ⟨rfl, (by repeat' (first | exact trivial | exact rfl | refine And.intro ?_ ?_)), (by repeat' (first | exact trivial | exact rfl | (intro i hi; exact rfl) | refine And.intro ?_ ?_)), ?_⟩
    obtain ⟨b, hb⟩ : ∃ b, bestF (fun j => L.getD j cv0) L.length = b := ⟨_, rfl⟩
    rw [hb]
    refine Br.mk (fun h2 => ?_) (fun h2 => ?_)
    · have h2 : decide ((0 : Int) < (L.length : Int)) = true := h2
      have h2 : (0 : Int) < (L.length : Int) := of_decide_eq_true h2
      have e0 : (some b).map Cv.ch = bestW ag i r (k + 1) x y := by rw [hbw, lst_best (by omega), hb]; rfl
      have e1 : ∀ c, some b = some c → tells C1 c := fun c e => by cases e; rw [← hb]; exact bestF_tells htl
      refine fb_update encK encT es1 ⟨x, y, ((k + 1 : Nat) : Int)⟩ (some b) _ rfl 6 (g.ok _ _ _) cont_std rfl (.inl rfl) rfl rfl rfl rfl encK_key encT_cl rfl rfl rfl rfl ?_
      intro _
      refine ⟨⟨(C1, updA es1 ⟨x, y, ((k + 1 : Nat) : Int)⟩ (some b), some b), hC, hK1.upd e0 e1, e0, e1⟩, (fun j => j), ?_, ?_, rfl, rfl, rfl, rfl⟩ <;> repeat' (first | exact trivial | exact rfl | exact List.Perm.refl _ | (intro i hi; exact ⟨rfl, rfl⟩) | (intro v m g h; exact h) | refine And.intro ?_ ?_)
    · have h2 : decide ((0 : Int) < (L.length : Int)) = false := h2
      have h2 : ¬ (0 : Int) < (L.length : Int) := of_decide_eq_false h2
      have e0 : (none : Option Cv).map Cv.ch = bestW ag i r (k + 1) x y := by rw [hbw, lstC, if_pos (by rw [List.length_map]; omega)]; rfl
      have e1 : ∀ c, (none : Option Cv) = some c → tells C1 c := fun c e => by cases e
      refine fb_update encK encT es1 ⟨x, y, ((k + 1 : Nat) : Int)⟩ none _ rfl 6 (g.ok _ _ _) cont_std rfl (.inl rfl) rfl rfl rfl rfl encK_key encT_cl rfl rfl rfl rfl ?_
      intro _
      refine ⟨⟨(C1, updA es1 ⟨x, y, ((k + 1 : Nat) : Int)⟩ none, none), hC, hK1.upd e0 e1, e0, e1⟩, (fun j => j), ?_, ?_, rfl, rfl, rfl, rfl⟩ <;> repeat' (first | exact trivial | exact rfl | exact List.Perm.refl _ | (intro i hi; exact ⟨rfl, rfl⟩) | (intro v m g h; exact h) | refine And.intro ?_ ?_)
end Go.X.Ps
end
