/- Sums of lists of certificates; how a chain by numbers goes on, in whatever order. -/
import Derived.Test.YtknjpbmkpjcgjaaOQ
import Derived.Test.YtknjpbmkpjcgjaaMJ

section
set_option linter.unusedVariables false
set_option linter.unusedSimpArgs false
set_option linter.unusedSectionVars false
/- Pass: what the certificates of a list add together, as the law asks. -/
set_option linter.unusedVariables false
set_option linter.unusedSimpArgs false
set_option maxRecDepth 10000
set_option maxHeartbeats 4000000
namespace Go.X.Ps
open Go Go.Proofs Go.X

/-- May a certificate come next in a chain? -/
def stepB (ag q y : Int) (x : Pp) : Bool := !(!decide (x.of = q) || decide (y < x.yr) || decide (ag < y - x.yr))
def sumV (ag : Int) (n : Nat) (r : Nat → Pp) : List Int → Nat → Int → Int → Int → Int × Bool
  | [], _, q, _, acc => (acc, decide (q < 0))
  | k :: l, used, q, y, acc => if k < 0 ∨ (n : Int) ≤ k ∨ used.testBit k.toNat = true then (0, false)
      else if stepB ag q y (r k.toNat) = true then sumV ag n r l (used ||| 2 ^ k.toNat) (r k.toNat).by_ (r k.toNat).yr (acc + ((r k.toNat).wr + (r k.toNat).dr * (y - (r k.toNat).yr))) else (0, false)
def c32 : Ct := fun fr args H => match args with
  | [.agg l, .sl li, .si .i64 q, .si .i64 y] => (match sliceOf 1 H li with
    | some (m, g) => passK H l fun i1 it ag n get => some ⟨some (Pps n get ∧ Ints m g ∧ m ≤ 1000 ∧ PpOk ag n (ppAt get) ∧ 0 ≤ y ∧ y ≤ 20), none, .tup [.si .i64 (sumV ag n (ppAt get) (intL m (intAt g)) 0 q y 0).1, .sb (sumV ag n (ppAt get) (intL m (intAt g)) 0 q y 0).2], []⟩
    | none => none)
  | _ => none
theorem c32_mono : CtMono c32 := by
  intro fr args H H' out hH h
  unfold c32 at h ⊢
  split at h
  · split at h
    · rename_i e
      simp only [sliceOf_mono hH e]
      exact passK_mono hH h
    · cases h
  · cases h
theorem k32 {l : List (Nat × Ct)} (g0 : Good P T l) : COk P 32 c32 := by
  have g := good0
  refine cok (C := tabC _) g.ok Try.func32 (c := code Try.f32) rfl fun fr args H out h hp => ?_
  unfold c32 at h
  split at h
  case h_2 => cases h
  rename_i l li q y
  split at h
  case h_2 => cases h
  rename_i m gg e2
  obtain ⟨i1, it, ag, n, get, rfl, e1, h⟩ := passK_some h
  cases h
  obtain ⟨hs, hsi, hm, hr, hy⟩ : Pps n get ∧ Ints m gg ∧ m ≤ 1000 ∧ PpOk ag n (ppAt get) ∧ 0 ≤ y ∧ y ≤ 20 := hp
  generalize hf : intAt gg = f at hsi ⊢
  have hh : Hand H [(i1, .ro 5 n fun i => ppC (ppAt get i)), (li, .ro 1 m fun i => intC (f i))] := hand_mk ⟨sliceOf_piece e1 fun i hi => (hs i hi).symm, sliceOf_piece e2 fun i hi => by rw [hsi i hi, hf]; rfl, trivial⟩
    (by repeat' (first | exact trivial | (intro i hi; exact ⟨trivial, trivial⟩) | (intro i hi; exact ⟨trivial, trivial, trivial, trivial, trivial, trivial⟩) | refine And.intro ?_ ?_)) rfl
  refine ⟨[(i1, .ro 5 n fun i => ppC (ppAt get i)), (li, .ro 1 m fun i => intC (f i))], [.agg (paA 0 it ag), .sl 1, .si .i64 q, .si .i64 y], [(0, .ro 5 n fun i => ppC (ppAt get i)), (1, .ro 1 m fun i => intC (f i))], 2, [], rfl, rfl, Nat.le_of_ble_eq_true rfl, hh, rfl, rfl, fun G hG => ?_⟩
  generalize ppAt get = L at hr ⊢
  generalize hV : sumV ag n L (intL m f) 0 q y 0 = V
  have hn := hr.1
  refine loop_okR (g.ok _ _ _) 2 (fun z : {p : Nat × Nat × Int × Int × Int // p.1 ≤ m ∧ p.2.1 < 2 ^ n ∧ (0 ≤ p.2.2.2.1 ∧ p.2.2.2.1 ≤ 20) ∧ (0 ≤ p.2.2.2.2 ∧ p.2.2.2.2 ≤ 250 * (p.1 : Int)) ∧ sumV ag n L ((intL m f).drop p.1) p.2.1 p.2.2.1 p.2.2.2.1 p.2.2.2.2 = V} => ⟨[(2, ⟨[], .si .i64 z.1.2.2.1⟩), (3, ⟨[], .si .i64 z.1.2.2.2.1⟩), (4, ⟨[], .sp 2 0⟩), (8, ⟨[], .si .i64 z.1.2.2.2.2⟩), (10, ⟨[], .si .i64 (z.1.2.1 : Int)⟩), (14, ⟨[], .sl 1⟩), (15, ⟨[], .si .i64 (m : Int)⟩), (16, ⟨[], .si .i64 (z.1.1 : Int)⟩)], [], [(2, .cells 24 (paA 0 it ag)), (0, .ro 5 n fun i => ppC (L i)), (1, .ro 1 m fun i => intC (f i))], 3, []⟩)
    (fun z => m - z.1.1) hG ⟨(0, 0, q, y, 0), Nat.zero_le _, Nat.two_pow_pos n, hy, ⟨Int.le_refl _, Int.le_refl _⟩, hV⟩ (fun j => j) ?_ ?_
  · refine ⟨?_, ?_, rfl, rfl, rfl, rfl, trivial⟩ <;> repeat' (first | exact trivial | exact rfl | exact List.Perm.refl _ | (intro i hi; exact ⟨rfl, rfl⟩) | refine And.intro ?_ ?_)
  rintro ⟨⟨i, used, q', y', acc⟩, hi, hu, hy', hacc, hinv⟩
  have hi : i ≤ m := hi
  have hu : used < 2 ^ n := hu
  have hy' : 0 ≤ y' ∧ y' ≤ 20 := hy'
  have hacc : 0 ≤ acc ∧ acc ≤ 250 * (i : Int) := hacc
  have hinv : sumV ag n L ((intL m f).drop i) used q' y' acc = V := hinv
  refine Br.mk (fun h => ?_) (fun h => ?_)
  · have h : (i : Int) < (m : Int) := of_decide_eq_true h
    refine Chk.mk (show (0 : Int) ≤ (i : Int) ∧ (i : Int) < (m : Int) from ⟨by omega, h⟩) ?_
    have hdrop : (intL m f).drop i = f i :: (intL m f).drop (i + 1) := by
      rw [List.drop_eq_getElem_cons (by rw [intL_len]; omega)]
      congr 1
      simp [intL]
    rw [hdrop, sumV] at hinv
    have hu40 : 2 ^ n ≤ 2 ^ 40 := Nat.pow_le_pow_right (by decide) hn
    have hk1 : ∀ {b : Bool}, (decide (f i < 0) || decide ((n : Int) ≤ f i)) = b → b = false → 0 ≤ f i ∧ f i < (n : Int) := fun h1 h2 => by
      rw [h2, Bool.or_eq_false_iff] at h1
      exact ⟨Int.not_lt.1 (of_decide_eq_false h1.1), Int.not_le.1 (of_decide_eq_false h1.2)⟩
    have hfd : 0 ≤ (used : Int).fdiv (2 ^ (f i).toNat) ∧ InK .i64 ((used : Int).fdiv (2 ^ (f i).toNat)) := by
      have e : (used : Int).fdiv (2 ^ (f i).toNat) = (used : Int) / ((2 ^ (f i).toNat : Nat) : Int) := by
        rw [show (2 : Int) ^ (f i).toNat = ((2 ^ (f i).toNat : Nat) : Int) by push_cast; rfl, Int.fdiv_eq_ediv_of_nonneg _ (Int.natCast_nonneg _)]
      rw [e]
      have h1 : 0 ≤ (used : Int) / ((2 ^ (f i).toNat : Nat) : Int) := Int.ediv_nonneg (by omega) (Int.natCast_nonneg _)
      have h2 : (used : Int) / ((2 ^ (f i).toNat : Nat) : Int) ≤ used := Int.ediv_le_self _ (by omega)
      exact ⟨h1, by omega, by omega⟩
    have hbit : decide (((((used : Int).fdiv (2 ^ (f i).toNat)).toNat &&& (1 : Int).toNat : Nat) : Int) = 1) = used.testBit (f i).toNat := by
      have := hasB_eq (S := (used : Int)) (Int.natCast_nonneg _) (f i).toNat
      rw [Int.toNat_natCast] at this
      rw [this]
      rfl
    refine Chk.mk (fun hg => ⟨(hk1 hg rfl).1, by have := hk1 hg rfl; show (f i).toNat ≤ 64; omega⟩) (Chk.mk (under_of ⟨hfd.1, by decide, hfd.2, ⟨by decide, by decide⟩⟩) ?_)
    refine Br.mk (fun h2 => ?_) (fun h2 => ?_)
    · have h2 : (decide (f i < 0) || decide ((n : Int) ≤ f i) || decide (((((used : Int).fdiv (2 ^ (f i).toNat)).toNat &&& (1 : Int).toNat : Nat) : Int) = 1)) = true := h2
      rw [hbit] at h2
      rw [if_pos (by simpa [or_assoc] using h2)] at hinv
      exact ⟨.inl rfl, end_noid ⟨⟨rfl, congrArg Prod.fst hinv⟩, congrArg Prod.snd hinv, trivial⟩ rfl rfl (by repeat' (first | exact trivial | exact rfl | (intro i hi; exact ⟨rfl, rfl⟩) | refine And.intro ?_ ?_))⟩
    have h2 : (decide (f i < 0) || decide ((n : Int) ≤ f i) || decide (((((used : Int).fdiv (2 ^ (f i).toNat)).toNat &&& (1 : Int).toNat : Nat) : Int) = 1)) = false := h2
    rw [hbit] at h2
    obtain ⟨hk0, hkn⟩ := hk1 (Bool.or_eq_false_iff.1 h2).1 rfl
    have hnb : used.testBit (f i).toNat = false := (Bool.or_eq_false_iff.1 h2).2
    rw [if_neg (by rw [hnb]; simp; omega)] at hinv
    obtain ⟨k, hk⟩ : ∃ k : Nat, f i = (k : Int) := ⟨(f i).toNat, by omega⟩
    have hkn' : k < n := by omega
    have hpk : 2 ^ k ≤ 2 ^ 40 := Nat.pow_le_pow_right (by decide) (by omega)
    have hp2 : (1 : Int) * 2 ^ (f i).toNat = ((2 ^ k : Nat) : Int) := by rw [hk, Int.toNat_natCast]; push_cast; omega
    obtain ⟨pk, hpk2⟩ : ∃ pk : Nat, pk = 2 ^ k := ⟨_, rfl⟩
    rw [← hpk2] at hpk hp2
    have hin2 : InK .i64 ((1 : Int) * 2 ^ (f i).toNat) := by rw [hp2]; exact ⟨by omega, by omega⟩
    have hin3 : (0 : Int) ≤ (1 : Int) * 2 ^ (f i).toNat := by rw [hp2]; omega
    refine Chk.mk ⟨hk0, (show (f i).toNat ≤ 64 by omega), hin2⟩ (Chk.mk ⟨(show (0 : Int) ≤ (used : Int) by omega), hin3, (show InK .i64 (used : Int) from ⟨by omega, by omega⟩), hin2⟩ ?_)
    refine Chk.mk ⟨hk0, hkn⟩ ?_
    have hx := hr.2.2 k hkn'
    have hkt : (f i).toNat = k := by omega
    rw [hkt] at hinv
    refine Chk.mk (under_of (show InK .i64 (y' - (L (f i).toNat).yr) by rw [hkt]; exact ⟨by omega, by omega⟩)) ?_
    refine Br.mk (fun h3 => ?_) (fun h3 => ?_)
    · have h3 : (!decide ((L (f i).toNat).of = q') || decide (y' < (L (f i).toNat).yr) || decide (ag < y' - (L (f i).toNat).yr)) = true := h3
      rw [hkt] at h3
      rw [if_neg (by unfold stepB; rw [h3]; decide)] at hinv
      exact ⟨.inl rfl, end_noid ⟨⟨rfl, congrArg Prod.fst hinv⟩, congrArg Prod.snd hinv, trivial⟩ rfl rfl (by repeat' (first | exact trivial | exact rfl | (intro i hi; exact ⟨rfl, rfl⟩) | refine And.intro ?_ ?_))⟩
    have h3 : (!decide ((L (f i).toNat).of = q') || decide (y' < (L (f i).toNat).yr) || decide (ag < y' - (L (f i).toNat).yr)) = false := h3
    rw [hkt] at h3
    rw [if_pos (by unfold stepB; rw [h3]; rfl)] at hinv
    simp only [Bool.or_eq_false_iff, decide_eq_false_iff_not] at h3
    obtain ⟨⟨_, h3b⟩, h3c⟩ := h3
    have hag := hr.2.1
    have hdm : 0 ≤ (L k).dr * (y' - (L k).yr) ∧ (L k).dr * (y' - (L k).yr) ≤ 10 * 20 := ⟨Int.mul_nonneg hx.2.2.1 (by omega), Int.mul_le_mul hx.2.2.2 (by omega) (by omega) (by decide)⟩
    refine Chk.mk (show InK .i64 (y' - (L (f i).toNat).yr) by rw [hkt]; exact ⟨by omega, by omega⟩) (Chk.mk (show InK .i64 ((L (f i).toNat).dr * (y' - (L (f i).toNat).yr)) by rw [hkt]; exact ⟨by omega, by omega⟩) (Chk.mk (show InK .i64 ((L (f i).toNat).wr + (L (f i).toNat).dr * (y' - (L (f i).toNat).yr)) by rw [hkt]; exact ⟨by omega, by omega⟩) (Chk.mk (show InK .i64 (acc + ((L (f i).toNat).wr + (L (f i).toNat).dr * (y' - (L (f i).toNat).yr))) by rw [hkt]; exact ⟨by omega, by omega⟩) ?_)))
    refine drawn_ok (g.ok _ _ _) fol [0,1,0,4,3,31] [] 6 (by kernel_rfl) ?_
    have hor : (((used : Int).toNat ||| ((1 : Int) * 2 ^ (f i).toNat).toNat : Nat) : Int) = ((used ||| 2 ^ k : Nat) : Int) := by rw [hp2, Int.toNat_natCast, Int.toNat_natCast, hpk2]
    refine Chk.mk (show InK .i64 ((i : Int) + 1) from ⟨by omega, by omega⟩) ⟨⟨(i + 1, used ||| 2 ^ k, (L k).by_, (L k).yr, acc + ((L k).wr + (L k).dr * (y' - (L k).yr))), by show i + 1 ≤ m; omega, Nat.or_lt_two_pow hu (Nat.pow_lt_pow_right (by decide) hkn'), ⟨hx.2.1.1, hx.2.1.2⟩, ⟨by show 0 ≤ acc + ((L k).wr + (L k).dr * (y' - (L k).yr)); omega, by show acc + ((L k).wr + (L k).dr * (y' - (L k).yr)) ≤ 250 * ((i + 1 : Nat) : Int); omega⟩, hinv⟩, (fun j => j), ?_, by show m - (i + 1) < m - i; omega⟩
    refine ⟨?_, ?_, rfl, rfl, rfl, rfl, trivial⟩ <;> repeat' (first | exact trivial | exact rfl | exact hor | exact congrArg (fun j => (L j).by_) hkt | exact congrArg (fun j => (L j).yr) hkt | exact congrArg (fun j => acc + ((L j).wr + (L j).dr * (y' - (L j).yr))) hkt | exact List.Perm.refl _ | (intro i hi; exact ⟨rfl, rfl⟩) | refine And.intro ?_ ?_)
  · have h : ¬ (i : Int) < (m : Int) := of_decide_eq_false h
    obtain rfl : i = m := by omega
    rw [List.drop_eq_nil_of_le (by rw [intL_len]; omega), sumV] at hinv
    exact ⟨.inl rfl, end_noid ⟨⟨rfl, congrArg Prod.fst hinv⟩, congrArg Prod.snd hinv, trivial⟩ rfl rfl (by repeat' (first | exact trivial | exact rfl | (intro i hi; exact ⟨rfl, rfl⟩) | refine And.intro ?_ ?_))⟩
theorem g32 {l : List (Nat × Ct)} (g : Good P T l) : Good P T ((32, c32) :: l) := g.add (k32 g) c32_mono (body_of Try.func32 (c := code Try.f32) rfl (by decide))
end Go.X.Ps
end

section
set_option linter.unusedVariables false
set_option linter.unusedSimpArgs false
set_option linter.unusedSectionVars false
/- Regions of any order: one operation between the others, behind a premise on what has run. -/
set_option linter.unusedVariables false
set_option linter.unusedSimpArgs false
set_option maxRecDepth 10000
set_option maxHeartbeats 4000000
namespace Go.X
open Go
theorem any_latF {D : List SDef} {X : Cx} {ops : Array Oper} {K : Ex → St → Prop} (hX : X.Ok) (m : Nat) (arr arr1 : List Bool → Array Bool) (opi : Nat → Nat) (ci : Nat) (slots : Nat → List (Nat × FE)) (base : List (Nat × FE)) (sx base1 : List Bool → List (Nat × FE)) (Hf : List Bool → List (Nat × HB)) (nxf : List Bool → Nat) (H1 : List Bool → List (Nat × HB)) (nx1 : List Bool → Nat) (anc : Nat → List Nat) (ancc : List Nat) (rest : Nat) (PP : List Bool → Prop) (hPP : ∀ l i, PP l → PP (l.set i true))
    (hanc : ∀ i, i < m → ∀ j ∈ anc i, j < m) (hancc : ∀ j ∈ ancc, j < m) (hchk : ∀ l ∈ allB m, latC ops m arr arr1 opi ci anc ancc l = true)
    (hA0 : subF (slF slots base (List.replicate m true)) (slF slots base (List.replicate m true))) (hsx : ∀ l, subF (sx l) (sx l))
    (hb1 : ∀ l, ∀ p ∈ base1 l, p ∈ sx l ∨ (p ∈ base ∧ ∀ q ∈ sx l, q.1 ≠ p.1)) (hsk : ∀ i, i < m → ∀ l, ∀ p ∈ slots i, ∀ q ∈ sx l, q.1 ≠ p.1)
    (hst : ∀ i, i < m → ∀ l : List Bool, l.length = m → PP l → l.getD i true = false → (∀ j ∈ anc i, l.getD j false = true) → clB2 anc l = true → ∃ o, ops[opi i]? = some o ∧ o.guard = none ∧ ∀ (tail : List (Nat × FE)) (Q : Exit → Act → World → Prop) (Kn : St → Prop), Cont X Q Kn (fun _ _ => False) → Kn ⟨slots i ++ ((anc i).flatMap slots ++ (base ++ tail)), [], Hf (l.set i true), nxf (l.set i true), D⟩ →
      execL X [o] Q Kn (fun _ _ => False) 0 [o] ⟨(anc i).flatMap slots ++ (base ++ tail), [], Hf l, nxf l, D⟩)
    (hcall : ∀ l : List Bool, l.length = m → PP l → (∀ j ∈ ancc, l.getD j false = true) → clB2 anc l = true → ∃ o, ops[ci]? = some o ∧ o.guard = none ∧ ∀ (tail : List (Nat × FE)) (Q : Exit → Act → World → Prop) (Kn : St → Prop), Cont X Q Kn (fun _ _ => False) → Kn ⟨sx l ++ (ancc.flatMap slots ++ (base ++ tail)), [], H1 l, nx1 l, D⟩ →
      execL X [o] Q Kn (fun _ _ => False) 0 [o] ⟨ancc.flatMap slots ++ (base ++ tail), [], Hf l, nxf l, D⟩)
    (hend : ∀ l : List Bool, l.length = m → clB2 anc l = true → PP l → (∀ j ∈ ancc, l.getD j false = true) → AnyS X ops (l.count false + rest) (arr1 l) ⟨slF slots (base1 l) l, [], H1 l, nx1 l, D⟩ K) :
    ∀ l : List Bool, l.length = m → clB2 anc l = true → PP l → AnyS X ops (l.count false + (rest + 1)) (arr l) ⟨slF slots base l, [], Hf l, nxf l, D⟩ K := by
  have hA' := subF_all hA0
  have key : ∀ l : List Bool, l.length = m → (∀ p ∈ ancc.flatMap slots ++ (base ++ slF slots base l), p ∈ slF slots base l) → ∀ t e, findF (slF slots (base1 l) l) t = some e → findF (sx l ++ (ancc.flatMap slots ++ (base ++ slF slots base l))) t = some e ∧ e.gp = [] := by
    intro l hl hmem t e h
    have hp := findF_in h
    have old : (t, e) ∈ slF slots base l → (∀ q ∈ sx l, q.1 ≠ t) → findF (sx l ++ (ancc.flatMap slots ++ (base ++ slF slots base l))) t = some e ∧ e.gp = [] := by
      intro h1 h2
      rw [findF_skip h2]
      refine ⟨(findF_mem (A := slF slots base (List.replicate m true)) (L := ancc.flatMap slots ++ (base ++ slF slots base l)) fun p hp => (hA' p (slF_all hl (hmem p hp))).1).2 ?_, (hA' _ (slF_all hl h1)).2⟩
      exact List.mem_append_right _ (List.mem_append_right _ h1)
    rcases slF_mem.1 hp with ⟨i, hi, hd, h1⟩ | h1
    · exact old (slF_mem.2 (.inl ⟨i, hi, hd, h1⟩)) fun q hq => hsk i (hl ▸ hi) l _ h1 q hq
    · rcases hb1 l _ h1 with h2 | ⟨h2, h3⟩
      · obtain ⟨f1, f2⟩ := subF_all (hsx l) _ h2
        exact ⟨findF_left f1, f2⟩
      · exact old (slF_mem.2 (.inr h2)) h3
  have main : ∀ k, ∀ l : List Bool, l.length = m → clB2 anc l = true → PP l → l.count false = k → AnyS X ops (k + (rest + 1)) (arr l) ⟨slF slots base l, [], Hf l, nxf l, D⟩ K := by
    intro k
    induction k with
    | zero =>
      intro l hl hcl hpl hk
      have hc := hchk l (hl ▸ mem_allB l)
      unfold latC at hc
      rw [hcl] at hc
      simp only [Bool.not_true, Bool.false_or, Bool.and_eq_true, Bool.or_eq_true, Bool.not_eq_true', List.all_eq_true, List.any_eq_true, beq_iff_eq] at hc
      obtain ⟨hne, hrs⟩ := hc
      refine ⟨fun ρ a w hmod => ?_⟩
      rw [show 0 + (rest + 1) = rest + 1 by omega]
      refine wpAnyIn_all (rs := Region.ready .any ops (arr l)) rfl (by intro h; rw [h] at hne; cases hne) fun oi hi => ?_
      rcases hrs oi hi with ⟨rfl, hia, hset⟩ | ⟨i, him, rfl, hif, _, _⟩
      · obtain ⟨o, ho, hg, hstep⟩ := hcall l hl hpl hia hcl
        have hmem : ∀ p ∈ ancc.flatMap slots ++ (base ++ slF slots base l), p ∈ slF slots base l := by
          intro p hp
          rcases List.mem_append.1 hp with hp | hp
          · obtain ⟨j, hj, hp⟩ := List.mem_flatMap.1 hp
            exact slF_mem.2 (.inl ⟨j, hl ▸ hancc j hj, hia j hj, hp⟩)
          · rcases List.mem_append.1 hp with hp | hp
            · exact slF_mem.2 (.inr hp)
            · exact hp
        have hmod' := mod_sub (F' := ancc.flatMap slots ++ (base ++ slF slots base l)) hA' (fun p => slF_all hl) hmem (Nat.le_refl _) hmod
        refine stepsK_ok hX (l := [oi]) (K := K) (st := ⟨ancc.flatMap slots ++ (base ++ slF slots base l), [], Hf l, nxf l, D⟩) ⟨?_, trivial⟩ oi (List.mem_singleton.2 rfl) ρ a w hmod'
        have hnth : nth ops.toList oi = some o := by rw [nth_eq, Array.getElem?_toList]; exact ho
        rw [hnth]
        show (match o.guard with
          | none => _
          | some _ => False)
        rw [hg]
        refine hstep _ _ _ cont_any ?_
        rw [hset]
        refine ⟨fun ρ a w hm2 => ?_⟩
        have he := hend l hl hcl hpl hia
        rw [hk, Nat.zero_add] at he
        refine he.h ρ a w (mod_find (F := sx l ++ (ancc.flatMap slots ++ (base ++ slF slots base l))) (key l hl hmem) hm2)
      · have him : i < m := List.mem_range.1 him
        have hil : i < l.length := by omega
        have hli2 : l[i] = false := by
          rw [List.getD, List.getElem?_eq_getElem hil] at hif
          simpa using hif
        have : false ∈ l := hli2 ▸ List.getElem_mem hil
        have := List.count_pos_iff.2 this
        omega
    | succ k ih =>
      intro l hl hcl hpl hk
      have hc := hchk l (hl ▸ mem_allB l)
      unfold latC at hc
      rw [hcl] at hc
      simp only [Bool.not_true, Bool.false_or, Bool.and_eq_true, Bool.or_eq_true, Bool.not_eq_true', List.all_eq_true, List.any_eq_true, beq_iff_eq] at hc
      obtain ⟨hne, hrs⟩ := hc
      refine ⟨fun ρ a w hmod => ?_⟩
      rw [show k + 1 + (rest + 1) = (k + (rest + 1)) + 1 by omega]
      refine wpAnyIn_all (rs := Region.ready .any ops (arr l)) rfl (by intro h; rw [h] at hne; cases hne) fun oi hi => ?_
      rcases hrs oi hi with ⟨rfl, hia, hset⟩ | ⟨i, him, rfl, hif, hia, hset⟩
      · obtain ⟨o, ho, hg, hstep⟩ := hcall l hl hpl hia hcl
        have hmem : ∀ p ∈ ancc.flatMap slots ++ (base ++ slF slots base l), p ∈ slF slots base l := by
          intro p hp
          rcases List.mem_append.1 hp with hp | hp
          · obtain ⟨j, hj, hp⟩ := List.mem_flatMap.1 hp
            exact slF_mem.2 (.inl ⟨j, hl ▸ hancc j hj, hia j hj, hp⟩)
          · rcases List.mem_append.1 hp with hp | hp
            · exact slF_mem.2 (.inr hp)
            · exact hp
        have hmod' := mod_sub (F' := ancc.flatMap slots ++ (base ++ slF slots base l)) hA' (fun p => slF_all hl) hmem (Nat.le_refl _) hmod
        refine stepsK_ok hX (l := [oi]) (K := K) (st := ⟨ancc.flatMap slots ++ (base ++ slF slots base l), [], Hf l, nxf l, D⟩) ⟨?_, trivial⟩ oi (List.mem_singleton.2 rfl) ρ a w hmod'
        have hnth : nth ops.toList oi = some o := by rw [nth_eq, Array.getElem?_toList]; exact ho
        rw [hnth]
        show (match o.guard with
          | none => _
          | some _ => False)
        rw [hg]
        refine hstep _ _ _ cont_any ?_
        rw [hset]
        refine ⟨fun ρ a w hm2 => ?_⟩
        have he := hend l hl hcl hpl hia
        rw [hk, show k + 1 + rest = k + (rest + 1) by omega] at he
        refine he.h ρ a w (mod_find (F := sx l ++ (ancc.flatMap slots ++ (base ++ slF slots base l))) (key l hl hmem) hm2)
      · have him : i < m := List.mem_range.1 him
        have hil : i < l.length := by omega
        obtain ⟨o, ho, hg, hstep⟩ := hst i him l hl hpl hif hia hcl
        have hlen : (l.set i true).length = m := by rw [List.length_set, hl]
        have hget : ∀ j, (l.set i true).getD j false = true ↔ j = i ∨ l.getD j false = true := by
          intro j
          simp only [List.getD, List.getElem?_set]
          by_cases e : i = j
          · subst e; simp [hil]
          · simp [e, Ne.symm e]
        have hcl' : clB2 anc (l.set i true) = true := by
          unfold clB2 at hcl ⊢
          rw [List.all_eq_true] at hcl ⊢
          intro j hj
          rw [List.length_set] at hj
          have h0 := hcl j hj
          cases hd : (l.set i true).getD j false with
          | false => rfl
          | true =>
            rw [Bool.not_true, Bool.false_or, List.all_eq_true]
            intro q hq
            refine (hget q).2 ?_
            rcases (hget j).1 hd with rfl | hd
            · exact .inr (hia q hq)
            · rw [hd] at h0
              rw [Bool.not_true, Bool.false_or, List.all_eq_true] at h0
              exact .inr (h0 q hq)
        have hcount : (l.set i true).count false = k := by
          have hli2 : l[i] = false := by
            rw [List.getD, List.getElem?_eq_getElem hil] at hif
            simpa using hif
          have := List.count_set (a := true) (b := false) (l := l) (i := i) hil
          rw [hli2] at this
          simp at this
          omega
        have ihh := ih (l.set i true) hlen hcl' (hPP l i hpl) hcount
        have hmem : ∀ p ∈ (anc i).flatMap slots ++ (base ++ slF slots base l), p ∈ slF slots base l := by
          intro p hp
          rcases List.mem_append.1 hp with hp | hp
          · obtain ⟨j, hj, hp⟩ := List.mem_flatMap.1 hp
            exact slF_mem.2 (.inl ⟨j, hl ▸ hanc i him j hj, hia j hj, hp⟩)
          · rcases List.mem_append.1 hp with hp | hp
            · exact slF_mem.2 (.inr hp)
            · exact hp
        have hmod' := mod_sub (F' := (anc i).flatMap slots ++ (base ++ slF slots base l)) hA' (fun p => slF_all hl) hmem (Nat.le_refl _) hmod
        refine stepsK_ok hX (l := [opi i]) (K := K) (st := ⟨(anc i).flatMap slots ++ (base ++ slF slots base l), [], Hf l, nxf l, D⟩) ⟨?_, trivial⟩ (opi i) (List.mem_singleton.2 rfl) ρ a w hmod'
        have hnth : nth ops.toList (opi i) = some o := by rw [nth_eq, Array.getElem?_toList]; exact ho
        rw [hnth]
        show (match o.guard with
          | none => _
          | some _ => False)
        rw [hg]
        refine hstep _ _ _ cont_any ?_
        rw [hset]
        refine ⟨fun ρ a w hm2 => ?_⟩
        refine ihh.h ρ a w (mod_sub (F := slots i ++ ((anc i).flatMap slots ++ (base ++ slF slots base l))) (nx := nxf (l.set i true)) hA' ?_ ?_ (Nat.le_refl _) hm2)
        · intro p hp
          rcases List.mem_append.1 hp with hp | hp
          · refine slF_mem.2 (.inl ⟨i, by simpa using him, ?_, hp⟩)
            simp [List.getD, him]
          · exact slF_all hl (hmem p hp)
        · intro p hp
          rcases slF_mem.1 hp with ⟨j, hj, hd, hp2⟩ | hp2
          · rw [List.length_set] at hj
            rcases (hget j).1 hd with e | hd
            · exact List.mem_append_left _ (e ▸ hp2)
            · exact List.mem_append_right _ (List.mem_append_right _ (List.mem_append_right _ (slF_mem.2 (.inl ⟨j, hj, hd, hp2⟩))))
          · exact List.mem_append_right _ (List.mem_append_right _ (List.mem_append_left _ hp2))
  exact fun l hl hcl hpl => main _ l hl hcl hpl rfl
end Go.X
end

section
set_option linter.unusedVariables false
set_option linter.unusedSimpArgs false
set_option linter.unusedSectionVars false
/- Regions of any order: which operations are ready, said by what each one waits for alone; no set is looked at. -/
set_option linter.unusedVariables false
set_option linter.unusedSimpArgs false
set_option maxRecDepth 10000
set_option maxHeartbeats 4000000
namespace Go.X
open Go

def arrZ (N : Nat) (ix : Nat → Option Nat) (z : Nat → Bool) (l : List Bool) : Array Bool := ((List.range N).map fun j => match ix j with
  | some i => l.getD i false
  | none => z j).toArray
def edgesOf (ops : Array Oper) (j : Nat) : List Nat := match ops[j]? with
  | some o => (o.after.toList.filter bindsAny).map (·.on)
  | none => []
def clA (anc : Nat → List Nat) : Nat → Nat → List Nat
  | 0, d => [d]
  | f + 1, d => d :: (anc d).flatMap (clA anc f)
def neverB (ops : Array Oper) (ix : Nat → Option Nat) (z : Nat → Bool) (j : Nat) : Bool := (edgesOf ops j).any fun k => match ix k with
  | none => !z k
  | some _ => false
def symOp (ops : Array Oper) (ix : Nat → Option Nat) (anc : Nat → List Nat) (z : Nat → Bool) (j : Nat) (need : List Nat) : Bool :=
  neverB ops ix z j || need.all fun q => (edgesOf ops j).any fun k => match ix k with
    | some d => (clA anc 6 d).contains q
    | none => false
def readyAt (ops : Array Oper) (N : Nat) (ix : Nat → Option Nat) (z : Nat → Bool) (i j : Nat) : Bool := (edgesOf ops j).all fun k => Nat.blt k N && match ix k with
  | some d => Nat.blt d i
  | none => z k
def symC (ops : Array Oper) (N m : Nat) (ix : Nat → Option Nat) (opi : Nat → Nat) (ci : Nat) (anc : Nat → List Nat) (ancc : List Nat) (z : Nat → Bool) : Bool :=
  Nat.beq ops.size N && ((List.range N).all (fun j => match ix j with
    | some i => Nat.blt i m && (Nat.beq (opi i) j && symOp ops ix anc z j (anc i))
    | none => z j || ((Nat.beq j ci && symOp ops ix anc z j ancc) || neverB ops ix z j))
  && (Nat.blt ci N && (ix ci == none && (!z ci && (List.range (m + 1)).all fun i => (Nat.blt i m && (ix (opi i) == some i && (Nat.blt (opi i) N && readyAt ops N ix z i (opi i)))) || readyAt ops N ix z i ci))))
def symX (ops : Array Oper) (N m : Nat) (ix : Nat → Option Nat) (opi : Nat → Nat) (anc : Nat → List Nat) (z : Nat → Bool) : Bool :=
  Nat.beq ops.size N && ((List.range N).all (fun j => match ix j with
    | some i => Nat.blt i m && (Nat.beq (opi i) j && symOp ops ix anc z j (anc i))
    | none => z j || symOp ops ix anc z j (List.range m))
  && (List.range m).all fun i => ix (opi i) == some i && (Nat.blt (opi i) N && readyAt ops N ix z i (opi i)))
def exM (m : Nat) (l : List Bool) : Bool := (List.range m).all fun j => l.getD j false
theorem blt_lt {a b : Nat} (h : Nat.blt a b = true) : a < b := Nat.le_of_ble_eq_true h
theorem arrZ_get {N : Nat} {ix : Nat → Option Nat} {z : Nat → Bool} {l : List Bool} {j : Nat} (d : Bool) (h : j < N) : (arrZ N ix z l).getD j d = (match ix j with
  | some i => l.getD i false
  | none => z j) := by
  unfold arrZ
  simp [Array.getD, h]
theorem arrZ_getF {N : Nat} {ix : Nat → Option Nat} {z : Nat → Bool} {l : List Bool} {j : Nat} (h : (arrZ N ix z l).getD j false = true) : j < N ∧ (match ix j with
  | some i => l.getD i false
  | none => z j) = true := by
  by_cases hj : j < N
  · rw [arrZ_get false hj] at h; exact ⟨hj, h⟩
  · unfold arrZ at h
    simp [Array.getD, hj] at h
theorem mem_edges {ops : Array Oper} {listed : Array Bool} {j : Nat} : j ∈ Region.ready .any ops listed ↔ listed.getD j true = false ∧ j < ops.size ∧ ∀ k ∈ edgesOf ops j, listed.getD k false = true := by
  rw [mem_ready]
  constructor
  · rintro ⟨h0, o, ho, h⟩
    refine ⟨h0, (Array.getElem?_eq_some_iff.1 ho).1, fun k hk => ?_⟩
    unfold edgesOf at hk
    rw [ho] at hk
    obtain ⟨e, he, rfl⟩ := List.mem_map.1 hk
    obtain ⟨he, hb⟩ := List.mem_filter.1 he
    exact h e (Array.mem_toList_iff.1 he) (by rw [bindsAny_eq]; exact hb)
  · rintro ⟨h0, hj, h⟩
    refine ⟨h0, ops[j], Array.getElem?_eq_getElem hj, fun e he hb => h e.on ?_⟩
    unfold edgesOf
    rw [Array.getElem?_eq_getElem hj]
    exact List.mem_map.2 ⟨e, List.mem_filter.2 ⟨Array.mem_toList_iff.2 he, by rw [← bindsAny_eq]; exact hb⟩, rfl⟩
theorem clA_ok {anc : Nat → List Nat} {l : List Bool} (hcl : clB2 anc l = true) : ∀ (f d q : Nat), l.getD d false = true → q ∈ clA anc f d → l.getD q false = true
  | 0, d, q, h, hq => by rw [List.mem_singleton.1 hq]; exact h
  | f + 1, d, q, h, hq => by
    rcases List.mem_cons.1 hq with rfl | hq
    · exact h
    obtain ⟨e, he, hq⟩ := List.mem_flatMap.1 hq
    refine clA_ok hcl f e q ?_ hq
    have hd : d < l.length := by
      by_cases hd : d < l.length
      · exact hd
      · rw [List.getD, List.getElem?_eq_none (by omega)] at h; cases h
    have := List.all_eq_true.1 hcl d (List.mem_range.2 hd)
    rw [h, Bool.not_true, Bool.false_or, List.all_eq_true] at this
    exact this e he
theorem never_ok {ops : Array Oper} {N : Nat} {ix : Nat → Option Nat} {z : Nat → Bool} {l : List Bool} {j : Nat} (h : neverB ops ix z j = true) (hr : ∀ k ∈ edgesOf ops j, (arrZ N ix z l).getD k false = true) : False := by
  obtain ⟨k, hk, h⟩ := List.any_eq_true.1 h
  have h2 := (arrZ_getF (hr k hk)).2
  cases e : ix k with
  | some i => rw [e] at h; cases h
  | none => rw [e] at h h2; simp only at h h2; rw [h2] at h; cases h
theorem symOp_ok {ops : Array Oper} {N : Nat} {ix : Nat → Option Nat} {anc : Nat → List Nat} {z : Nat → Bool} {l : List Bool} {j : Nat} {need : List Nat} (hcl : clB2 anc l = true) (h : symOp ops ix anc z j need = true) (hr : ∀ k ∈ edgesOf ops j, (arrZ N ix z l).getD k false = true) : (need.all fun q => l.getD q false) = true := by
  rcases Bool.or_eq_true_iff.1 h with h | h
  · exact (never_ok h hr).elim
  rw [List.all_eq_true] at h ⊢
  intro q hq
  obtain ⟨k, hk, h⟩ := List.any_eq_true.1 (h q hq)
  have h2 := (arrZ_getF (hr k hk)).2
  cases e : ix k with
  | none => rw [e] at h; cases h
  | some d =>
    rw [e] at h h2
    exact clA_ok hcl 6 d q h2 (List.contains_iff_mem.1 h)
theorem arrZ_q {N : Nat} {ix : Nat → Option Nat} {z : Nat → Bool} {l : List Bool} (k : Nat) : (arrZ N ix z l)[k]? = if k < N then some (match ix k with
  | some i => l.getD i false
  | none => z k) else none := by
  unfold arrZ
  by_cases h : k < N <;> simp [h]
theorem arrZ_size {N : Nat} {ix : Nat → Option Nat} {z : Nat → Bool} {l : List Bool} : (arrZ N ix z l).size = N := by simp [arrZ]
theorem arrZ_set {N : Nat} {ix : Nat → Option Nat} {z : Nat → Bool} {l : List Bool} {i j : Nat} (hl : i < l.length) (hi : ix j = some i) (h1 : ∀ k, k < N → ix k = some i → k = j) : (arrZ N ix z l).setIfInBounds j true = arrZ N ix z (l.set i true) := by
  apply Array.ext_getElem?
  intro k
  rw [Array.getElem?_setIfInBounds, arrZ_q, arrZ_q, arrZ_size]
  by_cases e : j = k
  · subst e
    rw [if_pos rfl]
    by_cases hN : j < N
    · rw [if_pos hN, if_pos hN, hi]
      simp [List.getD, hl]
    · rw [if_neg hN, if_neg hN]
  · rw [if_neg e]
    by_cases hN : k < N
    · rw [if_pos hN, if_pos hN]
      cases ek : ix k with
      | none => rfl
      | some d =>
        have hd : i ≠ d := fun h => e (h1 k hN (h ▸ ek)).symm
        simp only [List.getD, List.getElem?_set_ne hd]
    · rw [if_neg hN, if_neg hN]
theorem arrZ_setz {N : Nat} {ix : Nat → Option Nat} {z z1 : Nat → Bool} {l : List Bool} {c : Nat} (hc : ix c = none) (h1 : z1 c = true) (h2 : ∀ k, k < N → k ≠ c → z1 k = z k) : (arrZ N ix z l).setIfInBounds c true = arrZ N ix z1 l := by
  apply Array.ext_getElem?
  intro k
  rw [Array.getElem?_setIfInBounds, arrZ_q, arrZ_q, arrZ_size]
  by_cases e : c = k
  · subst e
    rw [if_pos rfl]
    by_cases hN : c < N
    · rw [if_pos hN, if_pos hN, hc]
      simp only [h1]
    · rw [if_neg hN, if_neg hN]
  · rw [if_neg e]
    by_cases hN : k < N
    · rw [if_pos hN, if_pos hN]
      cases ek : ix k with
      | none => simp only [h2 k hN (fun h => e h.symm)]
      | some d => rfl
    · rw [if_neg hN, if_neg hN]
theorem first_un {l : List Bool} : ∀ m, ∃ i, i ≤ m ∧ (∀ d, d < i → l.getD d false = true) ∧ (i < m → l.getD i false = false)
  | 0 => ⟨0, Nat.le_refl _, fun d h => absurd h (Nat.not_lt_zero d), fun h => absurd h (Nat.lt_irrefl 0)⟩
  | m + 1 => by
    obtain ⟨i, h1, h2, h3⟩ := first_un (l := l) m
    by_cases him : i < m
    · exact ⟨i, by omega, h2, fun _ => h3 him⟩
    obtain rfl : i = m := by omega
    cases e : l.getD i false with
    | false => exact ⟨i, by omega, h2, fun _ => e⟩
    | true => exact ⟨i + 1, Nat.le_refl _, fun d hd => by
        rcases Nat.lt_succ_iff_lt_or_eq.1 hd with h | rfl
        · exact h2 d h
        · exact e, fun h => absurd h (Nat.lt_irrefl _)⟩
theorem readyAt_ok {ops : Array Oper} {N : Nat} {ix : Nat → Option Nat} {z : Nat → Bool} {l : List Bool} {i j : Nat} (h : readyAt ops N ix z i j = true) (h2 : ∀ d, d < i → l.getD d false = true) : ∀ k ∈ edgesOf ops j, (arrZ N ix z l).getD k false = true := by
  intro k hk
  have h := List.all_eq_true.1 h k hk
  rw [Bool.and_eq_true] at h
  rw [arrZ_get false (blt_lt h.1)]
  cases e : ix k with
  | none => rw [e] at h; exact h.2
  | some d => rw [e] at h; exact h2 d (blt_lt h.2)
theorem latC_sym {ops : Array Oper} {N m : Nat} {ix : Nat → Option Nat} {opi : Nat → Nat} {ci : Nat} {anc : Nat → List Nat} {ancc : List Nat} {z z1 : Nat → Bool} (h : symC ops N m ix opi ci anc ancc z = true) (hz : z1 ci = true) (hz2 : ∀ k, k < N → k ≠ ci → z1 k = z k) : ∀ l ∈ allB m, latC ops m (arrZ N ix z) (arrZ N ix z1) opi ci anc ancc l = true := by
  intro l hl
  have hlen := allB_len hl
  unfold latC
  cases hcl : clB2 anc l with
  | false => rfl
  | true =>
  unfold symC at h
  simp only [Bool.and_eq_true] at h
  obtain ⟨hN, hA, hcN, hcx, hcz, hR⟩ := h
  have hN := Nat.eq_of_beq_eq_true hN
  have hcN := blt_lt hcN
  have hcx : ix ci = none := by simpa using hcx
  have hcz : z ci = false := by simpa using hcz
  rw [Bool.not_true, Bool.false_or]
  simp only [Bool.and_eq_true]
  refine ⟨?_, ?_⟩
  · obtain ⟨i, hi, hdn, hun⟩ := first_un (l := l) m
    have hne : ∀ {j}, j ∈ Region.ready .any ops (arrZ N ix z l) → (!(Region.ready .any ops (arrZ N ix z l)).isEmpty) = true := by
      intro j hj
      cases e : Region.ready .any ops (arrZ N ix z l) with
      | nil => rw [e] at hj; cases hj
      | cons a b => rfl
    rcases Bool.or_eq_true_iff.1 (List.all_eq_true.1 hR i (List.mem_range.2 (by omega))) with h | h
    · simp only [Bool.and_eq_true] at h
      obtain ⟨h1, h2, h3, h4⟩ := h
      refine hne (j := opi i) (mem_edges.2 ⟨?_, by rw [hN]; exact blt_lt h3, readyAt_ok h4 hdn⟩)
      rw [arrZ_get true (blt_lt h3), show ix (opi i) = some i by simpa using h2]
      exact hun (blt_lt h1)
    · refine hne (j := ci) (mem_edges.2 ⟨?_, by rw [hN]; exact hcN, readyAt_ok h hdn⟩)
      rw [arrZ_get true hcN, hcx]
      exact hcz
  · rw [List.all_eq_true]
    intro j hj
    obtain ⟨h0, hjs, hed⟩ := mem_edges.1 hj
    rw [hN] at hjs
    rw [arrZ_get true hjs] at h0
    have hA1 := List.all_eq_true.1 hA j (List.mem_range.2 hjs)
    cases e : ix j with
    | none =>
      rw [e] at hA1 h0
      simp only at h0
      rw [h0, Bool.false_or] at hA1
      rcases Bool.or_eq_true_iff.1 hA1 with h | h
      · rw [Bool.and_eq_true] at h
        obtain rfl := Nat.eq_of_beq_eq_true h.1
        rw [Bool.or_eq_true]
        left
        rw [arrZ_setz hcx hz hz2, symOp_ok hcl h.2 hed]
        simp
      · exact (never_ok h hed).elim
    | some i =>
      rw [e] at hA1 h0
      simp only [Bool.and_eq_true] at hA1 h0
      obtain ⟨h1, h2, h3⟩ := hA1
      have h1 := blt_lt h1
      rw [Bool.or_eq_true]
      right
      rw [List.any_eq_true]
      refine ⟨i, List.mem_range.2 h1, ?_⟩
      rw [arrZ_set (i := i) (by omega) e (fun k hk hki => by
        have := List.all_eq_true.1 hA k (List.mem_range.2 hk)
        rw [hki] at this
        simp only [Bool.and_eq_true] at this
        exact (Nat.eq_of_beq_eq_true this.2.1).symm.trans (Nat.eq_of_beq_eq_true h2)), symOp_ok hcl h3 hed]
      have : l.getD i true = false := by
        have hil : i < l.length := by omega
        rw [List.getD, List.getElem?_eq_getElem hil] at h0 ⊢
        simpa using h0
      rw [this, Nat.eq_of_beq_eq_true h2]
      simp
theorem latX_sym {ops : Array Oper} {N m : Nat} {ix : Nat → Option Nat} {opi : Nat → Nat} {anc : Nat → List Nat} {z : Nat → Bool} (h : symX ops N m ix opi anc z = true) : ∀ l ∈ allB m, latX ops m (arrZ N ix z) opi (exM m) anc l = true := by
  intro l hl
  have hlen := allB_len hl
  unfold latX
  cases hcl : clB2 anc l with
  | false => rfl
  | true =>
  unfold symX at h
  simp only [Bool.and_eq_true] at h
  obtain ⟨hN, hA, hR⟩ := h
  have hN := Nat.eq_of_beq_eq_true hN
  rw [Bool.not_true, Bool.false_or]
  cases hex : exM m l with
  | true => rfl
  | false =>
  rw [Bool.false_or]
  simp only [Bool.and_eq_true]
  refine ⟨?_, ?_⟩
  · obtain ⟨i, hi, hdn, hun⟩ := first_un (l := l) m
    have him : i < m := by
      rcases Nat.lt_or_eq_of_le hi with h | rfl
      · exact h
      · have : exM i l = true := List.all_eq_true.2 fun d hd => hdn d (List.mem_range.1 hd)
        rw [this] at hex; cases hex
    have hne : ∀ {j}, j ∈ Region.ready .any ops (arrZ N ix z l) → (!(Region.ready .any ops (arrZ N ix z l)).isEmpty) = true := by
      intro j hj
      cases e : Region.ready .any ops (arrZ N ix z l) with
      | nil => rw [e] at hj; cases hj
      | cons a b => rfl
    have h := List.all_eq_true.1 hR i (List.mem_range.2 him)
    simp only [Bool.and_eq_true] at h
    obtain ⟨h2, h3, h4⟩ := h
    refine hne (j := opi i) (mem_edges.2 ⟨?_, by rw [hN]; exact blt_lt h3, readyAt_ok h4 hdn⟩)
    rw [arrZ_get true (blt_lt h3), show ix (opi i) = some i by simpa using h2]
    exact hun him
  · rw [List.all_eq_true]
    intro j hj
    obtain ⟨h0, hjs, hed⟩ := mem_edges.1 hj
    rw [hN] at hjs
    rw [arrZ_get true hjs] at h0
    have hA1 := List.all_eq_true.1 hA j (List.mem_range.2 hjs)
    cases e : ix j with
    | none =>
      rw [e] at hA1 h0
      simp only at h0
      rw [h0, Bool.false_or] at hA1
      have h9 := symOp_ok hcl hA1 hed
      have h9 : exM m l = true := h9
      rw [h9] at hex
      cases hex
    | some i =>
      rw [e] at hA1 h0
      simp only [Bool.and_eq_true] at hA1 h0
      obtain ⟨h1, h2, h3⟩ := hA1
      have h1 := blt_lt h1
      rw [List.any_eq_true]
      refine ⟨i, List.mem_range.2 h1, ?_⟩
      rw [arrZ_set (i := i) (by omega) e (fun k hk hki => by
        have := List.all_eq_true.1 hA k (List.mem_range.2 hk)
        rw [hki] at this
        simp only [Bool.and_eq_true] at this
        exact (Nat.eq_of_beq_eq_true this.2.1).symm.trans (Nat.eq_of_beq_eq_true h2)), symOp_ok hcl h3 hed]
      have : l.getD i true = false := by
        have hil : i < l.length := by omega
        rw [List.getD, List.getElem?_eq_getElem hil] at h0 ⊢
        simpa using h0
      rw [this, Nat.eq_of_beq_eq_true h2]
      simp
end Go.X
end

section
set_option linter.unusedVariables false
set_option linter.unusedSimpArgs false
set_option linter.unusedSectionVars false
/- Pass: how a chain goes on by one certificate, as the law walks: in whatever order. -/
set_option linter.unusedVariables false
set_option linter.unusedSimpArgs false
set_option maxRecDepth 10000
set_option maxHeartbeats 4000000
namespace Go.X.Ps
open Go Go.Proofs Go.X

noncomputable def opw18 : Array Oper := regO 18 (code Try.f31)
noncomputable abbrev X31 (C : Nat → Option Ct) (G : Base) : Cx := ⟨P, T, C, G, none, Try.f31.ntmps⟩
def ixw (j : Nat) : Option Nat := if Nat.blt j 16 then some j else none
def zw (z6 z7 : Bool) : Nat → Bool
  | 16 => z6
  | 17 => z7
  | _ => false
def arw (z6 z7 : Bool) : List Bool → Array Bool := arrZ 19 ixw (zw z6 z7)
def anw : Nat → List Nat
  | 2 => [1]
  | 3 => [0, 2]
  | 5 => [4]
  | 7 => [5, 6]
  | 8 => [7]
  | 9 => [8]
  | 11 => [10]
  | 13 => [11, 12]
  | 14 => [13]
  | 15 => [14]
  | _ => []
def exw31 : List Bool → Bool := exM 16
theorem anw_lt : ∀ i, ∀ j ∈ anw i, j < i := by
  intro i j hj
  unfold anw at hj
  split at hj <;> simp at hj <;> omega
theorem latw0 : symC opw18 19 16 ixw (fun i => i) 16 anw [3] (zw false false) = true := by kernel_rfl
theorem latw1 : symC opw18 19 16 ixw (fun i => i) 17 anw [9] (zw true false) = true := by kernel_rfl
theorem latw2 : symX opw18 19 16 ixw (fun i => i) anw (zw true true) = true := by kernel_rfl
theorem zw0 : ∀ k, k < 19 → k ≠ 16 → zw true false k = zw false false k := by
  intro k _ h
  unfold zw
  split <;> first | rfl | exact absurd rfl h
theorem zw1 : ∀ k, k < 19 → k ≠ 17 → zw true true k = zw true false k := by
  intro k _ h
  unfold zw
  split <;> first | rfl | exact absurd rfl h
def bw0 (u i k : Int) : List (Nat × FE) := [(3, ⟨[], .sl 1⟩), (4, ⟨[], .sp 2 0⟩), (10, ⟨[], .si .i64 u⟩), (11, ⟨[], .si .i64 i⟩), (15, ⟨[], .si .i64 k⟩)]
def slw (r : Nat → Pp) (k : Nat) : Nat → List (Nat × FE)
  | 0 => [(87, ⟨[], .sl 3⟩)]
  | 1 => [(88, ⟨[], .si .i64 (k : Int)⟩)]
  | 2 => [(89, ⟨[], .sl 4⟩)]
  | 3 => [(90, ⟨[], .sl 5⟩)]
  | 4 => [(91, ⟨[], .sp 2 2⟩)]
  | 5 => [(92, ⟨[], .sl 0⟩)]
  | 6 => [(93, ⟨[], .si .i64 (k : Int)⟩)]
  | 7 => [(94, ⟨[], .se 0 (k : Int) 0⟩)]
  | 8 => [(95, ⟨[], .se 0 (k : Int) 1⟩)]
  | 9 => [(96, ⟨[], .si .i64 (r k).by_⟩)]
  | 10 => [(97, ⟨[], .sp 2 2⟩)]
  | 11 => [(98, ⟨[], .sl 0⟩)]
  | 12 => [(99, ⟨[], .si .i64 (k : Int)⟩)]
  | 13 => [(100, ⟨[], .se 0 (k : Int) 0⟩)]
  | 14 => [(101, ⟨[], .se 0 (k : Int) 3⟩)]
  | 15 => [(102, ⟨[], .si .i64 (r k).yr⟩)]
  | _ => []
def H31 (it ag : Int) (n : Nat) (r : Nat → Pp) (mb : Nat) (o : Nat → Int) (acc : List Int) : List (Nat × HB) := [(3, .vec 3 1 acc.length (getI acc)), (2, .cells 24 (paA 0 it ag)), (0, .ro 5 n fun i => ppC (r i)), (1, .ro 1 mb fun i => [.si .u8 (o i)])]
def Hw31 (H : List (Nat × HB)) (acc : List Int) (k : Nat) (l : List Bool) : List (Nat × HB) := if l.getD 3 false = true then (5, .vec 3 1 (acc.length + 1) (getI (acc ++ [(k : Int)]))) :: (3, .dead) :: (4, .row 3 1 1 [.si .i64 (k : Int)]) :: H else if l.getD 2 false = true then (4, .row 3 1 1 [.si .i64 (k : Int)]) :: H else H
def nw31 (l : List Bool) : Nat := if l.getD 3 false = true then 6 else if l.getD 2 false = true then 5 else 4
theorem getI_snoc {acc : List Int} {k : Nat} {j : Nat} (hj : j < acc.length + 1) : getI (acc ++ [(k : Int)]) j = if j < acc.length then getI acc j else (fun q => takeL 1 (dropL (q * 1) [SV.si .i64 (k : Int)])) (j - acc.length) := by
  unfold getI
  split
  · rename_i h; rw [List.getD, List.getElem?_append_left h]; rfl
  · rename_i h
    obtain rfl : j = acc.length := by omega
    rw [Nat.sub_self]
    simp [List.getD, intC, takeL, dropL]
theorem no3 {l : List Bool} (hl : l.length = 16) (hcl : clB2 anw l = true) {i : Nat} (hi : i < 3) (h : l.getD i false = false) : l.getD 3 false = false := by
  cases h3 : l.getD 3 false with
  | false => rfl
  | true =>
    have q := List.all_eq_true.1 hcl 3 (List.mem_range.2 (by omega))
    rw [h3] at q
    have q : (l.getD 0 false && (l.getD 2 false && true)) = true := q
    simp only [Bool.and_eq_true, and_true] at q
    have q2 := List.all_eq_true.1 hcl 2 (List.mem_range.2 (by omega))
    rw [q.2] at q2
    have q2 : (l.getD 1 false && true) = true := q2
    rw [Bool.and_true] at q2
    rcases (show i = 0 ∨ i = 1 ∨ i = 2 by omega) with rfl | rfl | rfl
    · rw [q.1] at h; cases h
    · rw [q2] at h; cases h
    · rw [q.2] at h; cases h
section
variable {C : Nat → Option Ct} {G : Base} {it ag u i q y : Int} {n k mb : Nat} {r : Nat → Pp} {o : Nat → Int} {acc : List Int} {K : Ex → St → Prop}
theorem pw2 (hX : (X31 C G).Ok) (hG : ∀ j, 2 ≤ j → G.ρ j = none) (hk : k < n) (hK : K .normal ⟨(1, ⟨[], .si .i64 (r k).by_⟩) :: (2, ⟨[], .si .i64 (r k).yr⟩) :: (8, ⟨[], .sl 3⟩) :: bw0 u i k, [], H31 it ag n r mb o (acc ++ [(k : Int)]), 4, []⟩) :
    ∀ l : List Bool, l.length = 16 → clB2 anw l = true → l.getD 3 false = true → AnyS (X31 C G) opw18 (l.count false + 1) (arw true true l) ⟨slF (slw r k) ((1, ⟨[], .si .i64 (r k).by_⟩) :: (2, ⟨[], .si .i64 y⟩) :: (8, ⟨[], .sl 5⟩) :: bw0 u i k) l, [], Hw31 (H31 it ag n r mb o acc) acc k l, nw31 l, []⟩ K := by
  refine any_latU (D := []) hX 16 (arw true true) (fun i => i) exw31 (slw r k) ((1, ⟨[], .si .i64 (r k).by_⟩) :: (2, ⟨[], .si .i64 y⟩) :: (8, ⟨[], .sl 5⟩) :: bw0 u i k) (Hw31 (H31 it ag n r mb o acc) acc k) nw31 anw 1 (fun l => l.getD 3 false = true) (fun l i h => by
    by_cases e : i = 3
    · subst e
      by_cases hl : 3 < l.length
      · exact getS hl
      · rw [List.getD, List.getElem?_eq_none (by omega)] at h; cases h
    · rw [getN e]; exact h) (fun i hi j hj => by have := anw_lt i j hj; omega) (latX_sym latw2) ?_ ?_ ?_
  · repeat' (first | exact trivial | exact ⟨rfl, rfl⟩ | refine And.intro ?_ ?_)
  · intro j hj l hl hpl hf ha hcl
    rcases (show j = 0 ∨ j = 1 ∨ j = 2 ∨ j = 3 ∨ j = 7 ∨ j = 13 ∨ j = 4 ∨ j = 5 ∨ j = 6 ∨ j = 8 ∨ j = 9 ∨ j = 10 ∨ j = 11 ∨ j = 12 ∨ j = 14 ∨ j = 15 by omega) with rfl | rfl | rfl | rfl | rfl | rfl | rfl | rfl | rfl | rfl | rfl | rfl | rfl | rfl | rfl | rfl
    · have h0 := getF (show 0 < l.length by omega) hf
      have := (no3 hl hcl (i := 0) (by omega) h0).symm.trans hpl; cases this
    · have h0 := getF (show 1 < l.length by omega) hf
      have := (no3 hl hcl (i := 1) (by omega) h0).symm.trans hpl; cases this
    · have h0 := getF (show 2 < l.length by omega) hf
      have := (no3 hl hcl (i := 2) (by omega) h0).symm.trans hpl; cases this
    · have h0 := getF (show 3 < l.length by omega) hf
      have := h0.symm.trans hpl; cases this
    · refine ⟨_, rfl, rfl, fun tail Q Kn hC hK => ?_⟩
      simp only [Hw31, nw31, getN (l := l) (show 7 ≠ 2 by decide), getN (l := l) (show 7 ≠ 3 by decide)] at hK ⊢
      cases h3 : l.getD 3 false <;> cases h2 : l.getD 2 false <;> simp only [h3, h2, if_true, if_false, Bool.false_eq_true] at hK ⊢ <;> exact Chk.mk (show (0 : Int) ≤ (k : Int) ∧ (k : Int) < (n : Int) from ⟨by omega, by omega⟩) hK
    · refine ⟨_, rfl, rfl, fun tail Q Kn hC hK => ?_⟩
      simp only [Hw31, nw31, getN (l := l) (show 13 ≠ 2 by decide), getN (l := l) (show 13 ≠ 3 by decide)] at hK ⊢
      cases h3 : l.getD 3 false <;> cases h2 : l.getD 2 false <;> simp only [h3, h2, if_true, if_false, Bool.false_eq_true] at hK ⊢ <;> exact Chk.mk (show (0 : Int) ≤ (k : Int) ∧ (k : Int) < (n : Int) from ⟨by omega, by omega⟩) hK
    all_goals
      refine ⟨_, rfl, rfl, fun tail Q Kn hC hK => ?_⟩
      simp only [Hw31, nw31, getN (l := l) (show 4 ≠ 2 by decide), getN (l := l) (show 5 ≠ 2 by decide), getN (l := l) (show 6 ≠ 2 by decide), getN (l := l) (show 8 ≠ 2 by decide), getN (l := l) (show 9 ≠ 2 by decide), getN (l := l) (show 10 ≠ 2 by decide), getN (l := l) (show 11 ≠ 2 by decide), getN (l := l) (show 12 ≠ 2 by decide), getN (l := l) (show 14 ≠ 2 by decide), getN (l := l) (show 15 ≠ 2 by decide), getN (l := l) (show 4 ≠ 3 by decide), getN (l := l) (show 5 ≠ 3 by decide), getN (l := l) (show 6 ≠ 3 by decide), getN (l := l) (show 8 ≠ 3 by decide), getN (l := l) (show 9 ≠ 3 by decide), getN (l := l) (show 10 ≠ 3 by decide), getN (l := l) (show 11 ≠ 3 by decide), getN (l := l) (show 12 ≠ 3 by decide), getN (l := l) (show 14 ≠ 3 by decide), getN (l := l) (show 15 ≠ 3 by decide)] at hK ⊢
      cases h3 : l.getD 3 false <;> cases h2 : l.getD 2 false <;> simp only [h3, h2, if_true, if_false, Bool.false_eq_true] at hK ⊢ <;> first | exact hK | exact fb_again hX hC rfl hK
  · intro l hl he
    match l, hl, he with
    | [a0, a1, a2, a3, a4, a5, a6, a7, a8, a9, a10, a11, a12, a13, a14, a15], _, he =>
      have he : (a0 && (a1 && (a2 && (a3 && (a4 && (a5 && (a6 && (a7 && (a8 && (a9 && (a10 && (a11 && (a12 && (a13 && (a14 && (a15 && true)))))))))))))))) = true := he
      simp only [Bool.and_eq_true] at he
      obtain ⟨rfl, rfl, rfl, rfl, rfl, rfl, rfl, rfl, rfl, rfl, rfl, rfl, rfl, rfl, rfl, rfl, -⟩ := he
      refine any_step [18] hX (by kernel_rfl) (by decide) ⟨?_, trivial⟩
      refine any_weaken 2 (fun j => match j with | 3 => 5 | j => j) hG ?_ (any_done (by kernel_rfl) hK)
      have hl1 : acc.length + 1 = (acc ++ [(k : Int)]).length := by simp
      refine ⟨?_, ?_, rfl, rfl, rfl, rfl, trivial⟩
      · repeat' (first | exact trivial | exact rfl | refine And.intro ?_ ?_)
      · repeat' (first | exact trivial | exact rfl | exact hl1 | exact List.Perm.refl _ | (intro i hi; exact ⟨rfl, rfl⟩) | refine And.intro ?_ ?_)
theorem pw1 (hX : (X31 C G).Ok) (hG : ∀ j, 2 ≤ j → G.ρ j = none) (hk : k < n) (hK : K .normal ⟨(1, ⟨[], .si .i64 (r k).by_⟩) :: (2, ⟨[], .si .i64 (r k).yr⟩) :: (8, ⟨[], .sl 3⟩) :: bw0 u i k, [], H31 it ag n r mb o (acc ++ [(k : Int)]), 4, []⟩) :
    ∀ l : List Bool, l.length = 16 → clB2 anw l = true → l.getD 3 false = true → AnyS (X31 C G) opw18 (l.count false + (1 + 1)) (arw true false l) ⟨slF (slw r k) ((8, ⟨[], .sl 5⟩) :: (1, ⟨[], .si .i64 q⟩) :: (2, ⟨[], .si .i64 y⟩) :: bw0 u i k) l, [], Hw31 (H31 it ag n r mb o acc) acc k l, nw31 l, []⟩ K := by
  refine any_latF (D := []) hX 16 (arw true false) (arw true true) (fun i => i) 17 (slw r k) ((8, ⟨[], .sl 5⟩) :: (1, ⟨[], .si .i64 q⟩) :: (2, ⟨[], .si .i64 y⟩) :: bw0 u i k) (fun l => [(1, ⟨[], .si .i64 (r k).by_⟩)]) (fun l => (1, ⟨[], .si .i64 (r k).by_⟩) :: (2, ⟨[], .si .i64 y⟩) :: (8, ⟨[], .sl 5⟩) :: bw0 u i k) (Hw31 (H31 it ag n r mb o acc) acc k) nw31 (Hw31 (H31 it ag n r mb o acc) acc k) nw31 anw [9] 1 (fun l => l.getD 3 false = true) (fun l i h => by
    by_cases e : i = 3
    · subst e
      by_cases hl : 3 < l.length
      · exact getS hl
      · rw [List.getD, List.getElem?_eq_none (by omega)] at h; cases h
    · rw [getN e]; exact h) (fun i hi j hj => by have := anw_lt i j hj; omega) (fun j hj => by rw [List.mem_singleton.1 hj]; decide) (latC_sym latw1 rfl zw1) ?_ (fun l => ⟨⟨rfl, rfl⟩, trivial⟩) ?_ ?_ ?_ ?_ ?_
  · repeat' (first | exact trivial | exact ⟨rfl, rfl⟩ | refine And.intro ?_ ?_)
  · intro l p hp
    simp only [bw0, List.mem_cons, List.not_mem_nil, or_false] at hp ⊢
    rcases hp with rfl | rfl | rfl | rfl | rfl | rfl | rfl | rfl <;> simp
  · intro i hi l p hp q' hq'
    rw [List.mem_singleton.1 hq']
    rcases (show i = 0 ∨ i = 1 ∨ i = 2 ∨ i = 3 ∨ i = 4 ∨ i = 5 ∨ i = 6 ∨ i = 7 ∨ i = 8 ∨ i = 9 ∨ i = 10 ∨ i = 11 ∨ i = 12 ∨ i = 13 ∨ i = 14 ∨ i = 15 by omega) with rfl | rfl | rfl | rfl | rfl | rfl | rfl | rfl | rfl | rfl | rfl | rfl | rfl | rfl | rfl | rfl <;> (rw [List.mem_singleton.1 hp]; simp)
  · intro j hj l hl hpl hf ha hcl
    rcases (show j = 0 ∨ j = 1 ∨ j = 2 ∨ j = 3 ∨ j = 7 ∨ j = 13 ∨ j = 4 ∨ j = 5 ∨ j = 6 ∨ j = 8 ∨ j = 9 ∨ j = 10 ∨ j = 11 ∨ j = 12 ∨ j = 14 ∨ j = 15 by omega) with rfl | rfl | rfl | rfl | rfl | rfl | rfl | rfl | rfl | rfl | rfl | rfl | rfl | rfl | rfl | rfl
    · have h0 := getF (show 0 < l.length by omega) hf
      have := (no3 hl hcl (i := 0) (by omega) h0).symm.trans hpl; cases this
    · have h0 := getF (show 1 < l.length by omega) hf
      have := (no3 hl hcl (i := 1) (by omega) h0).symm.trans hpl; cases this
    · have h0 := getF (show 2 < l.length by omega) hf
      have := (no3 hl hcl (i := 2) (by omega) h0).symm.trans hpl; cases this
    · have h0 := getF (show 3 < l.length by omega) hf
      have := h0.symm.trans hpl; cases this
    · refine ⟨_, rfl, rfl, fun tail Q Kn hC hK => ?_⟩
      simp only [Hw31, nw31, getN (l := l) (show 7 ≠ 2 by decide), getN (l := l) (show 7 ≠ 3 by decide)] at hK ⊢
      cases h3 : l.getD 3 false <;> cases h2 : l.getD 2 false <;> simp only [h3, h2, if_true, if_false, Bool.false_eq_true] at hK ⊢ <;> exact Chk.mk (show (0 : Int) ≤ (k : Int) ∧ (k : Int) < (n : Int) from ⟨by omega, by omega⟩) hK
    · refine ⟨_, rfl, rfl, fun tail Q Kn hC hK => ?_⟩
      simp only [Hw31, nw31, getN (l := l) (show 13 ≠ 2 by decide), getN (l := l) (show 13 ≠ 3 by decide)] at hK ⊢
      cases h3 : l.getD 3 false <;> cases h2 : l.getD 2 false <;> simp only [h3, h2, if_true, if_false, Bool.false_eq_true] at hK ⊢ <;> exact Chk.mk (show (0 : Int) ≤ (k : Int) ∧ (k : Int) < (n : Int) from ⟨by omega, by omega⟩) hK
    all_goals
      refine ⟨_, rfl, rfl, fun tail Q Kn hC hK => ?_⟩
      simp only [Hw31, nw31, getN (l := l) (show 4 ≠ 2 by decide), getN (l := l) (show 5 ≠ 2 by decide), getN (l := l) (show 6 ≠ 2 by decide), getN (l := l) (show 8 ≠ 2 by decide), getN (l := l) (show 9 ≠ 2 by decide), getN (l := l) (show 10 ≠ 2 by decide), getN (l := l) (show 11 ≠ 2 by decide), getN (l := l) (show 12 ≠ 2 by decide), getN (l := l) (show 14 ≠ 2 by decide), getN (l := l) (show 15 ≠ 2 by decide), getN (l := l) (show 4 ≠ 3 by decide), getN (l := l) (show 5 ≠ 3 by decide), getN (l := l) (show 6 ≠ 3 by decide), getN (l := l) (show 8 ≠ 3 by decide), getN (l := l) (show 9 ≠ 3 by decide), getN (l := l) (show 10 ≠ 3 by decide), getN (l := l) (show 11 ≠ 3 by decide), getN (l := l) (show 12 ≠ 3 by decide), getN (l := l) (show 14 ≠ 3 by decide), getN (l := l) (show 15 ≠ 3 by decide)] at hK ⊢
      cases h3 : l.getD 3 false <;> cases h2 : l.getD 2 false <;> simp only [h3, h2, if_true, if_false, Bool.false_eq_true] at hK ⊢ <;> first | exact hK | exact fb_again hX hC rfl hK
  · intro l hl hpl ha hcl
    refine ⟨_, rfl, rfl, fun tail Q Kn hC hK => ?_⟩
    simp only [Hw31, nw31] at hK ⊢
    cases h3 : l.getD 3 false <;> cases h2 : l.getD 2 false <;> simp only [h3, h2, if_true, if_false, Bool.false_eq_true] at hK ⊢ <;> exact hK
  · exact fun l hl hcl hpl _ => pw2 hX hG hk hK l hl hcl hpl
theorem regw31 (hX : (X31 C G).Ok) (hG : ∀ j, 2 ≤ j → G.ρ j = none) (hk : k < n) (hac : acc.length ≤ 900000) (hK : K .normal ⟨(1, ⟨[], .si .i64 (r k).by_⟩) :: (2, ⟨[], .si .i64 (r k).yr⟩) :: (8, ⟨[], .sl 3⟩) :: bw0 u i k, [], H31 it ag n r mb o (acc ++ [(k : Int)]), 4, []⟩) :
    AnyS (X31 C G) opw18 19 (Array.replicate 19 false) ⟨(8, ⟨[], .sl 3⟩) :: (1, ⟨[], .si .i64 q⟩) :: (2, ⟨[], .si .i64 y⟩) :: bw0 u i k, [], H31 it ag n r mb o acc, 4, []⟩ K := by
  refine any_latF (D := []) hX 16 (arw false false) (arw true false) (fun i => i) 16 (slw r k) ((8, ⟨[], .sl 3⟩) :: (1, ⟨[], .si .i64 q⟩) :: (2, ⟨[], .si .i64 y⟩) :: bw0 u i k) (fun l => [(8, ⟨[], .sl 5⟩)]) (fun l => (8, ⟨[], .sl 5⟩) :: (1, ⟨[], .si .i64 q⟩) :: (2, ⟨[], .si .i64 y⟩) :: bw0 u i k) (Hw31 (H31 it ag n r mb o acc) acc k) nw31 (Hw31 (H31 it ag n r mb o acc) acc k) nw31 anw [3] 2 (fun l => True) (fun _ _ _ => trivial) (fun i hi j hj => by have := anw_lt i j hj; omega) (fun j hj => by rw [List.mem_singleton.1 hj]; decide) (latC_sym latw0 rfl zw0) ?_ (fun l => ⟨⟨rfl, rfl⟩, trivial⟩) ?_ ?_ ?_ ?_ ?_ (List.replicate 16 false) rfl (by decide) trivial
  · repeat' (first | exact trivial | exact ⟨rfl, rfl⟩ | refine And.intro ?_ ?_)
  · intro l p hp
    simp only [bw0, List.mem_cons, List.not_mem_nil, or_false] at hp ⊢
    rcases hp with rfl | rfl | rfl | rfl | rfl | rfl | rfl | rfl <;> simp
  · intro i hi l p hp q' hq'
    rw [List.mem_singleton.1 hq']
    rcases (show i = 0 ∨ i = 1 ∨ i = 2 ∨ i = 3 ∨ i = 4 ∨ i = 5 ∨ i = 6 ∨ i = 7 ∨ i = 8 ∨ i = 9 ∨ i = 10 ∨ i = 11 ∨ i = 12 ∨ i = 13 ∨ i = 14 ∨ i = 15 by omega) with rfl | rfl | rfl | rfl | rfl | rfl | rfl | rfl | rfl | rfl | rfl | rfl | rfl | rfl | rfl | rfl <;> (rw [List.mem_singleton.1 hp]; simp)
  · intro j hj l hl hpl hf ha hcl
    rcases (show j = 0 ∨ j = 1 ∨ j = 2 ∨ j = 3 ∨ j = 7 ∨ j = 13 ∨ j = 4 ∨ j = 5 ∨ j = 6 ∨ j = 8 ∨ j = 9 ∨ j = 10 ∨ j = 11 ∨ j = 12 ∨ j = 14 ∨ j = 15 by omega) with rfl | rfl | rfl | rfl | rfl | rfl | rfl | rfl | rfl | rfl | rfl | rfl | rfl | rfl | rfl | rfl
    · refine ⟨_, rfl, rfl, fun tail Q Kn hC hK => ?_⟩
      simp only [Hw31, nw31, getN (l := l) (show 0 ≠ 2 by decide), getN (l := l) (show 0 ≠ 3 by decide)] at hK ⊢
      cases h3 : l.getD 3 false <;> cases h2 : l.getD 2 false <;> simp only [h3, h2, if_true, if_false, Bool.false_eq_true] at hK ⊢ <;> exact hK
    · refine ⟨_, rfl, rfl, fun tail Q Kn hC hK => ?_⟩
      simp only [Hw31, nw31, getN (l := l) (show 1 ≠ 2 by decide), getN (l := l) (show 1 ≠ 3 by decide)] at hK ⊢
      cases h3 : l.getD 3 false <;> cases h2 : l.getD 2 false <;> simp only [h3, h2, if_true, if_false, Bool.false_eq_true] at hK ⊢ <;> exact hK
    · have h2 := getF (show 2 < l.length by omega) hf
      have h3 := no3 hl hcl (i := 2) (by omega) h2
      refine ⟨_, rfl, rfl, fun tail Q Kn hC hK => ?_⟩
      simp only [Hw31, nw31, getN (l := l) (show 2 ≠ 3 by decide), getS (l := l) (i := 2) (by omega), h2, h3, if_true, if_false, Bool.false_eq_true] at hK ⊢
      exact hK
    · have h3 := getF (show 3 < l.length by omega) hf
      have h2 : l.getD 2 false = true := ha 2 (by decide)
      refine ⟨_, rfl, rfl, fun tail Q Kn hC hK => ?_⟩
      simp only [Hw31, nw31, getN (l := l) (show 3 ≠ 2 by decide), getS (l := l) (i := 3) (by omega), h2, h3, if_true, if_false, Bool.false_eq_true] at hK ⊢
      exact fb_append (Te := 0) 3 4 acc.length 1 (getI acc) _ (getI (acc ++ [(k : Int)])) hX hC rfl rfl rfl rfl rfl rfl rfl rfl rfl rfl rfl rfl (by decide) (by decide) rfl rfl rfl rfl (by omega) (fun j hj => getI_snoc hj) hK
    · refine ⟨_, rfl, rfl, fun tail Q Kn hC hK => ?_⟩
      simp only [Hw31, nw31, getN (l := l) (show 7 ≠ 2 by decide), getN (l := l) (show 7 ≠ 3 by decide)] at hK ⊢
      cases h3 : l.getD 3 false <;> cases h2 : l.getD 2 false <;> simp only [h3, h2, if_true, if_false, Bool.false_eq_true] at hK ⊢ <;> exact Chk.mk (show (0 : Int) ≤ (k : Int) ∧ (k : Int) < (n : Int) from ⟨by omega, by omega⟩) hK
    · refine ⟨_, rfl, rfl, fun tail Q Kn hC hK => ?_⟩
      simp only [Hw31, nw31, getN (l := l) (show 13 ≠ 2 by decide), getN (l := l) (show 13 ≠ 3 by decide)] at hK ⊢
      cases h3 : l.getD 3 false <;> cases h2 : l.getD 2 false <;> simp only [h3, h2, if_true, if_false, Bool.false_eq_true] at hK ⊢ <;> exact Chk.mk (show (0 : Int) ≤ (k : Int) ∧ (k : Int) < (n : Int) from ⟨by omega, by omega⟩) hK
    all_goals
      refine ⟨_, rfl, rfl, fun tail Q Kn hC hK => ?_⟩
      simp only [Hw31, nw31, getN (l := l) (show 4 ≠ 2 by decide), getN (l := l) (show 5 ≠ 2 by decide), getN (l := l) (show 6 ≠ 2 by decide), getN (l := l) (show 8 ≠ 2 by decide), getN (l := l) (show 9 ≠ 2 by decide), getN (l := l) (show 10 ≠ 2 by decide), getN (l := l) (show 11 ≠ 2 by decide), getN (l := l) (show 12 ≠ 2 by decide), getN (l := l) (show 14 ≠ 2 by decide), getN (l := l) (show 15 ≠ 2 by decide), getN (l := l) (show 4 ≠ 3 by decide), getN (l := l) (show 5 ≠ 3 by decide), getN (l := l) (show 6 ≠ 3 by decide), getN (l := l) (show 8 ≠ 3 by decide), getN (l := l) (show 9 ≠ 3 by decide), getN (l := l) (show 10 ≠ 3 by decide), getN (l := l) (show 11 ≠ 3 by decide), getN (l := l) (show 12 ≠ 3 by decide), getN (l := l) (show 14 ≠ 3 by decide), getN (l := l) (show 15 ≠ 3 by decide)] at hK ⊢
      cases h3 : l.getD 3 false <;> cases h2 : l.getD 2 false <;> simp only [h3, h2, if_true, if_false, Bool.false_eq_true] at hK ⊢ <;> first | exact hK | exact fb_again hX hC rfl hK
  · intro l hl hpl ha hcl
    refine ⟨_, rfl, rfl, fun tail Q Kn hC hK => ?_⟩
    simp only [Hw31, nw31] at hK ⊢
    cases h3 : l.getD 3 false <;> cases h2 : l.getD 2 false <;> simp only [h3, h2, if_true, if_false, Bool.false_eq_true] at hK ⊢ <;> exact hK
  · exact fun l hl hcl _ ha => pw1 hX hG hk hK l hl hcl (ha 3 (by decide))
end
end Go.X.Ps
end
