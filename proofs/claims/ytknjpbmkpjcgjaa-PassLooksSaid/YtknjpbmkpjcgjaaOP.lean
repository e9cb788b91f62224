/- Renewed certificates, and whether they are enough. -/
import Derived.Test.YtknjpbmkpjcgjaaOO

section
set_option linter.unusedVariables false
set_option linter.unusedSimpArgs false
set_option linter.unusedSectionVars false
/- Regions of any order: one operation between the others, which may write over a slot; where new cells get the numbers that come. -/
set_option linter.unusedVariables false
set_option linter.unusedSimpArgs false
set_option maxRecDepth 10000
set_option maxHeartbeats 4000000
namespace Go.X
open Go

theorem findF_in : ∀ {L : List (Nat × FE)} {t : Nat} {e : FE}, findF L t = some e → (t, e) ∈ L
  | [], t, e, h => by cases h
  | (d, x) :: r, t, e, h => by
    simp only [findF] at h
    split at h
    · rename_i hd
      have : d = t := Nat.eq_of_beq_eq_true hd
      subst this
      cases h
      exact List.mem_cons_self
    · exact List.mem_cons_of_mem _ (findF_in h)
theorem findF_skip {B : List (Nat × FE)} {t : Nat} : ∀ {L : List (Nat × FE)}, (∀ q ∈ L, q.1 ≠ t) → findF (L ++ B) t = findF B t
  | [], _ => rfl
  | (d, x) :: r, h => by
    have hd : Nat.beq d t = false := by
      cases hb : Nat.beq d t with
      | false => rfl
      | true => exact absurd (Nat.eq_of_beq_eq_true hb) (h (d, x) List.mem_cons_self)
    show findF ((d, x) :: (r ++ B)) t = _
    simp only [findF, hd]
    exact findF_skip fun q hq => h q (List.mem_cons_of_mem _ hq)
theorem findF_left {B : List (Nat × FE)} {t : Nat} {e : FE} : ∀ {L : List (Nat × FE)}, findF L t = some e → findF (L ++ B) t = some e
  | [], h => by cases h
  | (d, x) :: r, h => by
    show findF ((d, x) :: (r ++ B)) t = _
    simp only [findF] at h ⊢
    split at h
    · rename_i hd
      simp only [hd]
      exact h
    · rename_i hd
      simp only [hd]
      exact findF_left h
theorem mod_find {X : Cx} {ρ : Env} {F F' : List (Nat × FE)} {gs : List Nat} {H : List (Nat × HB)} {nx : Nat} {D : List SDef} {a : Act} {w : World} (key : ∀ t e, findF F' t = some e → findF F t = some e ∧ e.gp = [])
    (hm : Mod X ρ ⟨F, gs, H, nx, D⟩ a w) : Mod X ρ ⟨F', [], H, nx, D⟩ a w :=
  { fm := fun t e h => hm.fm t e (key t e h).1
    gs := fun t e h x hx => by rw [(key t e h).2] at hx; cases hx
    df := hm.df
    hm := hm.hm
    kp := hm.kp
    nx := hm.nx
    sz := hm.sz }
theorem slF_congr {slots slots' : Nat → List (Nat × FE)} {base : List (Nat × FE)} {l : List Bool} (h : ∀ i, l.getD i false = true → slots i = slots' i) : slF slots base l = slF slots' base l := by
  have e : (fun i => if l.getD i false = true then slots i else []) = fun i => if l.getD i false = true then slots' i else [] := funext fun i => by
    split
    · rename_i hd; exact h i hd
    · rfl
  unfold slF
  rw [e]
theorem any_latV {D : List SDef} {X : Cx} {ops : Array Oper} {K : Ex → St → Prop} (hX : X.Ok) (m : Nat) (arr : List Bool → Array Bool) (opi : Nat → Nat) (ex : List Bool → Bool) (slots : Nat → List (Nat × FE)) (base : List (Nat × FE)) (Hf : List Bool → List (Nat × HB)) (nxf : List Bool → Nat) (anc : Nat → List Nat) (rest : Nat) (PP : List Bool → Prop) (hPP : ∀ l i, PP l → PP (l.set i true))
    (hanc : ∀ i, i < m → ∀ j ∈ anc i, j < m) (hchk : ∀ l ∈ allB m, PP l → latX ops m arr opi ex anc l = true) (hA : subF (slF slots base (List.replicate m true)) (slF slots base (List.replicate m true)))
    (hst : ∀ i, i < m → ∀ l : List Bool, l.length = m → PP l → l.getD i true = false → (∀ j ∈ anc i, l.getD j false = true) → clB2 anc l = true → ∃ o, ops[opi i]? = some o ∧ o.guard = none ∧ ∀ (tail : List (Nat × FE)) (Q : Exit → Act → World → Prop) (Kn : St → Prop), Cont X Q Kn (fun _ _ => False) → Kn ⟨slots i ++ ((anc i).flatMap slots ++ (base ++ tail)), [], Hf (l.set i true), nxf (l.set i true), D⟩ →
      execL X [o] Q Kn (fun _ _ => False) 0 [o] ⟨(anc i).flatMap slots ++ (base ++ tail), [], Hf l, nxf l, D⟩)
    (hend : ∀ l : List Bool, l.length = m → ex l = true → AnyS X ops (l.count false + rest) (arr l) ⟨slF slots base l, [], Hf l, nxf l, D⟩ K) :
    ∀ l : List Bool, l.length = m → clB2 anc l = true → PP l → AnyS X ops (l.count false + rest) (arr l) ⟨slF slots base l, [], Hf l, nxf l, D⟩ K := by
  have hA' : ∀ p ∈ slF slots base (List.replicate m true), findF (slF slots base (List.replicate m true)) p.1 = some p.2 ∧ p.2.gp = [] := by
    generalize slF slots base (List.replicate m true) = A at hA
    have : ∀ L : List (Nat × FE), subF A L → ∀ p ∈ L, findF A p.1 = some p.2 ∧ p.2.gp = [] := by
      intro L
      induction L with
      | nil => intro _ p hp; cases hp
      | cons q r ih =>
        intro h p hp
        obtain ⟨d, e⟩ := q
        rcases List.mem_cons.1 hp with rfl | hp
        · exact h.1
        · exact ih h.2 p hp
    exact this A hA
  have hall : ∀ l : List Bool, l.length = m → ∀ p ∈ slF slots base l, p ∈ slF slots base (List.replicate m true) := by
    intro l hl p hp
    rcases slF_mem.1 hp with ⟨i, hi, _, h⟩ | h
    · refine slF_mem.2 (.inl ⟨i, by simpa [hl] using hi, ?_, h⟩)
      have : i < m := hl ▸ hi
      simp [List.getD, this]
    · exact slF_mem.2 (.inr h)
  have main : ∀ k, ∀ l : List Bool, l.length = m → clB2 anc l = true → PP l → l.count false = k → AnyS X ops (k + rest) (arr l) ⟨slF slots base l, [], Hf l, nxf l, D⟩ K := by
    intro k
    induction k with
    | zero =>
      intro l hl hcl hpl hk
      have hc := hchk l (hl ▸ mem_allB l) hpl
      cases he : ex l with
      | true => have := hend l hl he; rw [hk] at this; exact this
      | false =>
        unfold latX at hc
        rw [hcl, he] at hc
        simp only [Bool.not_true, Bool.false_or, Bool.and_eq_true, Bool.not_eq_true', List.all_eq_true, List.any_eq_true, beq_iff_eq] at hc
        obtain ⟨hne, hrs⟩ := hc
        cases hr : Region.ready .any ops (arr l) with
        | nil => rw [hr] at hne; cases hne
        | cons o r =>
          obtain ⟨i, him, -, hif, -⟩ := hrs o (by rw [hr]; exact List.mem_cons_self)
          have him : i < m := List.mem_range.1 him
          have hil : i < l.length := by omega
          have hli2 : l[i] = false := by
            rw [List.getD, List.getElem?_eq_getElem hil] at hif
            simpa using hif
          have : false ∈ l := hli2 ▸ List.getElem_mem hil
          have := List.count_pos_iff.2 this
          omega
    | succ k ih =>
      intro l hl hcl hpl hk
      have hc := hchk l (hl ▸ mem_allB l) hpl
      cases he : ex l with
      | true => have := hend l hl he; rw [hk] at this; exact this
      | false =>
      unfold latX at hc
      rw [hcl, he] at hc
      simp only [Bool.not_true, Bool.false_or, Bool.and_eq_true, Bool.not_eq_true', List.all_eq_true, List.any_eq_true, beq_iff_eq] at hc
      obtain ⟨hne, hrs⟩ := hc
      refine ⟨fun ρ a w hmod => ?_⟩
      rw [show k + 1 + rest = (k + rest) + 1 by omega]
      refine wpAnyIn_all (rs := Region.ready .any ops (arr l)) rfl (by intro h; rw [h] at hne; cases hne) fun oi hi => ?_
      obtain ⟨i, him, rfl, hif, hia, hset⟩ := hrs oi hi
      have him : i < m := List.mem_range.1 him
      have hil : i < l.length := by omega
      obtain ⟨o, ho, hg, hstep⟩ := hst i him l hl hpl hif hia hcl
      rw [hset]
      have hlen : (l.set i true).length = m := by rw [List.length_set, hl]
      have hget : ∀ j, (l.set i true).getD j false = true ↔ j = i ∨ l.getD j false = true := by
        intro j
        simp only [List.getD, List.getElem?_set]
        by_cases e : i = j
        · subst e; simp [hil]
        · simp [e, Ne.symm e]
      have hcl' : clB2 anc (l.set i true) = true := by
        unfold clB2 at hcl ⊢
        rw [List.all_eq_true] at hcl ⊢
        intro j hj
        rw [List.length_set] at hj
        have h0 := hcl j hj
        cases hd : (l.set i true).getD j false with
        | false => rfl
        | true =>
          rw [Bool.not_true, Bool.false_or, List.all_eq_true]
          intro q hq
          refine (hget q).2 ?_
          rcases (hget j).1 hd with rfl | hd
          · exact .inr (hia q hq)
          · rw [hd] at h0
            rw [Bool.not_true, Bool.false_or, List.all_eq_true] at h0
            exact .inr (h0 q hq)
      have hcount : (l.set i true).count false = k := by
        have hli : l[i]? = some false := by
          have : l.getD i true = false := hif
          rw [List.getD, List.getElem?_eq_getElem hil] at this
          rw [List.getElem?_eq_getElem hil]
          simpa using this
        have hli2 : l[i] = false := by rw [List.getElem?_eq_getElem hil] at hli; simpa using hli
        have := List.count_set (a := true) (b := false) (l := l) (i := i) hil
        rw [hli2] at this
        simp at this
        omega
      have ihh := ih (l.set i true) hlen hcl' (hPP l i hpl) hcount
      have hmem : ∀ p ∈ (anc i).flatMap slots ++ (base ++ slF slots base l), p ∈ slF slots base l := by
        intro p hp
        rcases List.mem_append.1 hp with hp | hp
        · obtain ⟨j, hj, hp⟩ := List.mem_flatMap.1 hp
          exact slF_mem.2 (.inl ⟨j, hl ▸ hanc i him j hj, hia j hj, hp⟩)
        · rcases List.mem_append.1 hp with hp | hp
          · exact slF_mem.2 (.inr hp)
          · exact hp
      have hmod' := mod_sub (F' := (anc i).flatMap slots ++ (base ++ slF slots base l)) hA' (hall l hl) hmem (Nat.le_refl _) hmod
      refine stepsK_ok hX (l := [opi i]) (K := K) (st := ⟨(anc i).flatMap slots ++ (base ++ slF slots base l), [], Hf l, nxf l, D⟩) ⟨?_, trivial⟩ (opi i) (List.mem_singleton.2 rfl) ρ a w hmod' |> fun h => by rw [hset] at h; exact h
      have hnth : nth ops.toList (opi i) = some o := by rw [nth_eq, Array.getElem?_toList]; exact ho
      rw [hnth]
      show (match o.guard with
        | none => _
        | some _ => False)
      rw [hg]
      refine hstep _ _ _ cont_any ?_
      rw [hset]
      refine ⟨fun ρ a w hm2 => ?_⟩
      refine ihh.h ρ a w (mod_sub (F := slots i ++ ((anc i).flatMap slots ++ (base ++ slF slots base l))) (nx := nxf (l.set i true)) hA' ?_ ?_ (Nat.le_refl _) hm2)
      · intro p hp
        rcases List.mem_append.1 hp with hp | hp
        · refine slF_mem.2 (.inl ⟨i, by simpa using him, ?_, hp⟩)
          simp [List.getD, him]
        · exact hall l hl p (hmem p hp)
      · intro p hp
        rcases slF_mem.1 hp with ⟨j, hj, hd, hp2⟩ | hp2
        · rw [List.length_set] at hj
          rcases (hget j).1 hd with e | hd
          · exact List.mem_append_left _ (e ▸ hp2)
          · exact List.mem_append_right _ (List.mem_append_right _ (List.mem_append_right _ (slF_mem.2 (.inl ⟨j, hj, hd, hp2⟩))))
        · exact List.mem_append_right _ (List.mem_append_right _ (List.mem_append_left _ hp2))
  exact fun l hl hcl hpl => main _ l hl hcl hpl rfl
theorem any_latU {D : List SDef} {X : Cx} {ops : Array Oper} {K : Ex → St → Prop} (hX : X.Ok) (m : Nat) (arr : List Bool → Array Bool) (opi : Nat → Nat) (ex : List Bool → Bool) (slots : Nat → List (Nat × FE)) (base : List (Nat × FE)) (Hf : List Bool → List (Nat × HB)) (nxf : List Bool → Nat) (anc : Nat → List Nat) (rest : Nat) (PP : List Bool → Prop) (hPP : ∀ l i, PP l → PP (l.set i true))
    (hanc : ∀ i, i < m → ∀ j ∈ anc i, j < m) (hchk : ∀ l ∈ allB m, latX ops m arr opi ex anc l = true) (hA : subF (slF slots base (List.replicate m true)) (slF slots base (List.replicate m true)))
    (hst : ∀ i, i < m → ∀ l : List Bool, l.length = m → PP l → l.getD i true = false → (∀ j ∈ anc i, l.getD j false = true) → clB2 anc l = true → ∃ o, ops[opi i]? = some o ∧ o.guard = none ∧ ∀ (tail : List (Nat × FE)) (Q : Exit → Act → World → Prop) (Kn : St → Prop), Cont X Q Kn (fun _ _ => False) → Kn ⟨slots i ++ ((anc i).flatMap slots ++ (base ++ tail)), [], Hf (l.set i true), nxf (l.set i true), D⟩ →
      execL X [o] Q Kn (fun _ _ => False) 0 [o] ⟨(anc i).flatMap slots ++ (base ++ tail), [], Hf l, nxf l, D⟩)
    (hend : ∀ l : List Bool, l.length = m → ex l = true → AnyS X ops (l.count false + rest) (arr l) ⟨slF slots base l, [], Hf l, nxf l, D⟩ K) :
    ∀ l : List Bool, l.length = m → clB2 anc l = true → PP l → AnyS X ops (l.count false + rest) (arr l) ⟨slF slots base l, [], Hf l, nxf l, D⟩ K :=
  any_latV hX m arr opi ex slots base Hf nxf anc rest PP hPP hanc (fun l hl _ => hchk l hl) hA hst hend
end Go.X
end

section
set_option linter.unusedVariables false
set_option linter.unusedSimpArgs false
set_option linter.unusedSectionVars false
/- Pass: the document's renewed certificates: how the first ones are copied. -/
set_option linter.unusedVariables false
set_option linter.unusedSimpArgs false
set_option maxRecDepth 10000
set_option maxHeartbeats 4000000
namespace Go.X.Ps
open Go Go.Proofs Go.X

section
variable {C : Nat → Option Ct} {G : Base} {it ag S y : Int} {n : Nat} {r : Nat → Pp} {K : Ex → St → Prop}
end
end Go.X.Ps
end

section
set_option linter.unusedVariables false
set_option linter.unusedSimpArgs false
set_option linter.unusedSectionVars false
/- Pass: powers of two, and the document's sets. -/
set_option linter.unusedVariables false
set_option linter.unusedSimpArgs false
set_option maxRecDepth 10000
set_option maxHeartbeats 1000000
namespace Go.X.Ps
open Go Go.Proofs Go.X

/-!  power -/
def c55 : Ct := plainCt fun
  | [.si .i64 n] => some ⟨some (n ≤ 62), none, .si .i64 (2 ^ n.toNat), []⟩
  | _ => none
theorem pow_le {n : Nat} (h : n ≤ 62) : (0 : Int) < 2 ^ n ∧ (2 : Int) ^ n ≤ 4611686018427387904 := by
  constructor
  · exact Int.pow_pos (by decide)
  · have : (2 : Nat) ^ n ≤ 2 ^ 62 := Nat.pow_le_pow_right (by decide) h
    have h2 : ((2 ^ n : Nat) : Int) ≤ ((2 ^ 62 : Nat) : Int) := by exact_mod_cast this
    rw [Int.natCast_pow] at h2
    exact h2
theorem k55 {l : List (Nat × Ct)} (g : Good P T l) : COk P 55 c55 := cok (C := tabC l) g.ok Try.func55 (c := code Try.f55) rfl fun fr args H out h hp => by
  simp only [c55, plainCt] at h
  split at h
  · rename_i n
    cases h
    have hp : n ≤ 62 := hp
    refine walk_plain rfl (Nat.le_of_ble_eq_true rfl) fun G hG => ?_
    refine loop_ok (g.ok _ _ _) (fun x : {i : Nat // i ≤ n.toNat} => ⟨[(0, ⟨[], .si .i64 n⟩), (3, ⟨[], .si .i64 (2 ^ x.1)⟩), (4, ⟨[], .si .i64 x.1⟩)], [], [], 0, []⟩) (fun x => n.toNat - x.1) (fun _ => hG) ⟨0, Nat.zero_le _⟩ ?_ ?_
    · refine ⟨?_, ?_, rfl, rfl, rfl⟩ <;> repeat' (first | exact trivial | exact rfl | refine And.intro ?_ ?_)
    · rintro ⟨i, hi⟩
      refine Br.mk (fun h => ?_) (fun h => ?_)
      · have h : (i : Int) < n := of_decide_eq_true h
        have := pow_le (n := i) (by omega)
        refine Chk.mk (show _ ∧ _ from ?_) (Chk.mk (show _ ∧ _ from ?_) ⟨⟨i + 1, by omega⟩, ?_, ?_⟩)
        · show _ ≤ (2 : Int) * 2 ^ i ∧ (2 : Int) * 2 ^ i ≤ _
          have h2 := pow_le (n := i + 1) (by omega)
          rw [Int.pow_succ] at h2
          omega
        · show _ ≤ (i : Int) + 1 ∧ (i : Int) + 1 ≤ _
          omega
        · refine ⟨?_, ?_, rfl, rfl, rfl⟩ <;> repeat' (first | exact trivial | exact rfl | refine And.intro ?_ ?_)
          show (2 : Int) * 2 ^ i = 2 ^ (i + 1)
          rw [Int.pow_succ]; omega
        · show n.toNat - (i + 1) < n.toNat - i
          omega
      · have h : ¬ (i : Int) < n := of_decide_eq_false h
        refine ⟨.inl rfl, end_plain ⟨rfl, ?_⟩ rfl rfl⟩
        show (2 : Int) ^ i = 2 ^ n.toNat
        rw [show i = n.toNat by omega]
  · cases h

/-!  Has, Size -/
theorem g55 {l : List (Nat × Ct)} (g : Good P T l) : Good P T ((55, c55) :: l) := g.add (k55 g) (plainCt_mono _) (body_of Try.func55 (c := code Try.f55) rfl (by decide))

def c62 : Ct := plainCt fun
  | [.si .i64 x, .si .i64 n] => some ⟨some (n ≤ 62 ∧ 0 ≤ x ∧ x < 4611686018427387904), none, .sb (decide ((x.tdiv (2 ^ n.toNat)).tmod 2 = 1)), []⟩
  | _ => none
theorem k62 {l : List (Nat × Ct)} (g0 : Good P T l) : COk P 62 c62 := by
  have g := g55 g0
  refine cok (C := tabC _) g.ok Try.func62 (c := code Try.f62) rfl fun fr args H out h hp => ?_
  simp only [c62, plainCt] at h
  split at h
  · rename_i x n
    cases h
    obtain ⟨hn, hx, hx'⟩ : n ≤ 62 ∧ 0 ≤ x ∧ x < 4611686018427387904 := hp
    refine walk_plain rfl (Nat.le_of_ble_eq_true rfl) fun G hG => ?_
    have hpw := pow_le (n := n.toNat) (by omega)
    refine Chk.mk hn (Chk.mk (show _ ∧ _ from ⟨?_, ?_⟩) (Chk.mk ?_ ⟨.inl rfl, end_plain rfl rfl rfl⟩))
    · show (2 : Int) ^ n.toNat ≠ 0
      omega
    · show _ ≤ x.tdiv (2 ^ n.toNat) ∧ x.tdiv (2 ^ n.toNat) ≤ _
      rw [Int.tdiv_eq_ediv_of_nonneg hx]
      have h1 : 0 ≤ x / 2 ^ n.toNat := Int.ediv_nonneg hx (by omega)
      have h2 : x / 2 ^ n.toNat ≤ x := Int.ediv_le_self _ hx
      omega
    · show (2 : Int) ≠ 0
      decide
  · cases h

theorem g62 {l : List (Nat × Ct)} (g : Good P T l) : Good P T ((62, c62) :: l) := g.add (k62 g) (plainCt_mono _) (body_of Try.func62 (c := code Try.f62) rfl (by decide))
theorem has_eq {S : Int} (h : 0 ≤ S) (i : Nat) : decide ((S.tdiv (2 ^ ((i : Nat) : Int).toNat)).tmod 2 = 1) = hasB S i := by
  obtain ⟨s, rfl⟩ : ∃ s : Nat, S = (s : Int) := ⟨S.toNat, by omega⟩
  rw [hasB_nat, Nat.testBit_eq_decide_div_mod_eq, Int.toNat_natCast, show (2 : Int) ^ i = ((2 ^ i : Nat) : Int) by push_cast; rfl, Int.tdiv_eq_ediv_of_nonneg (Int.natCast_nonneg _), ← Int.natCast_ediv, Int.tmod_eq_emod_of_nonneg (Int.natCast_nonneg _)]
  apply decide_eq_decide.2
  omega
end Go.X.Ps
end

section
set_option linter.unusedVariables false
set_option linter.unusedSimpArgs false
set_option linter.unusedSectionVars false
/- Pass: the document's renewed certificates, and their contract. -/
set_option linter.unusedVariables false
set_option linter.unusedSimpArgs false
set_option maxRecDepth 10000
set_option maxHeartbeats 4000000
namespace Go.X.Ps
open Go Go.Proofs Go.X

end Go.X.Ps
end

section
set_option linter.unusedVariables false
set_option linter.unusedSimpArgs false
set_option linter.unusedSectionVars false
/- Pass: are renewed certificates enough, as the law asks? -/
set_option linter.unusedVariables false
set_option linter.unusedSimpArgs false
set_option maxRecDepth 10000
set_option maxHeartbeats 4000000
namespace Go.X.Ps
open Go Go.Proofs Go.X

end Go.X.Ps
end

section
set_option linter.unusedVariables false
set_option linter.unusedSimpArgs false
set_option linter.unusedSectionVars false
/- Pass: laws of renewed certificates (plain). -/
set_option linter.unusedVariables false
set_option linter.unusedSimpArgs false
set_option maxRecDepth 100000
set_option maxHeartbeats 4000000
namespace Go.X.Ps
open Go Go.Proofs Go.X

/-! ### The least of a list of sets -/
/-! ### More is enough, too -/
end Go.X.Ps
end
