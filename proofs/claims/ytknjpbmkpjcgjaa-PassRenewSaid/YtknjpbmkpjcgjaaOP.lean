/- Renewed certificates, and whether they are enough. -/
import Derived.Test.YtknjpbmkpjcgjaaOO

section
set_option linter.unusedVariables false
set_option linter.unusedSimpArgs false
set_option linter.unusedSectionVars false
/- Regions of any order: one operation between the others, which may write over a slot; where new cells get the numbers that come. -/
set_option linter.unusedVariables false
set_option linter.unusedSimpArgs false
set_option maxRecDepth 10000
set_option maxHeartbeats 4000000
namespace Go.X
open Go

theorem findF_in : ∀ {L : List (Nat × FE)} {t : Nat} {e : FE}, findF L t = some e → (t, e) ∈ L
  | [], t, e, h => by cases h
  | (d, x) :: r, t, e, h => by
    simp only [findF] at h
    split at h
    · rename_i hd
      have : d = t := Nat.eq_of_beq_eq_true hd
      subst this
      cases h
      exact List.mem_cons_self
    · exact List.mem_cons_of_mem _ (findF_in h)
theorem findF_skip {B : List (Nat × FE)} {t : Nat} : ∀ {L : List (Nat × FE)}, (∀ q ∈ L, q.1 ≠ t) → findF (L ++ B) t = findF B t
  | [], _ => rfl
  | (d, x) :: r, h => by
    have hd : Nat.beq d t = false := by
      cases hb : Nat.beq d t with
      | false => rfl
      | true => exact absurd (Nat.eq_of_beq_eq_true hb) (h (d, x) List.mem_cons_self)
    show findF ((d, x) :: (r ++ B)) t = _
    simp only [findF, hd]
    exact findF_skip fun q hq => h q (List.mem_cons_of_mem _ hq)
theorem findF_left {B : List (Nat × FE)} {t : Nat} {e : FE} : ∀ {L : List (Nat × FE)}, findF L t = some e → findF (L ++ B) t = some e
  | [], h => by cases h
  | (d, x) :: r, h => by
    show findF ((d, x) :: (r ++ B)) t = _
    simp only [findF] at h ⊢
    split at h
    · rename_i hd
      simp only [hd]
      exact h
    · rename_i hd
      simp only [hd]
      exact findF_left h
theorem mod_find {X : Cx} {ρ : Env} {F F' : List (Nat × FE)} {gs : List Nat} {H : List (Nat × HB)} {nx : Nat} {D : List SDef} {a : Act} {w : World} (key : ∀ t e, findF F' t = some e → findF F t = some e ∧ e.gp = [])
    (hm : Mod X ρ ⟨F, gs, H, nx, D⟩ a w) : Mod X ρ ⟨F', [], H, nx, D⟩ a w :=
  { fm := fun t e h => hm.fm t e (key t e h).1
    gs := fun t e h x hx => by rw [(key t e h).2] at hx; cases hx
    df := hm.df
    hm := hm.hm
    kp := hm.kp
    nx := hm.nx
    sz := hm.sz }
theorem slF_congr {slots slots' : Nat → List (Nat × FE)} {base : List (Nat × FE)} {l : List Bool} (h : ∀ i, l.getD i false = true → slots i = slots' i) : slF slots base l = slF slots' base l := by
  have e : (fun i => if l.getD i false = true then slots i else []) = fun i => if l.getD i false = true then slots' i else [] := funext fun i => by
    split
    · rename_i hd; exact h i hd
    · rfl
  unfold slF
  rw [e]
theorem any_latE {D : List SDef} {X : Cx} {ops : Array Oper} {K : Ex → St → Prop} (hX : X.Ok) (m : Nat) (arr arr1 : List Bool → Array Bool) (opi : Nat → Nat) (ci : Nat) (slots : Nat → List (Nat × FE)) (base : List (Nat × FE)) (sx base1 : List Bool → List (Nat × FE)) (Hf : List Bool → List (Nat × HB)) (nxf : List Bool → Nat) (H1 : List Bool → List (Nat × HB)) (nx1 : List Bool → Nat) (anc : Nat → List Nat) (ancc : List Nat) (rest : Nat)
    (hanc : ∀ i, i < m → ∀ j ∈ anc i, j < m) (hancc : ∀ j ∈ ancc, j < m) (hchk : ∀ l ∈ allB m, latC ops m arr arr1 opi ci anc ancc l = true)
    (hA0 : subF (slF slots base (List.replicate m true)) (slF slots base (List.replicate m true))) (hsx : ∀ l, subF (sx l) (sx l))
    (hb1 : ∀ l, ∀ p ∈ base1 l, p ∈ sx l ∨ (p ∈ base ∧ ∀ q ∈ sx l, q.1 ≠ p.1)) (hsk : ∀ i, i < m → ∀ l, ∀ p ∈ slots i, ∀ q ∈ sx l, q.1 ≠ p.1)
    (hst : ∀ i, i < m → ∀ l : List Bool, l.length = m → l.getD i true = false → (∀ j ∈ anc i, l.getD j false = true) → clB2 anc l = true → ∃ o, ops[opi i]? = some o ∧ o.guard = none ∧ ∀ (tail : List (Nat × FE)) (Q : Exit → Act → World → Prop) (Kn : St → Prop), Cont X Q Kn (fun _ _ => False) → Kn ⟨slots i ++ ((anc i).flatMap slots ++ (base ++ tail)), [], Hf (l.set i true), nxf (l.set i true), D⟩ →
      execL X [o] Q Kn (fun _ _ => False) 0 [o] ⟨(anc i).flatMap slots ++ (base ++ tail), [], Hf l, nxf l, D⟩)
    (hcall : ∀ l : List Bool, l.length = m → (∀ j ∈ ancc, l.getD j false = true) → clB2 anc l = true → ∃ o, ops[ci]? = some o ∧ o.guard = none ∧ ∀ (tail : List (Nat × FE)) (Q : Exit → Act → World → Prop) (Kn : St → Prop), Cont X Q Kn (fun _ _ => False) → Kn ⟨sx l ++ (ancc.flatMap slots ++ (base ++ tail)), [], H1 l, nx1 l, D⟩ →
      execL X [o] Q Kn (fun _ _ => False) 0 [o] ⟨ancc.flatMap slots ++ (base ++ tail), [], Hf l, nxf l, D⟩)
    (hend : ∀ l : List Bool, l.length = m → clB2 anc l = true → AnyS X ops (l.count false + rest) (arr1 l) ⟨slF slots (base1 l) l, [], H1 l, nx1 l, D⟩ K) :
    ∀ l : List Bool, l.length = m → clB2 anc l = true → AnyS X ops (l.count false + (rest + 1)) (arr l) ⟨slF slots base l, [], Hf l, nxf l, D⟩ K := by
  have hA' := subF_all hA0
  have key : ∀ l : List Bool, l.length = m → (∀ p ∈ ancc.flatMap slots ++ (base ++ slF slots base l), p ∈ slF slots base l) → ∀ t e, findF (slF slots (base1 l) l) t = some e → findF (sx l ++ (ancc.flatMap slots ++ (base ++ slF slots base l))) t = some e ∧ e.gp = [] := by
    intro l hl hmem t e h
    have hp := findF_in h
    have old : (t, e) ∈ slF slots base l → (∀ q ∈ sx l, q.1 ≠ t) → findF (sx l ++ (ancc.flatMap slots ++ (base ++ slF slots base l))) t = some e ∧ e.gp = [] := by
      intro h1 h2
      rw [findF_skip h2]
      refine ⟨(findF_mem (A := slF slots base (List.replicate m true)) (L := ancc.flatMap slots ++ (base ++ slF slots base l)) fun p hp => (hA' p (slF_all hl (hmem p hp))).1).2 ?_, (hA' _ (slF_all hl h1)).2⟩
      exact List.mem_append_right _ (List.mem_append_right _ h1)
    rcases slF_mem.1 hp with ⟨i, hi, hd, h1⟩ | h1
    · exact old (slF_mem.2 (.inl ⟨i, hi, hd, h1⟩)) fun q hq => hsk i (hl ▸ hi) l _ h1 q hq
    · rcases hb1 l _ h1 with h2 | ⟨h2, h3⟩
      · obtain ⟨f1, f2⟩ := subF_all (hsx l) _ h2
        exact ⟨findF_left f1, f2⟩
      · exact old (slF_mem.2 (.inr h2)) h3
  have main : ∀ k, ∀ l : List Bool, l.length = m → clB2 anc l = true → l.count false = k → AnyS X ops (k + (rest + 1)) (arr l) ⟨slF slots base l, [], Hf l, nxf l, D⟩ K := by
    intro k
    induction k with
    | zero =>
      intro l hl hcl hk
      have hc := hchk l (hl ▸ mem_allB l)
      unfold latC at hc
      rw [hcl] at hc
      simp only [Bool.not_true, Bool.false_or, Bool.and_eq_true, Bool.or_eq_true, Bool.not_eq_true', List.all_eq_true, List.any_eq_true, beq_iff_eq] at hc
      obtain ⟨hne, hrs⟩ := hc
      refine ⟨fun ρ a w hmod => ?_⟩
      rw [show 0 + (rest + 1) = rest + 1 by omega]
      refine wpAnyIn_all (rs := Region.ready .any ops (arr l)) rfl (by intro h; rw [h] at hne; cases hne) fun oi hi => ?_
      rcases hrs oi hi with ⟨rfl, hia, hset⟩ | ⟨i, him, rfl, hif, _, _⟩
      · obtain ⟨o, ho, hg, hstep⟩ := hcall l hl hia hcl
        have hmem : ∀ p ∈ ancc.flatMap slots ++ (base ++ slF slots base l), p ∈ slF slots base l := by
          intro p hp
          rcases List.mem_append.1 hp with hp | hp
          · obtain ⟨j, hj, hp⟩ := List.mem_flatMap.1 hp
            exact slF_mem.2 (.inl ⟨j, hl ▸ hancc j hj, hia j hj, hp⟩)
          · rcases List.mem_append.1 hp with hp | hp
            · exact slF_mem.2 (.inr hp)
            · exact hp
        have hmod' := mod_sub (F' := ancc.flatMap slots ++ (base ++ slF slots base l)) hA' (fun p => slF_all hl) hmem (Nat.le_refl _) hmod
        refine stepsK_ok hX (l := [oi]) (K := K) (st := ⟨ancc.flatMap slots ++ (base ++ slF slots base l), [], Hf l, nxf l, D⟩) ⟨?_, trivial⟩ oi (List.mem_singleton.2 rfl) ρ a w hmod'
        have hnth : nth ops.toList oi = some o := by rw [nth_eq, Array.getElem?_toList]; exact ho
        rw [hnth]
        show (match o.guard with
          | none => _
          | some _ => False)
        rw [hg]
        refine hstep _ _ _ cont_any ?_
        rw [hset]
        refine ⟨fun ρ a w hm2 => ?_⟩
        have he := hend l hl hcl
        rw [hk, Nat.zero_add] at he
        refine he.h ρ a w (mod_find (F := sx l ++ (ancc.flatMap slots ++ (base ++ slF slots base l))) (key l hl hmem) hm2)
      · have him : i < m := List.mem_range.1 him
        have hil : i < l.length := by omega
        have hli2 : l[i] = false := by
          rw [List.getD, List.getElem?_eq_getElem hil] at hif
          simpa using hif
        have : false ∈ l := hli2 ▸ List.getElem_mem hil
        have := List.count_pos_iff.2 this
        omega
    | succ k ih =>
      intro l hl hcl hk
      have hc := hchk l (hl ▸ mem_allB l)
      unfold latC at hc
      rw [hcl] at hc
      simp only [Bool.not_true, Bool.false_or, Bool.and_eq_true, Bool.or_eq_true, Bool.not_eq_true', List.all_eq_true, List.any_eq_true, beq_iff_eq] at hc
      obtain ⟨hne, hrs⟩ := hc
      refine ⟨fun ρ a w hmod => ?_⟩
      rw [show k + 1 + (rest + 1) = (k + (rest + 1)) + 1 by omega]
      refine wpAnyIn_all (rs := Region.ready .any ops (arr l)) rfl (by intro h; rw [h] at hne; cases hne) fun oi hi => ?_
      rcases hrs oi hi with ⟨rfl, hia, hset⟩ | ⟨i, him, rfl, hif, hia, hset⟩
      · obtain ⟨o, ho, hg, hstep⟩ := hcall l hl hia hcl
        have hmem : ∀ p ∈ ancc.flatMap slots ++ (base ++ slF slots base l), p ∈ slF slots base l := by
          intro p hp
          rcases List.mem_append.1 hp with hp | hp
          · obtain ⟨j, hj, hp⟩ := List.mem_flatMap.1 hp
            exact slF_mem.2 (.inl ⟨j, hl ▸ hancc j hj, hia j hj, hp⟩)
          · rcases List.mem_append.1 hp with hp | hp
            · exact slF_mem.2 (.inr hp)
            · exact hp
        have hmod' := mod_sub (F' := ancc.flatMap slots ++ (base ++ slF slots base l)) hA' (fun p => slF_all hl) hmem (Nat.le_refl _) hmod
        refine stepsK_ok hX (l := [oi]) (K := K) (st := ⟨ancc.flatMap slots ++ (base ++ slF slots base l), [], Hf l, nxf l, D⟩) ⟨?_, trivial⟩ oi (List.mem_singleton.2 rfl) ρ a w hmod'
        have hnth : nth ops.toList oi = some o := by rw [nth_eq, Array.getElem?_toList]; exact ho
        rw [hnth]
        show (match o.guard with
          | none => _
          | some _ => False)
        rw [hg]
        refine hstep _ _ _ cont_any ?_
        rw [hset]
        refine ⟨fun ρ a w hm2 => ?_⟩
        have he := hend l hl hcl
        rw [hk, show k + 1 + rest = k + (rest + 1) by omega] at he
        refine he.h ρ a w (mod_find (F := sx l ++ (ancc.flatMap slots ++ (base ++ slF slots base l))) (key l hl hmem) hm2)
      · have him : i < m := List.mem_range.1 him
        have hil : i < l.length := by omega
        obtain ⟨o, ho, hg, hstep⟩ := hst i him l hl hif hia hcl
        have hlen : (l.set i true).length = m := by rw [List.length_set, hl]
        have hget : ∀ j, (l.set i true).getD j false = true ↔ j = i ∨ l.getD j false = true := by
          intro j
          simp only [List.getD, List.getElem?_set]
          by_cases e : i = j
          · subst e; simp [hil]
          · simp [e, Ne.symm e]
        have hcl' : clB2 anc (l.set i true) = true := by
          unfold clB2 at hcl ⊢
          rw [List.all_eq_true] at hcl ⊢
          intro j hj
          rw [List.length_set] at hj
          have h0 := hcl j hj
          cases hd : (l.set i true).getD j false with
          | false => rfl
          | true =>
            rw [Bool.not_true, Bool.false_or, List.all_eq_true]
            intro q hq
            refine (hget q).2 ?_
            rcases (hget j).1 hd with rfl | hd
            · exact .inr (hia q hq)
            · rw [hd] at h0
              rw [Bool.not_true, Bool.false_or, List.all_eq_true] at h0
              exact .inr (h0 q hq)
        have hcount : (l.set i true).count false = k := by
          have hli2 : l[i] = false := by
            rw [List.getD, List.getElem?_eq_getElem hil] at hif
            simpa using hif
          have := List.count_set (a := true) (b := false) (l := l) (i := i) hil
          rw [hli2] at this
          simp at this
          omega
        have ihh := ih (l.set i true) hlen hcl' hcount
        have hmem : ∀ p ∈ (anc i).flatMap slots ++ (base ++ slF slots base l), p ∈ slF slots base l := by
          intro p hp
          rcases List.mem_append.1 hp with hp | hp
          · obtain ⟨j, hj, hp⟩ := List.mem_flatMap.1 hp
            exact slF_mem.2 (.inl ⟨j, hl ▸ hanc i him j hj, hia j hj, hp⟩)
          · rcases List.mem_append.1 hp with hp | hp
            · exact slF_mem.2 (.inr hp)
            · exact hp
        have hmod' := mod_sub (F' := (anc i).flatMap slots ++ (base ++ slF slots base l)) hA' (fun p => slF_all hl) hmem (Nat.le_refl _) hmod
        refine stepsK_ok hX (l := [opi i]) (K := K) (st := ⟨(anc i).flatMap slots ++ (base ++ slF slots base l), [], Hf l, nxf l, D⟩) ⟨?_, trivial⟩ (opi i) (List.mem_singleton.2 rfl) ρ a w hmod'
        have hnth : nth ops.toList (opi i) = some o := by rw [nth_eq, Array.getElem?_toList]; exact ho
        rw [hnth]
        show (match o.guard with
          | none => _
          | some _ => False)
        rw [hg]
        refine hstep _ _ _ cont_any ?_
        rw [hset]
        refine ⟨fun ρ a w hm2 => ?_⟩
        refine ihh.h ρ a w (mod_sub (F := slots i ++ ((anc i).flatMap slots ++ (base ++ slF slots base l))) (nx := nxf (l.set i true)) hA' ?_ ?_ (Nat.le_refl _) hm2)
        · intro p hp
          rcases List.mem_append.1 hp with hp | hp
          · refine slF_mem.2 (.inl ⟨i, by simpa using him, ?_, hp⟩)
            simp [List.getD, him]
          · exact slF_all hl (hmem p hp)
        · intro p hp
          rcases slF_mem.1 hp with ⟨j, hj, hd, hp2⟩ | hp2
          · rw [List.length_set] at hj
            rcases (hget j).1 hd with e | hd
            · exact List.mem_append_left _ (e ▸ hp2)
            · exact List.mem_append_right _ (List.mem_append_right _ (List.mem_append_right _ (slF_mem.2 (.inl ⟨j, hj, hd, hp2⟩))))
          · exact List.mem_append_right _ (List.mem_append_right _ (List.mem_append_left _ hp2))
  exact fun l hl hcl => main _ l hl hcl rfl
theorem any_latU {D : List SDef} {X : Cx} {ops : Array Oper} {K : Ex → St → Prop} (hX : X.Ok) (m : Nat) (arr : List Bool → Array Bool) (opi : Nat → Nat) (ex : List Bool → Bool) (slots : Nat → List (Nat × FE)) (base : List (Nat × FE)) (Hf : List Bool → List (Nat × HB)) (nxf : List Bool → Nat) (anc : Nat → List Nat) (rest : Nat) (PP : List Bool → Prop) (hPP : ∀ l i, PP l → PP (l.set i true))
    (hanc : ∀ i, i < m → ∀ j ∈ anc i, j < m) (hchk : ∀ l ∈ allB m, latX ops m arr opi ex anc l = true) (hA : subF (slF slots base (List.replicate m true)) (slF slots base (List.replicate m true)))
    (hst : ∀ i, i < m → ∀ l : List Bool, l.length = m → PP l → l.getD i true = false → (∀ j ∈ anc i, l.getD j false = true) → clB2 anc l = true → ∃ o, ops[opi i]? = some o ∧ o.guard = none ∧ ∀ (tail : List (Nat × FE)) (Q : Exit → Act → World → Prop) (Kn : St → Prop), Cont X Q Kn (fun _ _ => False) → Kn ⟨slots i ++ ((anc i).flatMap slots ++ (base ++ tail)), [], Hf (l.set i true), nxf (l.set i true), D⟩ →
      execL X [o] Q Kn (fun _ _ => False) 0 [o] ⟨(anc i).flatMap slots ++ (base ++ tail), [], Hf l, nxf l, D⟩)
    (hend : ∀ l : List Bool, l.length = m → ex l = true → AnyS X ops (l.count false + rest) (arr l) ⟨slF slots base l, [], Hf l, nxf l, D⟩ K) :
    ∀ l : List Bool, l.length = m → clB2 anc l = true → PP l → AnyS X ops (l.count false + rest) (arr l) ⟨slF slots base l, [], Hf l, nxf l, D⟩ K := by
  have hA' : ∀ p ∈ slF slots base (List.replicate m true), findF (slF slots base (List.replicate m true)) p.1 = some p.2 ∧ p.2.gp = [] := by
    generalize slF slots base (List.replicate m true) = A at hA
    have : ∀ L : List (Nat × FE), subF A L → ∀ p ∈ L, findF A p.1 = some p.2 ∧ p.2.gp = [] := by
      intro L
      induction L with
      | nil => intro _ p hp; cases hp
      | cons q r ih =>
        intro h p hp
        obtain ⟨d, e⟩ := q
        rcases List.mem_cons.1 hp with rfl | hp
        · exact h.1
        · exact ih h.2 p hp
    exact this A hA
  have hall : ∀ l : List Bool, l.length = m → ∀ p ∈ slF slots base l, p ∈ slF slots base (List.replicate m true) := by
    intro l hl p hp
    rcases slF_mem.1 hp with ⟨i, hi, _, h⟩ | h
    · refine slF_mem.2 (.inl ⟨i, by simpa [hl] using hi, ?_, h⟩)
      have : i < m := hl ▸ hi
      simp [List.getD, this]
    · exact slF_mem.2 (.inr h)
  have main : ∀ k, ∀ l : List Bool, l.length = m → clB2 anc l = true → PP l → l.count false = k → AnyS X ops (k + rest) (arr l) ⟨slF slots base l, [], Hf l, nxf l, D⟩ K := by
    intro k
    induction k with
    | zero =>
      intro l hl hcl hpl hk
      have hc := hchk l (hl ▸ mem_allB l)
      cases he : ex l with
      | true => have := hend l hl he; rw [hk] at this; exact this
      | false =>
        unfold latX at hc
        rw [hcl, he] at hc
        simp only [Bool.not_true, Bool.false_or, Bool.and_eq_true, Bool.not_eq_true', List.all_eq_true, List.any_eq_true, beq_iff_eq] at hc
        obtain ⟨hne, hrs⟩ := hc
        cases hr : Region.ready .any ops (arr l) with
        | nil => rw [hr] at hne; cases hne
        | cons o r =>
          obtain ⟨i, him, -, hif, -⟩ := hrs o (by rw [hr]; exact List.mem_cons_self)
          have him : i < m := List.mem_range.1 him
          have hil : i < l.length := by omega
          have hli2 : l[i] = false := by
            rw [List.getD, List.getElem?_eq_getElem hil] at hif
            simpa using hif
          have : false ∈ l := hli2 ▸ List.getElem_mem hil
          have := List.count_pos_iff.2 this
          omega
    | succ k ih =>
      intro l hl hcl hpl hk
      have hc := hchk l (hl ▸ mem_allB l)
      cases he : ex l with
      | true => have := hend l hl he; rw [hk] at this; exact this
      | false =>
      unfold latX at hc
      rw [hcl, he] at hc
      simp only [Bool.not_true, Bool.false_or, Bool.and_eq_true, Bool.not_eq_true', List.all_eq_true, List.any_eq_true, beq_iff_eq] at hc
      obtain ⟨hne, hrs⟩ := hc
      refine ⟨fun ρ a w hmod => ?_⟩
      rw [show k + 1 + rest = (k + rest) + 1 by omega]
      refine wpAnyIn_all (rs := Region.ready .any ops (arr l)) rfl (by intro h; rw [h] at hne; cases hne) fun oi hi => ?_
      obtain ⟨i, him, rfl, hif, hia, hset⟩ := hrs oi hi
      have him : i < m := List.mem_range.1 him
      have hil : i < l.length := by omega
      obtain ⟨o, ho, hg, hstep⟩ := hst i him l hl hpl hif hia hcl
      rw [hset]
      have hlen : (l.set i true).length = m := by rw [List.length_set, hl]
      have hget : ∀ j, (l.set i true).getD j false = true ↔ j = i ∨ l.getD j false = true := by
        intro j
        simp only [List.getD, List.getElem?_set]
        by_cases e : i = j
        · subst e; simp [hil]
        · simp [e, Ne.symm e]
      have hcl' : clB2 anc (l.set i true) = true := by
        unfold clB2 at hcl ⊢
        rw [List.all_eq_true] at hcl ⊢
        intro j hj
        rw [List.length_set] at hj
        have h0 := hcl j hj
        cases hd : (l.set i true).getD j false with
        | false => rfl
        | true =>
          rw [Bool.not_true, Bool.false_or, List.all_eq_true]
          intro q hq
          refine (hget q).2 ?_
          rcases (hget j).1 hd with rfl | hd
          · exact .inr (hia q hq)
          · rw [hd] at h0
            rw [Bool.not_true, Bool.false_or, List.all_eq_true] at h0
            exact .inr (h0 q hq)
      have hcount : (l.set i true).count false = k := by
        have hli : l[i]? = some false := by
          have : l.getD i true = false := hif
          rw [List.getD, List.getElem?_eq_getElem hil] at this
          rw [List.getElem?_eq_getElem hil]
          simpa using this
        have hli2 : l[i] = false := by rw [List.getElem?_eq_getElem hil] at hli; simpa using hli
        have := List.count_set (a := true) (b := false) (l := l) (i := i) hil
        rw [hli2] at this
        simp at this
        omega
      have ihh := ih (l.set i true) hlen hcl' (hPP l i hpl) hcount
      have hmem : ∀ p ∈ (anc i).flatMap slots ++ (base ++ slF slots base l), p ∈ slF slots base l := by
        intro p hp
        rcases List.mem_append.1 hp with hp | hp
        · obtain ⟨j, hj, hp⟩ := List.mem_flatMap.1 hp
          exact slF_mem.2 (.inl ⟨j, hl ▸ hanc i him j hj, hia j hj, hp⟩)
        · rcases List.mem_append.1 hp with hp | hp
          · exact slF_mem.2 (.inr hp)
          · exact hp
      have hmod' := mod_sub (F' := (anc i).flatMap slots ++ (base ++ slF slots base l)) hA' (hall l hl) hmem (Nat.le_refl _) hmod
      refine stepsK_ok hX (l := [opi i]) (K := K) (st := ⟨(anc i).flatMap slots ++ (base ++ slF slots base l), [], Hf l, nxf l, D⟩) ⟨?_, trivial⟩ (opi i) (List.mem_singleton.2 rfl) ρ a w hmod' |> fun h => by rw [hset] at h; exact h
      have hnth : nth ops.toList (opi i) = some o := by rw [nth_eq, Array.getElem?_toList]; exact ho
      rw [hnth]
      show (match o.guard with
        | none => _
        | some _ => False)
      rw [hg]
      refine hstep _ _ _ cont_any ?_
      rw [hset]
      refine ⟨fun ρ a w hm2 => ?_⟩
      refine ihh.h ρ a w (mod_sub (F := slots i ++ ((anc i).flatMap slots ++ (base ++ slF slots base l))) (nx := nxf (l.set i true)) hA' ?_ ?_ (Nat.le_refl _) hm2)
      · intro p hp
        rcases List.mem_append.1 hp with hp | hp
        · refine slF_mem.2 (.inl ⟨i, by simpa using him, ?_, hp⟩)
          simp [List.getD, him]
        · exact hall l hl p (hmem p hp)
      · intro p hp
        rcases slF_mem.1 hp with ⟨j, hj, hd, hp2⟩ | hp2
        · rw [List.length_set] at hj
          rcases (hget j).1 hd with e | hd
          · exact List.mem_append_left _ (e ▸ hp2)
          · exact List.mem_append_right _ (List.mem_append_right _ (List.mem_append_right _ (slF_mem.2 (.inl ⟨j, hj, hd, hp2⟩))))
        · exact List.mem_append_right _ (List.mem_append_right _ (List.mem_append_left _ hp2))
  exact fun l hl hcl hpl => main _ l hl hcl hpl rfl
end Go.X
end

section
set_option linter.unusedVariables false
set_option linter.unusedSimpArgs false
set_option linter.unusedSectionVars false
/- Pass: the document's renewed certificates: how the first ones are copied. -/
set_option linter.unusedVariables false
set_option linter.unusedSimpArgs false
set_option maxRecDepth 10000
set_option maxHeartbeats 4000000
namespace Go.X.Ps
open Go Go.Proofs Go.X

noncomputable def opn1 : Array Oper := regO 1 (code Try.f37)
noncomputable abbrev X37 (C : Nat → Option Ct) (G : Base) : Cx := ⟨P, T, C, G, none, Try.f37.ntmps⟩
def arn (z9 : Bool) (l : List Bool) : Array Bool := ((List.range 11).map fun j => if j < 9 then l.getD j false else if j = 9 then z9 else false).toArray
def ancn : Nat → List Nat
  | 1 => [0]
  | 3 => [2]
  | 6 => [5]
  | 7 => [4, 6]
  | 8 => [1, 3, 7]
  | _ => []
def exn (l : List Bool) : Bool := (List.range 9).all fun j => l.getD j false
theorem ancn_lt : ∀ i, ∀ j ∈ ancn i, j < i := by
  intro i j hj
  unfold ancn at hj
  split at hj <;> simp at hj <;> omega
theorem latn : (clL ancn 9).all (latC opn1 9 (arn false) (arn true) (fun i => i) 9 ancn []) = true := by kernel_rfl
theorem latn2 : (clL ancn 9).all (latX opn1 9 (arn true) (fun i => i) exn ancn) = true := by kernel_rfl
def b37 (S y : Int) : List (Nat × FE) := [(1, ⟨[], .si .i64 S⟩), (2, ⟨[], .si .i64 y⟩), (3, ⟨[], .sp 1 0⟩), (6, ⟨[], .sp 2 0⟩)]
def slon (it ag : Int) (a b : Nat) : Nat → List (Nat × FE)
  | 0 => [(10, ⟨[], .sp 1 0⟩)]
  | 1 => [(11, ⟨[], .si .i64 it⟩)]
  | 2 => [(12, ⟨[], .sp 1 1⟩)]
  | 3 => [(13, ⟨[], .si .i64 ag⟩)]
  | 4 => [(14, ⟨[], .sl a⟩)]
  | 5 => [(15, ⟨[], .sp 1 2⟩)]
  | 6 => [(16, ⟨[], .sl 0⟩)]
  | 7 => [(17, ⟨[], .sl b⟩)]
  | 8 => [(18, ⟨[], .agg [.si .i64 it, .si .i64 ag, .sl b]⟩)]
  | _ => []
def z37 : List SV := [.si .i64 0, .si .i64 0, .sv (.slice none 0 0)]
def H37 (it ag : Int) (n : Nat) (r : Nat → Pp) : List (Nat × HB) := [(2, .cells 24 z37), (1, .cells 24 (paA 0 it ag)), (0, .ro 5 n fun i => ppC (r i))]
def ap37 (a b n : Nat) (r : Nat → Pp) (H : List (Nat × HB)) : List (Nat × HB) := (b, .vec 49 5 n fun i => ppC (r i)) :: (a, .dead) :: (a, .vec 49 5 0 fun i => ppC (r i)) :: H
def Hn0 (it ag : Int) (n : Nat) (r : Nat → Pp) (l : List Bool) : List (Nat × HB) := if l.getD 7 false = true then ap37 3 4 n r ((3, .row 49 5 0 []) :: H37 it ag n r) else if l.getD 4 false = true then (3, .row 49 5 0 []) :: H37 it ag n r else H37 it ag n r
def nn0 (l : List Bool) : Nat := if l.getD 7 false = true then 5 else if l.getD 4 false = true then 4 else 3
/-- Behind the cell nothing else has come yet; the first slice has; or both have. -/
def Hn1 (it ag : Int) (n : Nat) (r : Nat → Pp) (l : List Bool) : List (Nat × HB) := if l.getD 7 false = true then ap37 4 5 n r ((4, .row 49 5 0 []) :: (3, .cells 24 z37) :: H37 it ag n r) else if l.getD 4 false = true then (4, .row 49 5 0 []) :: (3, .cells 24 z37) :: H37 it ag n r else (3, .cells 24 z37) :: H37 it ag n r
def nn1 (l : List Bool) : Nat := if l.getD 7 false = true then 6 else if l.getD 4 false = true then 5 else 4
def Hn2 (it ag : Int) (n : Nat) (r : Nat → Pp) (l : List Bool) : List (Nat × HB) := if l.getD 7 false = true then ap37 3 5 n r ((4, .cells 24 z37) :: (3, .row 49 5 0 []) :: H37 it ag n r) else (4, .cells 24 z37) :: (3, .row 49 5 0 []) :: H37 it ag n r
def nn2 (l : List Bool) : Nat := if l.getD 7 false = true then 6 else 5
def Hn3 (it ag : Int) (n : Nat) (r : Nat → Pp) : List (Nat × HB) := (5, .cells 24 z37) :: ap37 3 4 n r ((3, .row 49 5 0 []) :: H37 it ag n r)
def Hn4 (it ag : Int) (n : Nat) (r : Nat → Pp) (l : List Bool) : List (Nat × HB) := Hn3 it ag n r
def nn3 (l : List Bool) : Nat := 6
theorem no7 {l : List Bool} (hl : l.length = 9) (hcl : clB2 ancn l = true) (h4 : l.getD 4 false = false) : l.getD 7 false = false := by
  cases h7 : l.getD 7 false with
  | false => rfl
  | true =>
    have h := List.all_eq_true.1 hcl 7 (List.mem_range.2 (by omega))
    rw [h7] at h
    have h : (l.getD 4 false && (l.getD 6 false && true)) = true := h
    rw [h4] at h
    cases h
def stn (it ag S y : Int) (n : Nat) (r : Nat → Pp) : St := ⟨(7, ⟨[], .sp 3 0⟩) :: b37 S y, [], (4, .vec 49 5 n fun i => ppC (r i)) :: (3, .cells 24 [.si .i64 it, .si .i64 ag, .sl 4]) :: H37 it ag n r, 5, []⟩
section
variable {C : Nat → Option Ct} {G : Base} {it ag S y : Int} {n : Nat} {r : Nat → Pp} {K : Ex → St → Prop}
theorem ph1 (hX : (X37 C G).Ok) (hG : ∀ j, 1 ≤ j → G.ρ j = none) (hn : n ≤ 1000) (hK : K .normal (stn it ag S y n r)) : ∀ l : List Bool, l.length = 9 → clB2 ancn l = true → True → AnyS (X37 C G) opn1 (l.count false + 1) (arn true l) ⟨slF (slon it ag 4 5) ((7, ⟨[], .sp 3 0⟩) :: b37 S y) l, [], Hn1 it ag n r l, nn1 l, []⟩ K := by
  refine any_latU (D := []) hX 9 (arn true) (fun i => i) exn (slon it ag 4 5) ((7, ⟨[], .sp 3 0⟩) :: b37 S y) (Hn1 it ag n r) nn1 ancn 1 (fun l => True) (fun _ _ _ => trivial) (fun i hi j hj => by have := ancn_lt i j hj; omega) (latX_of ancn_lt latn2) ?_ ?_ ?_
  · repeat' (first | exact trivial | exact ⟨rfl, rfl⟩ | refine And.intro ?_ ?_)
  · intro j hj l hl hpl hf ha hcl
    rcases (show j = 4 ∨ j = 7 ∨ j = 0 ∨ j = 1 ∨ j = 2 ∨ j = 3 ∨ j = 5 ∨ j = 6 ∨ j = 8 by omega) with rfl | rfl | rfl | rfl | rfl | rfl | rfl | rfl | rfl
    · have h4 := getF (show 4 < l.length by omega) hf
      have h7 := no7 hl hcl h4
      refine ⟨_, rfl, rfl, fun tail Q Kn hC hK => ?_⟩
      simp only [Hn1, nn1, getN (l := l) (show 4 ≠ 7 by decide), getS (l := l) (i := 4) (by omega), h4, h7, if_true, if_false, Bool.false_eq_true] at hK ⊢
      exact hK
    · have h7 := getF (show 7 < l.length by omega) hf
      have h4 : l.getD 4 false = true := ha 4 (by decide)
      refine ⟨_, rfl, rfl, fun tail Q Kn hC hK => ?_⟩
      simp only [Hn1, nn1, getN (l := l) (show 7 ≠ 4 by decide), getS (l := l) (i := 7) (by omega), h4, h7, if_true, if_false, Bool.false_eq_true] at hK ⊢
      exact fb_append0 4 0 n (fun i => ppC (r i)) hX hC rfl rfl rfl rfl rfl rfl rfl rfl rfl rfl rfl rfl (by decide) (by decide) rfl rfl rfl rfl (by decide) (by omega) hK
    all_goals
      refine ⟨_, rfl, rfl, fun tail Q Kn hC hK => ?_⟩
      simp only [Hn1, nn1, getN (l := l) (show 0 ≠ 7 by decide), getN (l := l) (show 1 ≠ 7 by decide), getN (l := l) (show 2 ≠ 7 by decide), getN (l := l) (show 3 ≠ 7 by decide), getN (l := l) (show 4 ≠ 7 by decide), getN (l := l) (show 5 ≠ 7 by decide), getN (l := l) (show 6 ≠ 7 by decide), getN (l := l) (show 8 ≠ 7 by decide), getN (l := l) (show 0 ≠ 4 by decide), getN (l := l) (show 1 ≠ 4 by decide), getN (l := l) (show 2 ≠ 4 by decide), getN (l := l) (show 3 ≠ 4 by decide), getN (l := l) (show 5 ≠ 4 by decide), getN (l := l) (show 6 ≠ 4 by decide), getN (l := l) (show 7 ≠ 4 by decide), getN (l := l) (show 8 ≠ 4 by decide)] at hK ⊢
      cases h7 : l.getD 7 false <;> cases h4 : l.getD 4 false <;> simp only [h7, h4, if_true, if_false, Bool.false_eq_true] at hK ⊢ <;> first | exact hK | exact fb_again hX hC rfl hK
  · intro l hl he
    match l, hl, he with
    | [a0, a1, a2, a3, a4, a5, a6, a7, a8], _, he =>
      have he : (a0 && (a1 && (a2 && (a3 && (a4 && (a5 && (a6 && (a7 && (a8 && true))))))))) = true := he
      simp only [Bool.and_eq_true] at he
      obtain ⟨rfl, rfl, rfl, rfl, rfl, rfl, rfl, rfl, rfl, -⟩ := he
      refine any_step [10] hX (by kernel_rfl) (by decide) ⟨?_, trivial⟩
      refine any_weaken 1 (fun j => match j with | 3 => 3 | 4 => 5 | j => j) hG ?_ (any_done (by kernel_rfl) hK)
      refine ⟨?_, ?_, rfl, rfl, rfl, rfl, trivial⟩
      · repeat' (first | exact trivial | exact rfl | refine And.intro ?_ ?_)
      · repeat' (first | exact trivial | exact rfl | exact List.Perm.refl _ | (intro i hi; exact ⟨rfl, rfl⟩) | refine And.intro ?_ ?_)
theorem ph2 (hX : (X37 C G).Ok) (hG : ∀ j, 1 ≤ j → G.ρ j = none) (hn : n ≤ 1000) (hK : K .normal (stn it ag S y n r)) : ∀ l : List Bool, l.length = 9 → clB2 ancn l = true → l.getD 4 false = true → AnyS (X37 C G) opn1 (l.count false + 1) (arn true l) ⟨slF (slon it ag 3 5) ((7, ⟨[], .sp 4 0⟩) :: b37 S y) l, [], Hn2 it ag n r l, nn2 l, []⟩ K := by
  refine any_latU (D := []) hX 9 (arn true) (fun i => i) exn (slon it ag 3 5) ((7, ⟨[], .sp 4 0⟩) :: b37 S y) (Hn2 it ag n r) nn2 ancn 1 (fun l => l.getD 4 false = true) (fun l i h => by
    by_cases e : i = 4
    · subst e
      by_cases hl : 4 < l.length
      · exact getS hl
      · rw [List.getD, List.getElem?_eq_none (by omega)] at h; cases h
    · rw [getN e]; exact h) (fun i hi j hj => by have := ancn_lt i j hj; omega) (latX_of ancn_lt latn2) ?_ ?_ ?_
  · repeat' (first | exact trivial | exact ⟨rfl, rfl⟩ | refine And.intro ?_ ?_)
  · intro j hj l hl hpl hf ha hcl
    rcases (show j = 4 ∨ j = 7 ∨ j = 0 ∨ j = 1 ∨ j = 2 ∨ j = 3 ∨ j = 5 ∨ j = 6 ∨ j = 8 by omega) with rfl | rfl | rfl | rfl | rfl | rfl | rfl | rfl | rfl
    · have h4 := getF (show 4 < l.length by omega) hf
      have := h4.symm.trans hpl; cases this
    · have h7 := getF (show 7 < l.length by omega) hf
      have h4 : l.getD 4 false = true := ha 4 (by decide)
      refine ⟨_, rfl, rfl, fun tail Q Kn hC hK => ?_⟩
      simp only [Hn2, nn2, getN (l := l) (show 7 ≠ 4 by decide), getS (l := l) (i := 7) (by omega), h4, h7, if_true, if_false, Bool.false_eq_true] at hK ⊢
      exact fb_append0 3 0 n (fun i => ppC (r i)) hX hC rfl rfl rfl rfl rfl rfl rfl rfl rfl rfl rfl rfl (by decide) (by decide) rfl rfl rfl rfl (by decide) (by omega) hK
    all_goals
      refine ⟨_, rfl, rfl, fun tail Q Kn hC hK => ?_⟩
      simp only [Hn2, nn2, getN (l := l) (show 0 ≠ 7 by decide), getN (l := l) (show 1 ≠ 7 by decide), getN (l := l) (show 2 ≠ 7 by decide), getN (l := l) (show 3 ≠ 7 by decide), getN (l := l) (show 4 ≠ 7 by decide), getN (l := l) (show 5 ≠ 7 by decide), getN (l := l) (show 6 ≠ 7 by decide), getN (l := l) (show 8 ≠ 7 by decide), getN (l := l) (show 0 ≠ 4 by decide), getN (l := l) (show 1 ≠ 4 by decide), getN (l := l) (show 2 ≠ 4 by decide), getN (l := l) (show 3 ≠ 4 by decide), getN (l := l) (show 5 ≠ 4 by decide), getN (l := l) (show 6 ≠ 4 by decide), getN (l := l) (show 7 ≠ 4 by decide), getN (l := l) (show 8 ≠ 4 by decide)] at hK ⊢
      cases h7 : l.getD 7 false <;> cases h4 : l.getD 4 false <;> simp only [h7, h4, if_true, if_false, Bool.false_eq_true] at hK ⊢ <;> first | exact hK | exact fb_again hX hC rfl hK
  · intro l hl he
    match l, hl, he with
    | [a0, a1, a2, a3, a4, a5, a6, a7, a8], _, he =>
      have he : (a0 && (a1 && (a2 && (a3 && (a4 && (a5 && (a6 && (a7 && (a8 && true))))))))) = true := he
      simp only [Bool.and_eq_true] at he
      obtain ⟨rfl, rfl, rfl, rfl, rfl, rfl, rfl, rfl, rfl, -⟩ := he
      refine any_step [10] hX (by kernel_rfl) (by decide) ⟨?_, trivial⟩
      refine any_weaken 1 (fun j => match j with | 3 => 4 | 4 => 5 | j => j) hG ?_ (any_done (by kernel_rfl) hK)
      refine ⟨?_, ?_, rfl, rfl, rfl, rfl, trivial⟩
      · repeat' (first | exact trivial | exact rfl | refine And.intro ?_ ?_)
      · repeat' (first | exact trivial | exact rfl | exact List.Perm.refl _ | (intro i hi; exact ⟨rfl, rfl⟩) | refine And.intro ?_ ?_)
theorem ph3 (hX : (X37 C G).Ok) (hG : ∀ j, 1 ≤ j → G.ρ j = none) (hn : n ≤ 1000) (hK : K .normal (stn it ag S y n r)) : ∀ l : List Bool, l.length = 9 → clB2 ancn l = true → l.getD 7 false = true → AnyS (X37 C G) opn1 (l.count false + 1) (arn true l) ⟨slF (slon it ag 3 4) ((7, ⟨[], .sp 5 0⟩) :: b37 S y) l, [], Hn4 it ag n r l, nn3 l, []⟩ K := by
  refine any_latU (D := []) hX 9 (arn true) (fun i => i) exn (slon it ag 3 4) ((7, ⟨[], .sp 5 0⟩) :: b37 S y) (Hn4 it ag n r) nn3 ancn 1 (fun l => l.getD 7 false = true) (fun l i h => by
    by_cases e : i = 7
    · subst e
      by_cases hl : 7 < l.length
      · exact getS hl
      · rw [List.getD, List.getElem?_eq_none (by omega)] at h; cases h
    · rw [getN e]; exact h) (fun i hi j hj => by have := ancn_lt i j hj; omega) (latX_of ancn_lt latn2) ?_ ?_ ?_
  · repeat' (first | exact trivial | exact ⟨rfl, rfl⟩ | refine And.intro ?_ ?_)
  · intro j hj l hl hpl hf ha hcl
    rcases (show j = 4 ∨ j = 7 ∨ j = 0 ∨ j = 1 ∨ j = 2 ∨ j = 3 ∨ j = 5 ∨ j = 6 ∨ j = 8 by omega) with rfl | rfl | rfl | rfl | rfl | rfl | rfl | rfl | rfl
    · have h4 := getF (show 4 < l.length by omega) hf
      rw [no7 hl hcl h4] at hpl; cases hpl
    · have h7 := getF (show 7 < l.length by omega) hf
      have := h7.symm.trans hpl; cases this
    all_goals
      refine ⟨_, rfl, rfl, fun tail Q Kn hC hK => ?_⟩
      first | exact hK | exact fb_again hX hC rfl hK
  · intro l hl he
    match l, hl, he with
    | [a0, a1, a2, a3, a4, a5, a6, a7, a8], _, he =>
      have he : (a0 && (a1 && (a2 && (a3 && (a4 && (a5 && (a6 && (a7 && (a8 && true))))))))) = true := he
      simp only [Bool.and_eq_true] at he
      obtain ⟨rfl, rfl, rfl, rfl, rfl, rfl, rfl, rfl, rfl, -⟩ := he
      refine any_step [10] hX (by kernel_rfl) (by decide) ⟨?_, trivial⟩
      refine any_weaken 1 (fun j => match j with | 3 => 5 | 4 => 4 | j => j) hG ?_ (any_done (by kernel_rfl) hK)
      refine ⟨?_, ?_, rfl, rfl, rfl, rfl, trivial⟩
      · repeat' (first | exact trivial | exact rfl | refine And.intro ?_ ?_)
      · repeat' (first | exact trivial | exact rfl | exact List.Perm.refl _ | (intro i hi; exact ⟨rfl, rfl⟩) | refine And.intro ?_ ?_)
theorem regn (hX : (X37 C G).Ok) (hG : ∀ j, 1 ≤ j → G.ρ j = none) (hn : n ≤ 1000) (hK : K .normal (stn it ag S y n r)) : AnyS (X37 C G) opn1 11 (Array.replicate 11 false) ⟨b37 S y, [], H37 it ag n r, 3, []⟩ K := by
  refine any_latE (D := []) hX 9 (arn false) (arn true) (fun i => i) 9 (slon it ag 3 4) (b37 S y) (fun l => [(7, ⟨[], .sp (nn0 l) 0⟩)]) (fun l => (7, ⟨[], .sp (nn0 l) 0⟩) :: b37 S y) (Hn0 it ag n r) nn0 (fun l => (nn0 l, .cells 24 z37) :: Hn0 it ag n r l) (fun l => nn0 l + 1) ancn [] 1 (fun i hi j hj => by have := ancn_lt i j hj; omega) (fun j hj => by cases hj) (latC_of ancn_lt latn) ?_ (fun l => ⟨⟨rfl, rfl⟩, trivial⟩) ?_ ?_ ?_ ?_ ?_ (List.replicate 9 false) rfl (by decide)
  · repeat' (first | exact trivial | exact ⟨rfl, rfl⟩ | refine And.intro ?_ ?_)
  · intro l p hp
    rcases List.mem_cons.1 hp with rfl | hp
    · exact .inl List.mem_cons_self
    · refine .inr ⟨hp, fun q hq => ?_⟩
      rw [List.mem_singleton.1 hq]
      simp only [b37, List.mem_cons, List.not_mem_nil, or_false] at hp
      rcases hp with rfl | rfl | rfl | rfl <;> simp
  · intro i hi l p hp q hq
    rw [List.mem_singleton.1 hq]
    rcases (show i = 0 ∨ i = 1 ∨ i = 2 ∨ i = 3 ∨ i = 4 ∨ i = 5 ∨ i = 6 ∨ i = 7 ∨ i = 8 by omega) with rfl | rfl | rfl | rfl | rfl | rfl | rfl | rfl | rfl <;> (rw [List.mem_singleton.1 hp]; simp)
  · intro j hj l hl hf ha hcl
    rcases (show j = 4 ∨ j = 7 ∨ j = 0 ∨ j = 1 ∨ j = 2 ∨ j = 3 ∨ j = 5 ∨ j = 6 ∨ j = 8 by omega) with rfl | rfl | rfl | rfl | rfl | rfl | rfl | rfl | rfl
    · have h4 := getF (show 4 < l.length by omega) hf
      have h7 := no7 hl hcl h4
      refine ⟨_, rfl, rfl, fun tail Q Kn hC hK => ?_⟩
      simp only [Hn0, nn0, getN (l := l) (show 4 ≠ 7 by decide), getS (l := l) (i := 4) (by omega), h4, h7, if_true, if_false, Bool.false_eq_true] at hK ⊢
      exact hK
    · have h7 := getF (show 7 < l.length by omega) hf
      have h4 : l.getD 4 false = true := ha 4 (by decide)
      refine ⟨_, rfl, rfl, fun tail Q Kn hC hK => ?_⟩
      simp only [Hn0, nn0, getN (l := l) (show 7 ≠ 4 by decide), getS (l := l) (i := 7) (by omega), h4, h7, if_true, if_false, Bool.false_eq_true] at hK ⊢
      exact fb_append0 3 0 n (fun i => ppC (r i)) hX hC rfl rfl rfl rfl rfl rfl rfl rfl rfl rfl rfl rfl (by decide) (by decide) rfl rfl rfl rfl (by decide) (by omega) hK
    all_goals
      refine ⟨_, rfl, rfl, fun tail Q Kn hC hK => ?_⟩
      simp only [Hn0, nn0, getN (l := l) (show 0 ≠ 7 by decide), getN (l := l) (show 1 ≠ 7 by decide), getN (l := l) (show 2 ≠ 7 by decide), getN (l := l) (show 3 ≠ 7 by decide), getN (l := l) (show 4 ≠ 7 by decide), getN (l := l) (show 5 ≠ 7 by decide), getN (l := l) (show 6 ≠ 7 by decide), getN (l := l) (show 8 ≠ 7 by decide), getN (l := l) (show 0 ≠ 4 by decide), getN (l := l) (show 1 ≠ 4 by decide), getN (l := l) (show 2 ≠ 4 by decide), getN (l := l) (show 3 ≠ 4 by decide), getN (l := l) (show 5 ≠ 4 by decide), getN (l := l) (show 6 ≠ 4 by decide), getN (l := l) (show 7 ≠ 4 by decide), getN (l := l) (show 8 ≠ 4 by decide)] at hK ⊢
      cases h7 : l.getD 7 false <;> cases h4 : l.getD 4 false <;> simp only [h7, h4, if_true, if_false, Bool.false_eq_true] at hK ⊢ <;> first | exact hK | exact fb_again hX hC rfl hK
  · intro l hl ha hcl
    refine ⟨_, rfl, rfl, fun tail Q Kn hC hK => ?_⟩
    simp only [Hn0, nn0] at hK ⊢
    cases h7 : l.getD 7 false <;> cases h4 : l.getD 4 false <;> simp only [h7, h4, if_true, if_false, Bool.false_eq_true] at hK ⊢ <;> exact hK
  · intro l hl hcl
    cases h4 : l.getD 4 false with
    | false =>
      have h7 := no7 hl hcl h4
      have h := ph1 (it := it) (ag := ag) (S := S) (y := y) (r := r) hX hG hn hK l hl hcl trivial
      simp only [Hn1, nn1, h4, h7, if_true, if_false, Bool.false_eq_true] at h
      simp only [Hn0, nn0, h4, h7, if_true, if_false, Bool.false_eq_true]
      rw [slF_congr (slots' := slon it ag 4 5) fun i hd => ?_]
      · exact h
      · by_cases e4 : i = 4
        · subst e4; rw [h4] at hd; cases hd
        by_cases e7 : i = 7
        · subst e7; rw [h7] at hd; cases hd
        by_cases e8 : i = 8
        · subst e8
          have h := List.all_eq_true.1 hcl 8 (List.mem_range.2 (by omega))
          rw [hd] at h
          have h : (l.getD 1 false && (l.getD 3 false && (l.getD 7 false && true))) = true := h
          rw [h7] at h
          simp at h
        unfold slon
        split <;> first | rfl | contradiction
    | true =>
      cases h7 : l.getD 7 false with
      | false =>
        have h := ph2 (it := it) (ag := ag) (S := S) (y := y) (r := r) hX hG hn hK l hl hcl h4
        simp only [Hn2, nn2, h4, h7, if_true, if_false, Bool.false_eq_true] at h
        simp only [Hn0, nn0, h4, h7, if_true, if_false, Bool.false_eq_true]
        rw [slF_congr (slots' := slon it ag 3 5) fun i hd => ?_]
        · exact h
        · by_cases e7 : i = 7
          · subst e7; rw [h7] at hd; cases hd
          by_cases e8 : i = 8
          · subst e8
            have h := List.all_eq_true.1 hcl 8 (List.mem_range.2 (by omega))
            rw [hd] at h
            have h : (l.getD 1 false && (l.getD 3 false && (l.getD 7 false && true))) = true := h
            rw [h7] at h
            simp at h
          unfold slon
          split <;> first | rfl | contradiction
      | true =>
        have h := ph3 (it := it) (ag := ag) (S := S) (y := y) (r := r) hX hG hn hK l hl hcl h7
        simp only [Hn0, nn0, h4, h7, if_true, if_false, Bool.false_eq_true]
        exact h
end
end Go.X.Ps
end

section
set_option linter.unusedVariables false
set_option linter.unusedSimpArgs false
set_option linter.unusedSectionVars false
/- Pass: powers of two, and the document's sets. -/
set_option linter.unusedVariables false
set_option linter.unusedSimpArgs false
set_option maxRecDepth 10000
set_option maxHeartbeats 1000000
namespace Go.X.Ps
open Go Go.Proofs Go.X

/-!  power -/
def c55 : Ct := plainCt fun
  | [.si .i64 n] => some ⟨some (n ≤ 62), none, .si .i64 (2 ^ n.toNat), []⟩
  | _ => none
theorem pow_le {n : Nat} (h : n ≤ 62) : (0 : Int) < 2 ^ n ∧ (2 : Int) ^ n ≤ 4611686018427387904 := by
  constructor
  · exact Int.pow_pos (by decide)
  · have : (2 : Nat) ^ n ≤ 2 ^ 62 := Nat.pow_le_pow_right (by decide) h
    have h2 : ((2 ^ n : Nat) : Int) ≤ ((2 ^ 62 : Nat) : Int) := by exact_mod_cast this
    rw [Int.natCast_pow] at h2
    exact h2
theorem k55 {l : List (Nat × Ct)} (g : Good P T l) : COk P 55 c55 := cok (C := tabC l) g.ok Try.func55 (c := code Try.f55) rfl fun fr args H out h hp => by
  simp only [c55, plainCt] at h
  split at h
  · rename_i n
    cases h
    have hp : n ≤ 62 := hp
    refine walk_plain rfl (Nat.le_of_ble_eq_true rfl) fun G hG => ?_
    refine loop_ok (g.ok _ _ _) (fun x : {i : Nat // i ≤ n.toNat} => ⟨[(0, ⟨[], .si .i64 n⟩), (3, ⟨[], .si .i64 (2 ^ x.1)⟩), (4, ⟨[], .si .i64 x.1⟩)], [], [], 0, []⟩) (fun x => n.toNat - x.1) (fun _ => hG) ⟨0, Nat.zero_le _⟩ ?_ ?_
    · refine ⟨?_, ?_, rfl, rfl, rfl⟩ <;> repeat' (first | exact trivial | exact rfl | refine And.intro ?_ ?_)
    · rintro ⟨i, hi⟩
      refine Br.mk (fun h => ?_) (fun h => ?_)
      · have h : (i : Int) < n := of_decide_eq_true h
        have := pow_le (n := i) (by omega)
        refine Chk.mk (show _ ∧ _ from ?_) (Chk.mk (show _ ∧ _ from ?_) ⟨⟨i + 1, by omega⟩, ?_, ?_⟩)
        · show _ ≤ (2 : Int) * 2 ^ i ∧ (2 : Int) * 2 ^ i ≤ _
          have h2 := pow_le (n := i + 1) (by omega)
          rw [Int.pow_succ] at h2
          omega
        · show _ ≤ (i : Int) + 1 ∧ (i : Int) + 1 ≤ _
          omega
        · refine ⟨?_, ?_, rfl, rfl, rfl⟩ <;> repeat' (first | exact trivial | exact rfl | refine And.intro ?_ ?_)
          show (2 : Int) * 2 ^ i = 2 ^ (i + 1)
          rw [Int.pow_succ]; omega
        · show n.toNat - (i + 1) < n.toNat - i
          omega
      · have h : ¬ (i : Int) < n := of_decide_eq_false h
        refine ⟨.inl rfl, end_plain ⟨rfl, ?_⟩ rfl rfl⟩
        show (2 : Int) ^ i = 2 ^ n.toNat
        rw [show i = n.toNat by omega]
  · cases h

/-!  Has, Size -/
theorem g55 {l : List (Nat × Ct)} (g : Good P T l) : Good P T ((55, c55) :: l) := g.add (k55 g) (plainCt_mono _) (body_of Try.func55 (c := code Try.f55) rfl (by decide))

def c62 : Ct := plainCt fun
  | [.si .i64 x, .si .i64 n] => some ⟨some (n ≤ 62 ∧ 0 ≤ x ∧ x < 4611686018427387904), none, .sb (decide ((x.tdiv (2 ^ n.toNat)).tmod 2 = 1)), []⟩
  | _ => none
theorem k62 {l : List (Nat × Ct)} (g0 : Good P T l) : COk P 62 c62 := by
  have g := g55 g0
  refine cok (C := tabC _) g.ok Try.func62 (c := code Try.f62) rfl fun fr args H out h hp => ?_
  simp only [c62, plainCt] at h
  split at h
  · rename_i x n
    cases h
    obtain ⟨hn, hx, hx'⟩ : n ≤ 62 ∧ 0 ≤ x ∧ x < 4611686018427387904 := hp
    refine walk_plain rfl (Nat.le_of_ble_eq_true rfl) fun G hG => ?_
    have hpw := pow_le (n := n.toNat) (by omega)
    refine Chk.mk hn (Chk.mk (show _ ∧ _ from ⟨?_, ?_⟩) (Chk.mk ?_ ⟨.inl rfl, end_plain rfl rfl rfl⟩))
    · show (2 : Int) ^ n.toNat ≠ 0
      omega
    · show _ ≤ x.tdiv (2 ^ n.toNat) ∧ x.tdiv (2 ^ n.toNat) ≤ _
      rw [Int.tdiv_eq_ediv_of_nonneg hx]
      have h1 : 0 ≤ x / 2 ^ n.toNat := Int.ediv_nonneg hx (by omega)
      have h2 : x / 2 ^ n.toNat ≤ x := Int.ediv_le_self _ hx
      omega
    · show (2 : Int) ≠ 0
      decide
  · cases h

/-- How many bits. -/
def sizeN : Nat → Nat
  | 0 => 0
  | n + 1 => (n + 1) % 2 + sizeN ((n + 1) / 2)
decreasing_by omega
theorem sizeN_pos {n : Nat} (h : 0 < n) : sizeN n = n % 2 + sizeN (n / 2) := by
  obtain ⟨m, rfl⟩ : ∃ m, n = m + 1 := ⟨n - 1, by omega⟩
  rw [sizeN]
theorem sizeN_le (n : Nat) : sizeN n ≤ n := by
  induction n using Nat.strongRecOn with
  | _ n ih =>
    rcases Nat.eq_zero_or_pos n with rfl | h
    · simp [sizeN]
    · rw [sizeN_pos h]
      have := ih (n / 2) (by omega)
      omega

def c38 : Ct := plainCt fun
  | [.si .i64 x] => some ⟨some (x < 4611686018427387904), none, .si .i64 (sizeN x.toNat), []⟩
  | _ => none
theorem k38 {l : List (Nat × Ct)} (g : Good P T l) : COk P 38 c38 := cok (C := tabC l) g.ok Try.func38 (c := code Try.f38) rfl fun fr args H out h hp => by
  simp only [c38, plainCt] at h
  split at h
  · rename_i x
    cases h
    have hp : x < 4611686018427387904 := hp
    refine walk_plain rfl (Nat.le_of_ble_eq_true rfl) fun G hG => ?_
    refine loop_ok (g.ok _ _ _) (fun y : {y : Int × Int // y.1 ≤ x ∧ 0 ≤ y.2 ∧ y.2 + sizeN y.1.toNat = sizeN x.toNat} => ⟨[(0, ⟨[], .si .i64 y.1.1⟩), (3, ⟨[], .si .i64 y.1.2⟩)], [], [], 0, []⟩) (fun y => y.1.1.toNat) (fun _ => hG)
      ⟨(x, 0), by refine ⟨by omega, by omega, ?_⟩; simp⟩ ?_ ?_
    · refine ⟨?_, ?_, rfl, rfl, rfl⟩ <;> repeat' (first | exact trivial | exact rfl | refine And.intro ?_ ?_)
    · rintro ⟨⟨y, n⟩, h1, h2, h3⟩
      simp only at h1 h2 h3
      have hle := sizeN_le x.toNat
      refine Br.mk (fun h => ?_) (fun h => ?_)
      · have h : (0 : Int) < y := of_decide_eq_true h
        have e1 : y.tmod 2 = y % 2 := Int.tmod_eq_emod_of_nonneg (by omega)
        have e2 : y.tdiv 2 = y / 2 := Int.tdiv_eq_ediv_of_nonneg (by omega)
        have hs := sizeN_pos (n := y.toNat) (by omega)
        refine Chk.mk (show (2 : Int) ≠ 0 by decide) (Chk.mk (show _ ∧ _ from ?_) (Chk.mk (show _ ∧ _ from ⟨by decide, ?_⟩) ⟨⟨(y / 2, n + y % 2), ?_⟩, ?_, ?_⟩))
        · show _ ≤ n + y.tmod 2 ∧ n + y.tmod 2 ≤ _
          omega
        · show _ ≤ y.tdiv 2 ∧ y.tdiv 2 ≤ _
          omega
        · have e3 : (y / 2).toNat = y.toNat / 2 := by omega
          simp only [e3]
          omega
        · refine ⟨?_, ?_, rfl, rfl, rfl⟩ <;> repeat' (first | exact trivial | exact rfl | refine And.intro ?_ ?_)
          · exact e2
          · show n + y.tmod 2 = n + y % 2
            rw [e1]
        · show (y / 2).toNat < y.toNat
          omega
      · have h : ¬ (0 : Int) < y := of_decide_eq_false h
        refine ⟨.inl rfl, end_plain ⟨rfl, ?_⟩ rfl rfl⟩
        show n = sizeN x.toNat
        rw [show y.toNat = 0 by omega] at h3
        simp [sizeN] at h3
        omega
  · cases h

theorem g62 {l : List (Nat × Ct)} (g : Good P T l) : Good P T ((62, c62) :: l) := g.add (k62 g) (plainCt_mono _) (body_of Try.func62 (c := code Try.f62) rfl (by decide))
theorem g38 {l : List (Nat × Ct)} (g : Good P T l) : Good P T ((38, c38) :: l) := g.add (k38 g) (plainCt_mono _) (body_of Try.func38 (c := code Try.f38) rfl (by decide))
theorem has_eq {S : Int} (h : 0 ≤ S) (i : Nat) : decide ((S.tdiv (2 ^ ((i : Nat) : Int).toNat)).tmod 2 = 1) = hasB S i := by
  obtain ⟨s, rfl⟩ : ∃ s : Nat, S = (s : Int) := ⟨S.toNat, by omega⟩
  rw [hasB_nat, Nat.testBit_eq_decide_div_mod_eq, Int.toNat_natCast, show (2 : Int) ^ i = ((2 ^ i : Nat) : Int) by push_cast; rfl, Int.tdiv_eq_ediv_of_nonneg (Int.natCast_nonneg _), ← Int.natCast_ediv, Int.tmod_eq_emod_of_nonneg (Int.natCast_nonneg _)]
  apply decide_eq_decide.2
  omega
theorem size_all : ∀ x, x < 256 → sizeN x = popN x := by
  have h : ((List.range 256).all fun x => decide (sizeN x = popN x)) = true := by
    have e : ∀ k, ∀ x, x < 2 ^ k → sizeN x = (Nat.rec (fun _ => 0) (fun _ r x => if x = 0 then 0 else x % 2 + r (x / 2)) k : Nat → Nat) x := by
      intro k
      induction k with
      | zero => intro x hx; obtain rfl : x = 0 := by omega
                rw [sizeN]; rfl
      | succ k ih =>
        intro x hx
        rcases Nat.eq_zero_or_pos x with rfl | h0
        · rw [sizeN]; rfl
        · rw [sizeN_pos h0, ih (x / 2) (by rw [Nat.pow_succ] at hx; omega)]
          show _ = if x = 0 then 0 else _
          rw [if_neg (by omega)]
    rw [List.all_eq_true]
    intro x hx
    rw [decide_eq_true_eq, e 8 x (by have := List.mem_range.1 hx; omega)]
    have : ((List.range 256).all fun x => decide ((Nat.rec (fun _ => 0) (fun _ r x => if x = 0 then 0 else x % 2 + r (x / 2)) 8 : Nat → Nat) x = popN x)) = true := by decide +kernel
    exact of_decide_eq_true (List.all_eq_true.1 this x hx)
  intro x hx
  exact of_decide_eq_true (List.all_eq_true.1 h x (List.mem_range.2 hx))
end Go.X.Ps
end

section
set_option linter.unusedVariables false
set_option linter.unusedSimpArgs false
set_option linter.unusedSectionVars false
/- Pass: the document's renewed certificates, and their contract. -/
set_option linter.unusedVariables false
set_option linter.unusedSimpArgs false
set_option maxRecDepth 10000
set_option maxHeartbeats 4000000
namespace Go.X.Ps
open Go Go.Proofs Go.X

def c37 : Ct := fun fr args H => match args with
  | [.agg l, .si .i64 S, .si .i64 y] => passK H l fun i1 it ag n get => some ⟨some (Pps n get ∧ n ≤ 60 ∧ 0 ≤ S ∧ S ≤ 1000000), none, .agg [.si .i64 it, .si .i64 ag, .sl fr], [(fr, .vec 49 5 (rnw n (ppAt get) S y).length fun j => ppC (pget (rnw n (ppAt get) S y) j))]⟩
  | _ => none
theorem c37_mono : CtMono c37 := by
  intro fr args H H' out hH h
  unfold c37 at h ⊢
  split at h
  · exact passK_mono hH h
  · cases h
theorem k37 {l : List (Nat × Ct)} (g0 : Good P T l) : COk P 37 c37 := by
  have g := g62 good0
  refine cok (C := tabC _) g.ok Try.func37 (c := code Try.f37) rfl fun fr args H out h hp => ?_
  unfold c37 at h
  split at h
  case h_2 => cases h
  rename_i l S y
  obtain ⟨i1, it, ag, n, get, rfl, e1, h⟩ := passK_some h
  cases h
  obtain ⟨hs, hn, hS⟩ : Pps n get ∧ n ≤ 60 ∧ 0 ≤ S ∧ S ≤ 1000000 := hp
  refine ⟨[(i1, .ro 5 n fun i => ppC (ppAt get i))], [.agg (paA 0 it ag), .si .i64 S, .si .i64 y], [(0, .ro 5 n fun i => ppC (ppAt get i))], 1, [4], rfl, rfl, Nat.le_of_ble_eq_true rfl, pp_hand e1 hs, rfl, rfl, fun G hG => ?_⟩
  generalize ppAt get = r
  refine (show SemC _ _ _ _ from ?_)
  refine any_region fol ?_
  refine any_weaken (st' := ⟨b37 S y, [], H37 it ag n r, 3, []⟩) 1 (fun j => j) hG (by
    refine ⟨?_, ?_, rfl, rfl, rfl, rfl, trivial⟩
    · repeat' (first | exact trivial | exact rfl | refine And.intro ?_ ?_)
    · repeat' (first | exact trivial | exact rfl | exact List.Perm.refl _ | (intro i hi; exact ⟨rfl, rfl⟩) | refine And.intro ?_ ?_)) ?_
  refine regn (g.ok _ _ _) hG (by omega) ?_
  refine loop_okR (g.ok _ _ _) 1 (fun z : {i : Nat // i ≤ n} => ⟨[(1, ⟨[], .si .i64 S⟩), (2, ⟨[], .si .i64 y⟩), (3, ⟨[], .sp 1 0⟩), (6, ⟨[], .sp 2 0⟩), (7, ⟨[], .sp 3 0⟩), (8, ⟨[], .si .i64 (z.1 : Int)⟩)], [],
      (4, .vec 49 5 (rnB n r S y z.1).length fun j => ppC (pget (rnB n r S y z.1) j)) :: (3, .cells 24 [.si .i64 it, .si .i64 ag, .sl 4]) :: H37 it ag n r, 5, []⟩)
    (fun z => n - z.1) hG ⟨0, Nat.zero_le _⟩ (fun j => j) ?_ ?_
  · refine ⟨?_, ?_, rfl, rfl, rfl, rfl, trivial⟩ <;> repeat' (first | exact trivial | exact rfl | exact List.Perm.refl _ | exact rn_len0 | (intro i hi; exact ⟨rn_get0 hi, rfl⟩) | (intro i hi; exact ⟨rfl, rfl⟩) | refine And.intro ?_ ?_)
  rintro ⟨i, hi⟩
  refine Br.mk (fun h => ?_) (fun h => ?_)
  · have h : (i : Int) < (n : Int) := of_decide_eq_true h
    have hin : i < n := by omega
    have hl := rnB_len n r S y i
    refine Chk.mk (show (i : Int) ≤ 62 ∧ 0 ≤ S ∧ S < 4611686018427387904 from ⟨by omega, by omega, by omega⟩) ?_
    refine Br.mk (fun h2 => ?_) (fun h2 => ?_)
    · have h2 : decide ((S.tdiv (2 ^ ((i : Nat) : Int).toNat)).tmod 2 = 1) = true := h2
      rw [has_eq hS.1] at h2
      refine Chk.mk (show (0 : Int) ≤ (i : Int) ∧ (i : Int) < (n : Int) from ⟨by omega, h⟩) ?_
      refine fb_append (Te := 0) 4 _ (rnB n r S y i).length 1 (fun j => ppC (pget (rnB n r S y i) j)) _ (fun j => ppC (pget (rnB n r S y i ++ [rnX (r i) y]) j)) (g.ok _ _ _) cont_std rfl rfl rfl rfl rfl rfl rfl rfl rfl rfl rfl rfl (by decide) (by decide) rfl rfl rfl rfl ?_ ?_ ?_
      · omega
      · exact fun j hj => pget_snoc (x := rnX (r i) y) (get2 := fun q => takeL 5 (dropL (q * 5) (ppC (rnX (r i) y)))) rfl hj
      · refine Chk.mk (show InK .i64 ((i : Int) + 1) from ⟨by omega, by omega⟩) ⟨⟨i + 1, by omega⟩, (fun j => match j with | 4 => 7 | j => j), ?_, by show n - (i + 1) < n - i; omega⟩
        show WeakR _ _ _ _
        simp only [rnB_next h2]
        refine ⟨?_, ?_, rfl, rfl, rfl, rfl, trivial⟩ <;> repeat' (first | exact trivial | exact rfl | exact List.Perm.refl _ | exact snoc_len | (intro i hi; exact ⟨rfl, rfl⟩) | refine And.intro ?_ ?_)
    · have h2 : decide ((S.tdiv (2 ^ ((i : Nat) : Int).toNat)).tmod 2 = 1) = false := h2
      rw [has_eq hS.1] at h2
      refine Chk.mk (show InK .i64 ((i : Int) + 1) from ⟨by omega, by omega⟩) ⟨⟨i + 1, by omega⟩, (fun j => j), ?_, by show n - (i + 1) < n - i; omega⟩
      show WeakR _ _ _ _
      simp only [rnB_skip h2]
      refine ⟨?_, ?_, rfl, rfl, rfl, rfl, trivial⟩ <;> repeat' (first | exact trivial | exact rfl | exact List.Perm.refl _ | (intro i hi; exact ⟨rfl, rfl⟩) | refine And.intro ?_ ?_)
  · have h : ¬ (i : Int) < (n : Int) := of_decide_eq_false h
    obtain rfl : i = n := by omega
    refine ⟨.inl rfl, ⟨?_, rfl, ?_, ?_, rfl, rfl⟩⟩ <;> repeat' (first | exact trivial | exact rfl | (intro i hi; exact ⟨rfl, rfl⟩) | refine And.intro ?_ ?_)
theorem g37 {l : List (Nat × Ct)} (g : Good P T l) : Good P T ((37, c37) :: l) := g.add (k37 g) c37_mono (body_of Try.func37 (c := code Try.f37) rfl (by decide))
end Go.X.Ps
end

section
set_option linter.unusedVariables false
set_option linter.unusedSimpArgs false
set_option linter.unusedSectionVars false
/- Pass: are renewed certificates enough, as the law asks? -/
set_option linter.unusedVariables false
set_option linter.unusedSimpArgs false
set_option maxRecDepth 10000
set_option maxHeartbeats 4000000
namespace Go.X.Ps
open Go Go.Proofs Go.X

theorem rnw_mem {n : Nat} {r : Nat → Pp} {S y : Int} {x : Pp} (h : x ∈ rnw n r S y) : (∃ j, j < n ∧ x = r j) ∨ ∃ j, j < n ∧ hasB S j = true ∧ x = rnX (r j) y := by
  unfold rnw rnB at h
  rcases List.mem_append.1 h with h | h
  · obtain ⟨j, h1, h2⟩ := List.mem_map.1 h
    exact .inl ⟨j, List.mem_range.1 h1, h2.symm⟩
  · exact .inr (rnL_mem h)
theorem rnw_valid {it ag : Int} {n : Nat} {r : Nat → Pp} {S y : Int} (hv : validV it ag ((List.range n).map r) = true) (hy : 0 ≤ y ∧ y ≤ 20) (h8 : (rnw n r S y).length ≤ 8) : validV it ag (rnw n r S y) = true := by
  have ha := valid_all hv
  unfold validV at hv ⊢
  simp only [Bool.and_eq_true, decide_eq_true_eq, Bool.not_eq_true', List.any_eq_false] at hv ⊢
  refine ⟨hv.1, hv.2.1, h8, fun x hx => ?_⟩
  rcases rnw_mem hx with ⟨j, h1, rfl⟩ | ⟨j, h1, _, rfl⟩
  · rw [ha j h1]; decide
  · have := ha j h1
    unfold badV at this ⊢
    simp only [Bool.or_eq_false_iff, Bool.not_eq_false'] at this
    obtain ⟨⟨⟨⟨⟨b1, b2⟩, b3⟩, b4⟩, b5⟩, b6⟩ := this
    show ¬ (!inB (r j).of 0 (it - 1) || !inB (r j).by_ (-1) (it - 1) || decide ((r j).by_ = (r j).of) || !inB (r j).wr 0 50 || !inB y 0 20 || !inB (r j).dr 0 10) = true
    rw [b1, b2, b3, b4, b6, inB_in hy]
    decide
theorem badI_eq {it ag lim : Int} {ps : List Pp} {i : Nat} {y : Int} (hv : validV it ag ps = true) (hit : 1 ≤ it ∧ it ≤ 6) (hq : (i : Int) < it) (hy : 0 ≤ y ∧ y ≤ 20) :
    (!decide (boundE it ag ps (i : Int) y = 0) || decide (lim < boundR it ag ps (i : Int) y)) = badI (bnN ag ps y) lim i := by
  obtain ⟨E1, R1⟩ := bound_in (q := (i : Int)) (z := y) hv hit ⟨by omega, hq⟩ hy
  rw [E1, R1]
  have hw := wO_in (q := (i : Int)) (y := y) (valid_ps hv)
  unfold badI inB bnN
  cases h : bnL ag ps (i : Int) y with
  | none => rfl
  | some c =>
    rw [h] at hw
    rw [show bO (some c) = c.w from rfl, show wO (some c) = c.w from rfl]
    have h0 : 0 ≤ c.w := hw.1
    by_cases hl : lim < c.w
    · rw [decide_eq_true hl, decide_eq_true h0, decide_eq_false (show ¬ c.w ≤ lim by omega)]; rfl
    · rw [decide_eq_false hl, decide_eq_true h0, decide_eq_true (show c.w ≤ lim by omega)]; rfl
def c36 : Ct := fun fr args H => match args with
  | [.si .i64 S, .sp px 0, .sp py 0, .sp pl 0] => (match Nat.beq py pl, H px, H py, H pl with
    | false, some (.cells 24 l), some (.cells 3 [.si .i64 y]), some (.cells 3 [.si .i64 lim]) => passK H l fun i1 it ag n get => some ⟨some (Pps n get ∧ validV it ag (papL n get) = true ∧ (0 ≤ y ∧ y ≤ 20) ∧ 0 ≤ S ∧ S < 256), none, .tup [.sb (decide ((rnw n (ppAt get) S y).length ≤ 8) && enoB it ag n (ppAt get) S y lim), .sb (decide ((rnw n (ppAt get) S y).length ≤ 8))], []⟩
    | _, _, _, _ => none)
  | _ => none
theorem c36_mono : CtMono c36 := by
  intro fr args H H' out hH h
  unfold c36 at h ⊢
  split at h
  · split at h
    · rename_i e0 e1 e2 e3
      simp only [e0, hH _ _ e1, hH _ _ e2, hH _ _ e3]
      exact passK_mono hH h
    · cases h
  · cases h
theorem k36 {l : List (Nat × Ct)} (g0 : Good P T l) : COk P 36 c36 := by
  have g := g37 (g15 good0)
  refine cok (C := tabC _) g.ok Try.func36 (c := code Try.f36) rfl fun fr args H out h hp => ?_
  unfold c36 at h
  split at h
  case h_2 => cases h
  rename_i S px py pl
  split at h
  case h_2 => cases h
  rename_i l y lim e0 e1 e2 e3
  obtain ⟨i1, it, ag, n, get, rfl, e4, h⟩ := passK_some h
  cases h
  obtain ⟨hs, hv, hy, hS⟩ : Pps n get ∧ validV it ag (papL n get) = true ∧ (0 ≤ y ∧ y ≤ 20) ∧ 0 ≤ S ∧ S < 256 := hp
  have hh : Hand H [(i1, .ro 5 n fun i => ppC (ppAt get i)), (px, .cells 24 (paA 0 it ag)), (py, .cells 3 [.si .i64 y]), (pl, .cells 3 [.si .i64 lim])] := hand_nd ⟨sliceOf_piece e4 fun i hi => (hs i hi).symm, e1, e2, e3, trivial⟩ (by repeat' (first | exact trivial | (intro i hi; exact ⟨trivial, trivial, trivial, trivial, trivial, trivial⟩) | refine And.intro ?_ ?_ | exact (by decide : (0 : Nat) < 4))) (by
    have n1 : i1 ≠ px := fun e => by subst e; unfold sliceOf at e4; rw [e1] at e4; cases e4
    have n2 : i1 ≠ py := fun e => by subst e; unfold sliceOf at e4; rw [e2] at e4; cases e4
    have n3 : i1 ≠ pl := fun e => by subst e; unfold sliceOf at e4; rw [e3] at e4; cases e4
    have n4 : px ≠ py := fun e => by subst e; rw [e1] at e2; cases e2
    have n5 : px ≠ pl := fun e => by subst e; rw [e1] at e3; cases e3
    have n6 : py ≠ pl := fun e => by subst e; rw [Nat.beq_refl] at e0; cases e0
    simp [n1, n2, n3, n4, n5, n6])
  refine ⟨[(i1, .ro 5 n fun i => ppC (ppAt get i)), (px, .cells 24 (paA 0 it ag)), (py, .cells 3 [.si .i64 y]), (pl, .cells 3 [.si .i64 lim])], [.si .i64 S, .sp 1 0, .sp 2 0, .sp 3 0], [(0, .ro 5 n fun i => ppC (ppAt get i)), (1, .cells 24 (paA 0 it ag)), (2, .cells 3 [.si .i64 y]), (3, .cells 3 [.si .i64 lim])], 4, [], rfl, rfl, Nat.le_of_ble_eq_true rfl, hh, rfl, rfl, fun G hG => ?_⟩
  have hv : validV it ag ((List.range n).map (ppAt get)) = true := hv
  generalize ppAt get = L at hv ⊢
  obtain ⟨hr, hit, hn8⟩ := valid_ok hv
  refine Chk.mk ⟨pps_i _ _, by omega, by omega, by omega⟩ ?_
  have hRv := rnw_valid (S := S) hv hy
  have hRl := rnB_len n L S y n
  have hRl : (rnw n L S y).length ≤ n + n := hRl
  have hpl : papL (rnw n L S y).length (fun j => ppC (pget (rnw n L S y) j)) = rnw n L S y := map_pget _
  unfold enoB
  refine Br.mk (fun h => ?_) (fun h => ?_)
  · have h : (8 : Int) < ((rnw n L S y).length : Int) := of_decide_eq_true h
    rw [decide_eq_false (show ¬ (rnw n L S y).length ≤ 8 by omega)]
    exact ⟨.inl rfl, end_noid ⟨rfl, rfl, trivial⟩ rfl rfl (by repeat' (first | exact trivial | exact rfl | (intro i hi; exact ⟨rfl, rfl⟩) | refine And.intro ?_ ?_))⟩
  have h : ¬ (8 : Int) < ((rnw n L S y).length : Int) := of_decide_eq_false h
  have h8 : (rnw n L S y).length ≤ 8 := by omega
  have hRv := hRv h8
  rw [decide_eq_true h8]
  refine loop_okR (g.ok _ _ _) 4 (fun z : {i : Nat // (i : Int) ≤ it ∧ (List.range i).any (badI (bnN ag (rnw n L S y) y) lim) = false} => ⟨[(1, ⟨[], .sp 1 0⟩), (2, ⟨[], .sp 2 0⟩), (3, ⟨[], .sp 3 0⟩), (7, ⟨[], .sp 5 0⟩), (20, ⟨[], .si .i64 it⟩), (21, ⟨[], .si .i64 (z.1 : Int)⟩)], [], [(5, .cells 24 [.si .i64 it, .si .i64 ag, .sl 4]), (4, .vec 49 5 (rnw n L S y).length fun j => ppC (pget (rnw n L S y) j)), (0, .ro 5 n fun i => ppC (L i)), (1, .cells 24 (paA 0 it ag)), (2, .cells 3 [.si .i64 y]), (3, .cells 3 [.si .i64 lim])], 6, []⟩)
    (fun z => (it - (z.1 : Int)).toNat) hG ⟨0, by omega, rfl⟩ (fun j => match j with | 5 => 8 | j => j) ?_ ?_
  · refine ⟨?_, ?_, rfl, rfl, rfl, rfl, trivial⟩ <;> repeat' (first | exact trivial | exact rfl | exact List.Perm.refl _ | (intro i hi; exact ⟨rfl, rfl⟩) | refine And.intro ?_ ?_)
  rintro ⟨i, hi, hok⟩
  refine Br.mk (fun h => ?_) (fun h => ?_)
  · have h : (i : Int) < it := of_decide_eq_true h
    obtain ⟨E1, R1⟩ := bound_in (q := (i : Int)) (z := y) hRv hit ⟨by omega, h⟩ hy
    have hb := badI_eq (lim := lim) hRv hit h hy
    refine Chk.mk ⟨pps_i _ _, by omega⟩ ?_
    refine Br.mk (fun h2 => ?_) (fun h2 => ?_)
    · exfalso
      have h2 : (!decide (boundE it ag (papL (rnw n L S y).length fun j => ppC (pget (rnw n L S y) j)) (i : Int) y = 0) && !decide (boundE it ag (papL (rnw n L S y).length fun j => ppC (pget (rnw n L S y) j)) (i : Int) y = 4)) = true := h2
      rw [hpl, E1] at h2
      split at h2 <;> cases h2
    refine Br.mk (fun h3 => ?_) (fun h3 => ?_)
    · have h3 : (!decide (boundE it ag (papL (rnw n L S y).length fun j => ppC (pget (rnw n L S y) j)) (i : Int) y = 0) || decide (lim < boundR it ag (papL (rnw n L S y).length fun j => ppC (pget (rnw n L S y) j)) (i : Int) y)) = true := h3
      rw [hpl, hb] at h3
      have e : (List.range it.toNat).any (badI (bnN ag (rnw n L S y) y) lim) = true := List.any_eq_true.2 ⟨i, List.mem_range.2 (by omega), h3⟩
      rw [e]
      exact ⟨.inl rfl, end_noid ⟨rfl, rfl, trivial⟩ rfl rfl (by repeat' (first | exact trivial | exact rfl | (intro i hi; exact ⟨rfl, rfl⟩) | refine And.intro ?_ ?_))⟩
    · have h3 : (!decide (boundE it ag (papL (rnw n L S y).length fun j => ppC (pget (rnw n L S y) j)) (i : Int) y = 0) || decide (lim < boundR it ag (papL (rnw n L S y).length fun j => ppC (pget (rnw n L S y) j)) (i : Int) y)) = false := h3
      rw [hpl, hb] at h3
      refine Chk.mk (show InK .i64 ((i : Int) + 1) from ⟨by omega, by omega⟩) ⟨⟨i + 1, by omega, by rw [List.range_succ, List.any_append, hok]; simp [h3]⟩, (fun j => j), ?_, by show (it - ((i + 1 : Nat) : Int)).toNat < (it - (i : Int)).toNat; omega⟩
      refine ⟨?_, ?_, rfl, rfl, rfl, rfl, trivial⟩ <;> repeat' (first | exact trivial | exact rfl | exact List.Perm.refl _ | (intro i hi; exact ⟨rfl, rfl⟩) | refine And.intro ?_ ?_)
  · have h : ¬ (i : Int) < it := of_decide_eq_false h
    have e : it.toNat = i := by omega
    have hfin : true = (true && !(List.range it.toNat).any (badI (bnN ag (rnw n L S y) y) lim)) := by rw [e, hok]; rfl
    exact ⟨.inl rfl, end_noid ⟨hfin, rfl, trivial⟩ rfl rfl (by repeat' (first | exact trivial | exact rfl | (intro i hi; exact ⟨rfl, rfl⟩) | refine And.intro ?_ ?_))⟩
theorem g36 {l : List (Nat × Ct)} (g : Good P T l) : Good P T ((36, c36) :: l) := g.add (k36 g) c36_mono (body_of Try.func36 (c := code Try.f36) rfl (by decide))
end Go.X.Ps
end

section
set_option linter.unusedVariables false
set_option linter.unusedSimpArgs false
set_option linter.unusedSectionVars false
/- Pass: laws of renewed certificates (plain). -/
set_option linter.unusedVariables false
set_option linter.unusedSimpArgs false
set_option maxRecDepth 100000
set_option maxHeartbeats 4000000
namespace Go.X.Ps
open Go Go.Proofs Go.X

/-! ### The least of a list of sets -/
theorem lstN_spec {f : Nat → Nat} : ∀ {n : Nat}, 0 < n → (∀ i j, i < j → j < n → f i < f j) → (∃ i, i < n ∧ f i = lstN f n) ∧ ∀ i, i < n → popN (lstN f n) ≤ popN (f i) ∧ (popN (f i) = popN (lstN f n) → lstN f n ≤ f i)
  | 0, h, _ => absurd h (Nat.lt_irrefl 0)
  | n + 1, _, hf => by
    rw [lstN]
    by_cases h0 : n = 0
    · subst h0
      rw [if_pos rfl]
      refine ⟨⟨0, by omega, rfl⟩, fun i hi => ?_⟩
      obtain rfl : i = 0 := by omega
      exact ⟨Nat.le_refl _, fun _ => Nat.le_refl _⟩
    · rw [if_neg h0]
      obtain ⟨⟨k, hk, hk2⟩, hall⟩ := lstN_spec (f := f) (n := n) (by omega) (fun i j h1 h2 => hf i j h1 (by omega))
      by_cases hp : popN (f n) < popN (lstN f n)
      · rw [if_pos hp]
        refine ⟨⟨n, by omega, rfl⟩, fun i hi => ?_⟩
        by_cases hin : i = n
        · subst hin; exact ⟨Nat.le_refl _, fun _ => Nat.le_refl _⟩
        · have := hall i (by omega)
          exact ⟨by omega, fun h => by omega⟩
      · rw [if_neg hp]
        refine ⟨⟨k, by omega, hk2⟩, fun i hi => ?_⟩
        by_cases hin : i = n
        · subst hin
          refine ⟨by omega, fun _ => ?_⟩
          have := hf k i hk (by omega)
          omega
        · exact hall i (by omega)
theorem renL_mem {it ag : Int} {ps : List Pp} {y lim : Int} {S : Nat} : S ∈ renL it ag ps y lim ↔ S < 2 ^ ps.length ∧ enoP it ag ps y lim S = true := by
  unfold renL renS
  rw [List.mem_filter, List.mem_range]
theorem renL_lt {it ag : Int} {ps : List Pp} {y lim : Int} : ∀ i j, i < j → j < (renL it ag ps y lim).length → (renL it ag ps y lim).getD i 0 < (renL it ag ps y lim).getD j 0 := by
  intro i j h1 h2
  have hp : (renL it ag ps y lim).Pairwise (· < ·) := List.Pairwise.filter _ List.pairwise_lt_range
  have := List.pairwise_iff_getElem.1 hp i j (by omega) h2 h1
  simpa [List.getD, h2, show i < (renL it ag ps y lim).length by omega] using this
/-- What is told of renewals. -/
theorem ren_spec {it ag : Int} {ps : List Pp} {y lim : Int} (hv : validV it ag ps = true) (hy : 0 ≤ y ∧ y ≤ 20) (hl : 0 ≤ lim ∧ lim ≤ 2000) :
    (renE it ag ps y lim = 0 ∧ ∃ m : Nat, renR it ag ps y lim = (m : Int) ∧ m < 2 ^ ps.length ∧ enoP it ag ps y lim m = true ∧ ∀ S, S < 2 ^ ps.length → enoP it ag ps y lim S = true → popN m ≤ popN S ∧ (popN S = popN m → m ≤ S)) ∨
    (renE it ag ps y lim = 4 ∧ renR it ag ps y lim = 0 ∧ ∀ S, S < 2 ^ ps.length → enoP it ag ps y lim S = false) := by
  have e0 : renE0 it ag ps y lim = 0 := by
    unfold renE0
    rw [hv, inB_in hy, inB_in hl]
    rfl
  have eE : renE it ag ps y lim = if 0 < (renL it ag ps y lim).length then 0 else 4 := by unfold renE; rw [if_pos e0]
  by_cases h : 0 < (renL it ag ps y lim).length
  · left
    rw [if_pos h] at eE
    refine ⟨eE, lstL (renL it ag ps y lim), by unfold renR; rw [if_pos eE], ?_⟩
    obtain ⟨⟨k, hk, hk2⟩, hall⟩ := lstN_spec (f := fun i => (renL it ag ps y lim).getD i 0) h renL_lt
    have hm : lstL (renL it ag ps y lim) ∈ renL it ag ps y lim := by
      have e : (renL it ag ps y lim).getD k 0 = lstL (renL it ag ps y lim) := hk2
      rw [← e]
      simp [List.getD, hk]
    obtain ⟨m1, m2⟩ := renL_mem.1 hm
    refine ⟨m1, m2, fun S h1 h2 => ?_⟩
    obtain ⟨i, hi, hi2⟩ := List.mem_iff_getElem.1 (renL_mem.2 ⟨h1, h2⟩)
    have := hall i hi
    have e : (renL it ag ps y lim).getD i 0 = S := by simp [List.getD, hi, hi2]
    rw [e] at this
    exact this
  · right
    rw [if_neg h] at eE
    refine ⟨eE, by unfold renR; rw [if_neg (by rw [eE]; decide)], fun S h1 => ?_⟩
    cases h2 : enoP it ag ps y lim S with
    | false => rfl
    | true =>
      have := renL_mem.2 ⟨h1, h2⟩
      have := List.length_pos_of_mem this
      omega
theorem enoP_lim {it ag : Int} {ps : List Pp} {y lim lim' : Int} {S : Nat} (h : lim ≤ lim') (hs : enoP it ag ps y lim S = true) : enoP it ag ps y lim' S = true := by
  unfold enoP enoB at *
  rw [Bool.not_eq_true', List.any_eq_false] at *
  intro i hi
  have := hs i hi
  unfold badI inB at *
  simp only [Bool.not_eq_true', Bool.not_eq_false', Bool.and_eq_true, decide_eq_true_eq, Bool.not_eq_false] at *
  omega
/-! ### More is enough, too -/
theorem rnL_in {r : Nat → Pp} {S y : Int} {j : Nat} (hb : hasB S j = true) : ∀ {i}, j < i → rnX (r j) y ∈ rnL r S y i
  | 0, h => absurd h (Nat.not_lt_zero _)
  | i + 1, h => by
    rw [rnL]
    by_cases e : j = i
    · subst e
      rw [if_pos hb]
      exact List.mem_append_right _ List.mem_cons_self
    · have := rnL_in (r := r) (y := y) hb (i := i) (by omega)
      split
      · exact List.mem_append_left _ this
      · exact this
theorem mem_pget {l : List Pp} {x : Pp} (h : x ∈ l) : ∃ j, j < l.length ∧ pget l j = x := by
  obtain ⟨j, h1, h2⟩ := List.mem_iff_getElem.1 h
  exact ⟨j, h1, by simp [pget, List.getD, h1, h2]⟩
theorem pget_mem {l : List Pp} {j : Nat} (h : j < l.length) : pget l j ∈ l := by
  have : pget l j = l[j] := by simp [pget, List.getD, h]
  rw [this]
  exact List.getElem_mem h
theorem enoP_all {it ag : Int} {ps : List Pp} {y lim : Int} {S : Nat} (hv : validV it ag ps = true) (hy : 0 ≤ y ∧ y ≤ 20) (hS : S < 2 ^ ps.length) (hs : enoP it ag ps y lim S = true) : enoP it ag ps y lim (2 ^ ps.length - 1) = true := by
  have hr := valid_ps hv
  have h8 : ps.length ≤ 8 := by
    unfold validV at hv
    simp only [Bool.and_eq_true, decide_eq_true_eq] at hv
    exact hv.2.2.1
  have hm : More ag (rnw ps.length (pget ps) (S : Int) y) ag (rnw ps.length (pget ps) ((2 ^ ps.length - 1 : Nat) : Int) y) := by
    refine more_of (Int.le_refl _) fun j hj => ?_
    have hx : pget (rnw ps.length (pget ps) (S : Int) y) j ∈ rnw ps.length (pget ps) ((2 ^ ps.length - 1 : Nat) : Int) y := by
      rcases rnw_mem (pget_mem hj) with ⟨k, h1, e⟩ | ⟨k, h1, h2, e⟩
      · rw [e]
        unfold rnw rnB
        exact List.mem_append_left _ (List.mem_map.2 ⟨k, List.mem_range.2 h1, rfl⟩)
      · rw [e]
        unfold rnw rnB
        refine List.mem_append_right _ (rnL_in ?_ h1)
        rw [hasB_nat, Nat.testBit_two_pow_sub_one]
        simpa using h1
    obtain ⟨j', h1, h2⟩ := mem_pget hx
    exact ⟨j', h1, by rw [h2]; exact goodP_self _⟩
  unfold enoP enoB at *
  rw [Bool.not_eq_true', List.any_eq_false] at *
  intro i hi
  have h1 := hs i hi
  have hR := rnw_ok (S := ((2 ^ ps.length - 1 : Nat) : Int)) hr (by omega) hy
  have hw := wO_in (q := (i : Int)) (y := y) hR
  unfold badI inB bnN at *
  simp only [Bool.not_eq_true', Bool.not_eq_false', Bool.and_eq_true, decide_eq_true_eq, Bool.not_eq_false] at *
  cases ha : bnL ag (rnw ps.length (pget ps) (S : Int) y) (i : Int) y with
  | none => rw [ha] at h1; exact absurd h1.1 (by decide)
  | some a =>
    rw [ha] at h1
    obtain ⟨c', hc, hle⟩ := hm _ _ _ (bst_some ha)
    obtain ⟨b, hb, _⟩ := bst_le (ppb_of hR) hc
    have hb2 := bst_w (ppb_of hR) hb hc
    have hb : bnL ag (rnw ps.length (pget ps) ((2 ^ ps.length - 1 : Nat) : Int) y) (i : Int) y = some b := hb
    rw [hb] at hw ⊢
    have h1b : a.w ≤ lim := h1.2
    have hw1 : 0 ≤ b.w := hw.1
    exact ⟨hw1, show b.w ≤ lim by omega⟩
theorem pop_less : ∀ s, s < 256 → ∀ i, i < 8 → s.testBit i = true → popN (s - (s &&& 2 ^ i)) < popN s := by
  have h : ((List.range 256).all fun s => (List.range 8).all fun i => !s.testBit i || decide (popN (s - (s &&& 2 ^ i)) < popN s)) = true := by decide +kernel
  intro s hs i hi hb
  have := List.all_eq_true.1 (List.all_eq_true.1 h s (List.mem_range.2 hs)) i (List.mem_range.2 hi)
  rw [hb] at this
  exact of_decide_eq_true this
theorem ren_b {it ag : Int} {ps : List Pp} {y lim : Int} (hv : validV it ag ps = true) (h8 : ps.length ≤ 8) (hy : 0 ≤ y ∧ y ≤ 20) (hl : 0 ≤ lim ∧ lim ≤ 2000) : 0 ≤ renR it ag ps y lim ∧ renR it ag ps y lim < 256 := by
  have hE8 : 2 ^ ps.length ≤ 2 ^ 8 := Nat.pow_le_pow_right (by decide) h8
  rcases ren_spec hv hy hl with ⟨_, m, e, h, _⟩ | ⟨_, e, _⟩
  · rw [e]; omega
  · rw [e]; omega
theorem renCond1 {it ag : Int} {ps : List Pp} {y b d : Int} (hv : validV it ag ps = true) (h8 : ps.length ≤ 8) (hy : 0 ≤ y ∧ y ≤ 20) (hb : 0 ≤ b ∧ b < 256) (hd : 0 ≤ d ∧ d < 256) :
    (decide (renR it ag ps y b < 0) ||
          decide (((2 ^ ps.length - 1 : Nat) : Int) < renR it ag ps y b) ||
        !decide (renE it ag ps y b = 0) &&
          (!decide (renE it ag ps y b = 4) ||
            !decide (renR it ag ps y b = 0)) ||
      decide (renE it ag ps y b = 0) &&
        (!decide (renE it ag ps y (b + d) = 0) ||
            decide (renR it ag ps y (b + d) < 0) ||
          decide
            (((sizeN (renR it ag ps y b).toNat : Nat) : Int) <
              ((sizeN (renR it ag ps y (b + d)).toNat : Nat) : Int)))) = false := by
  have hE8 : 2 ^ ps.length ≤ 2 ^ 8 := Nat.pow_le_pow_right (by decide) h8
  have hE1 := Nat.one_le_two_pow (n := ps.length)
  rcases ren_spec (lim := b) hv hy ⟨hb.1, by omega⟩ with ⟨e1, m, e2, h1, h2, h3⟩ | ⟨e1, e2, h1⟩
  · rcases ren_spec (lim := b + d) hv hy ⟨by omega, by omega⟩ with ⟨f1, m', f2, g1, g2, g3⟩ | ⟨f1, f2, g1⟩
    · have hp := (g3 m h1 (enoP_lim (by omega) h2)).1
      rw [e1, e2, f1, f2, Int.toNat_natCast, Int.toNat_natCast, size_all m (by omega), size_all m' (by omega)]
      rw [decide_eq_false (show ¬ (m : Int) < 0 by omega), decide_eq_false (show ¬ ((2 ^ ps.length - 1 : Nat) : Int) < (m : Int) by omega), decide_eq_false (show ¬ (m' : Int) < 0 by omega), decide_eq_false (show ¬ ((popN m : Nat) : Int) < ((popN m' : Nat) : Int) by omega)]
      rfl
    · have := g1 m h1
      rw [enoP_lim (by omega) h2] at this
      cases this
  · rw [e1, e2, decide_eq_false (show ¬ ((2 ^ ps.length - 1 : Nat) : Int) < 0 by omega)]
    rfl
theorem renCond2 {it ag : Int} {ps : List Pp} {y b : Int} {O : Nat} (hv : validV it ag ps = true) (h8 : ps.length ≤ 8) (hy : 0 ≤ y ∧ y ≤ 20) (hb : 0 ≤ b ∧ b < 256) (hO : O < 2 ^ ps.length) (ho : enoP it ag ps y b O = true) :
    renE it ag ps y b = 0 ∧ ¬ ((sizeN O : Nat) : Int) < ((sizeN (renR it ag ps y b).toNat : Nat) : Int) ∧ ¬ (((sizeN O : Nat) : Int) = ((sizeN (renR it ag ps y b).toNat : Nat) : Int) ∧ (O : Int) < renR it ag ps y b) := by
  have hE8 : 2 ^ ps.length ≤ 2 ^ 8 := Nat.pow_le_pow_right (by decide) h8
  rcases ren_spec (lim := b) hv hy ⟨hb.1, by omega⟩ with ⟨e1, m, e2, h1, h2, h3⟩ | ⟨e1, e2, h1⟩
  · obtain ⟨g1, g2⟩ := h3 O hO ho
    rw [e2, Int.toNat_natCast, size_all m (by omega), size_all O (by omega)]
    refine ⟨e1, by omega, fun h => ?_⟩
    have := g2 (by omega)
    omega
  · rw [h1 O hO] at ho; cases ho
theorem renCond3 {it ag : Int} {ps : List Pp} {y b : Int} (hv : validV it ag ps = true) (h8 : ps.length ≤ 8) (hy : 0 ≤ y ∧ y ≤ 20) (hb : 0 ≤ b ∧ b < 256) : enoP it ag ps y b (2 ^ ps.length - 1) = decide (renE it ag ps y b = 0) := by
  have hE1 := Nat.one_le_two_pow (n := ps.length)
  rcases ren_spec (lim := b) hv hy ⟨hb.1, by omega⟩ with ⟨e1, m, e2, h1, h2, h3⟩ | ⟨e1, e2, h1⟩
  · rw [e1, enoP_all hv hy h1 h2]; rfl
  · rw [e1, h1 _ (by omega)]; rfl
theorem sh_in8 {S : Int} {i : Nat} (h : 0 ≤ S ∧ S < 256) (hi : i ≤ 8) : (0 ≤ ((i : Nat) : Int) ∧ ((i : Nat) : Int).toNat ≤ IntKind.i64.bits) ∧ (0 ≤ S.fdiv (2 ^ ((i : Nat) : Int).toNat) ∧ 0 ≤ (1 : Int) ∧ InK .i64 (S.fdiv (2 ^ ((i : Nat) : Int).toNat)) ∧ InK .i64 1) := by
  have e : S.fdiv (2 ^ ((i : Nat) : Int).toNat) = S / ((2 ^ i : Nat) : Int) := by
    rw [Int.toNat_natCast, show (2 : Int) ^ i = ((2 ^ i : Nat) : Int) by push_cast; rfl, Int.fdiv_eq_ediv_of_nonneg _ (Int.natCast_nonneg _)]
  rw [e]
  have h1 : 0 ≤ S / ((2 ^ i : Nat) : Int) := Int.ediv_nonneg h.1 (Int.natCast_nonneg _)
  have h2 : S / ((2 ^ i : Nat) : Int) ≤ S := Int.ediv_le_self _ h.1
  exact ⟨⟨by omega, by rw [Int.toNat_natCast]; show i ≤ 64; omega⟩, h1, by decide, ⟨by omega, by omega⟩, ⟨by decide, by decide⟩⟩
theorem bit0 {m i : Nat} (h : decide (((((m : Int).fdiv (2 ^ ((i : Nat) : Int).toNat)).toNat &&& (1 : Int).toNat : Nat) : Int) = 0) = false) : m.testBit i = true := by
  have h1 := hasB_eq (S := (m : Int)) (Int.natCast_nonneg _) i
  rw [hasB_nat] at h1
  rw [← h1]
  have h := of_decide_eq_false h
  have h2 : (((m : Int).fdiv (2 ^ ((i : Nat) : Int).toNat)).toNat &&& (1 : Int).toNat) ≤ 1 := Nat.and_le_right
  refine decide_eq_true ?_
  omega
end Go.X.Ps
end
