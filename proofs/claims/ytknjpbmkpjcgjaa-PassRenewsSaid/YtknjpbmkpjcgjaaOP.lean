/- Renewed certificates, and whether they are enough. -/
import Derived.Test.YtknjpbmkpjcgjaaOO

section
set_option linter.unusedVariables false
set_option linter.unusedSimpArgs false
set_option linter.unusedSectionVars false
/- Regions of any order: one operation between the others, which may write over a slot; where new cells get the numbers that come. -/
set_option linter.unusedVariables false
set_option linter.unusedSimpArgs false
set_option maxRecDepth 10000
set_option maxHeartbeats 4000000
namespace Go.X
open Go

theorem findF_in : ∀ {L : List (Nat × FE)} {t : Nat} {e : FE}, findF L t = some e → (t, e) ∈ L
  | [], t, e, h => by cases h
  | (d, x) :: r, t, e, h => by
    simp only [findF] at h
    split at h
    · rename_i hd
      have : d = t := Nat.eq_of_beq_eq_true hd
      subst this
      cases h
      exact List.mem_cons_self
    · exact List.mem_cons_of_mem _ (findF_in h)
theorem findF_skip {B : List (Nat × FE)} {t : Nat} : ∀ {L : List (Nat × FE)}, (∀ q ∈ L, q.1 ≠ t) → findF (L ++ B) t = findF B t
  | [], _ => rfl
  | (d, x) :: r, h => by
    have hd : Nat.beq d t = false := by
      cases hb : Nat.beq d t with
      | false => rfl
      | true => exact absurd (Nat.eq_of_beq_eq_true hb) (h (d, x) List.mem_cons_self)
    show findF ((d, x) :: (r ++ B)) t = _
    simp only [findF, hd]
    exact findF_skip fun q hq => h q (List.mem_cons_of_mem _ hq)
theorem findF_left {B : List (Nat × FE)} {t : Nat} {e : FE} : ∀ {L : List (Nat × FE)}, findF L t = some e → findF (L ++ B) t = some e
  | [], h => by cases h
  | (d, x) :: r, h => by
    show findF ((d, x) :: (r ++ B)) t = _
    simp only [findF] at h ⊢
    split at h
    · rename_i hd
      simp only [hd]
      exact h
    · rename_i hd
      simp only [hd]
      exact findF_left h
theorem mod_find {X : Cx} {ρ : Env} {F F' : List (Nat × FE)} {gs : List Nat} {H : List (Nat × HB)} {nx : Nat} {D : List SDef} {a : Act} {w : World} (key : ∀ t e, findF F' t = some e → findF F t = some e ∧ e.gp = [])
    (hm : Mod X ρ ⟨F, gs, H, nx, D⟩ a w) : Mod X ρ ⟨F', [], H, nx, D⟩ a w :=
  { fm := fun t e h => hm.fm t e (key t e h).1
    gs := fun t e h x hx => by rw [(key t e h).2] at hx; cases hx
    df := hm.df
    hm := hm.hm
    kp := hm.kp
    nx := hm.nx
    sz := hm.sz }
theorem slF_congr {slots slots' : Nat → List (Nat × FE)} {base : List (Nat × FE)} {l : List Bool} (h : ∀ i, l.getD i false = true → slots i = slots' i) : slF slots base l = slF slots' base l := by
  have e : (fun i => if l.getD i false = true then slots i else []) = fun i => if l.getD i false = true then slots' i else [] := funext fun i => by
    split
    · rename_i hd; exact h i hd
    · rfl
  unfold slF
  rw [e]
theorem any_latE {D : List SDef} {X : Cx} {ops : Array Oper} {K : Ex → St → Prop} (hX : X.Ok) (m : Nat) (arr arr1 : List Bool → Array Bool) (opi : Nat → Nat) (ci : Nat) (slots : Nat → List (Nat × FE)) (base : List (Nat × FE)) (sx base1 : List Bool → List (Nat × FE)) (Hf : List Bool → List (Nat × HB)) (nxf : List Bool → Nat) (H1 : List Bool → List (Nat × HB)) (nx1 : List Bool → Nat) (anc : Nat → List Nat) (ancc : List Nat) (rest : Nat)
    (hanc : ∀ i, i < m → ∀ j ∈ anc i, j < m) (hancc : ∀ j ∈ ancc, j < m) (hchk : ∀ l ∈ allB m, latC ops m arr arr1 opi ci anc ancc l = true)
    (hA0 : subF (slF slots base (List.replicate m true)) (slF slots base (List.replicate m true))) (hsx : ∀ l, subF (sx l) (sx l))
    (hb1 : ∀ l, ∀ p ∈ base1 l, p ∈ sx l ∨ (p ∈ base ∧ ∀ q ∈ sx l, q.1 ≠ p.1)) (hsk : ∀ i, i < m → ∀ l, ∀ p ∈ slots i, ∀ q ∈ sx l, q.1 ≠ p.1)
    (hst : ∀ i, i < m → ∀ l : List Bool, l.length = m → l.getD i true = false → (∀ j ∈ anc i, l.getD j false = true) → clB2 anc l = true → ∃ o, ops[opi i]? = some o ∧ o.guard = none ∧ ∀ (tail : List (Nat × FE)) (Q : Exit → Act → World → Prop) (Kn : St → Prop), Cont X Q Kn (fun _ _ => False) → Kn ⟨slots i ++ ((anc i).flatMap slots ++ (base ++ tail)), [], Hf (l.set i true), nxf (l.set i true), D⟩ →
      execL X [o] Q Kn (fun _ _ => False) 0 [o] ⟨(anc i).flatMap slots ++ (base ++ tail), [], Hf l, nxf l, D⟩)
    (hcall : ∀ l : List Bool, l.length = m → (∀ j ∈ ancc, l.getD j false = true) → clB2 anc l = true → ∃ o, ops[ci]? = some o ∧ o.guard = none ∧ ∀ (tail : List (Nat × FE)) (Q : Exit → Act → World → Prop) (Kn : St → Prop), Cont X Q Kn (fun _ _ => False) → Kn ⟨sx l ++ (ancc.flatMap slots ++ (base ++ tail)), [], H1 l, nx1 l, D⟩ →
      execL X [o] Q Kn (fun _ _ => False) 0 [o] ⟨ancc.flatMap slots ++ (base ++ tail), [], Hf l, nxf l, D⟩)
    (hend : ∀ l : List Bool, l.length = m → clB2 anc l = true → AnyS X ops (l.count false + rest) (arr1 l) ⟨slF slots (base1 l) l, [], H1 l, nx1 l, D⟩ K) :
    ∀ l : List Bool, l.length = m → clB2 anc l = true → AnyS X ops (l.count false + (rest + 1)) (arr l) ⟨slF slots base l, [], Hf l, nxf l, D⟩ K := by
  have hA' := subF_all hA0
  have key : ∀ l : List Bool, l.length = m → (∀ p ∈ ancc.flatMap slots ++ (base ++ slF slots base l), p ∈ slF slots base l) → ∀ t e, findF (slF slots (base1 l) l) t = some e → findF (sx l ++ (ancc.flatMap slots ++ (base ++ slF slots base l))) t = some e ∧ e.gp = [] := by
    intro l hl hmem t e h
    have hp := findF_in h
    have old : (t, e) ∈ slF slots base l → (∀ q ∈ sx l, q.1 ≠ t) → findF (sx l ++ (ancc.flatMap slots ++ (base ++ slF slots base l))) t = some e ∧ e.gp = [] := by
      intro h1 h2
      rw [findF_skip h2]
      refine ⟨(findF_mem (A := slF slots base (List.replicate m true)) (L := ancc.flatMap slots ++ (base ++ slF slots base l)) fun p hp => (hA' p (slF_all hl (hmem p hp))).1).2 ?_, (hA' _ (slF_all hl h1)).2⟩
      exact List.mem_append_right _ (List.mem_append_right _ h1)
    rcases slF_mem.1 hp with ⟨i, hi, hd, h1⟩ | h1
    · exact old (slF_mem.2 (.inl ⟨i, hi, hd, h1⟩)) fun q hq => hsk i (hl ▸ hi) l _ h1 q hq
    · rcases hb1 l _ h1 with h2 | ⟨h2, h3⟩
      · obtain ⟨f1, f2⟩ := subF_all (hsx l) _ h2
        exact ⟨findF_left f1, f2⟩
      · exact old (slF_mem.2 (.inr h2)) h3
  have main : ∀ k, ∀ l : List Bool, l.length = m → clB2 anc l = true → l.count false = k → AnyS X ops (k + (rest + 1)) (arr l) ⟨slF slots base l, [], Hf l, nxf l, D⟩ K := by
    intro k
    induction k with
    | zero =>
      intro l hl hcl hk
      have hc := hchk l (hl ▸ mem_allB l)
      unfold latC at hc
      rw [hcl] at hc
      simp only [Bool.not_true, Bool.false_or, Bool.and_eq_true, Bool.or_eq_true, Bool.not_eq_true', List.all_eq_true, List.any_eq_true, beq_iff_eq] at hc
      obtain ⟨hne, hrs⟩ := hc
      refine ⟨fun ρ a w hmod => ?_⟩
      rw [show 0 + (rest + 1) = rest + 1 by omega]
      refine wpAnyIn_all (rs := Region.ready .any ops (arr l)) rfl (by intro h; rw [h] at hne; cases hne) fun oi hi => ?_
      rcases hrs oi hi with ⟨rfl, hia, hset⟩ | ⟨i, him, rfl, hif, _, _⟩
      · obtain ⟨o, ho, hg, hstep⟩ := hcall l hl hia hcl
        have hmem : ∀ p ∈ ancc.flatMap slots ++ (base ++ slF slots base l), p ∈ slF slots base l := by
          intro p hp
          rcases List.mem_append.1 hp with hp | hp
          · obtain ⟨j, hj, hp⟩ := List.mem_flatMap.1 hp
            exact slF_mem.2 (.inl ⟨j, hl ▸ hancc j hj, hia j hj, hp⟩)
          · rcases List.mem_append.1 hp with hp | hp
            · exact slF_mem.2 (.inr hp)
            · exact hp
        have hmod' := mod_sub (F' := ancc.flatMap slots ++ (base ++ slF slots base l)) hA' (fun p => slF_all hl) hmem (Nat.le_refl _) hmod
        refine stepsK_ok hX (l := [oi]) (K := K) (st := ⟨ancc.flatMap slots ++ (base ++ slF slots base l), [], Hf l, nxf l, D⟩) ⟨?_, trivial⟩ oi (List.mem_singleton.2 rfl) ρ a w hmod'
        have hnth : nth ops.toList oi = some o := by rw [nth_eq, Array.getElem?_toList]; exact ho
        rw [hnth]
        show (match o.guard with
          | none => _
          | some _ => False)
        rw [hg]
        refine hstep _ _ _ cont_any ?_
        rw [hset]
        refine ⟨fun ρ a w hm2 => ?_⟩
        have he := hend l hl hcl
        rw [hk, Nat.zero_add] at he
        refine he.h ρ a w (mod_find (F := sx l ++ (ancc.flatMap slots ++ (base ++ slF slots base l))) (key l hl hmem) hm2)
      · have him : i < m := List.mem_range.1 him
        have hil : i < l.length := by omega
        have hli2 : l[i] = false := by
          rw [List.getD, List.getElem?_eq_getElem hil] at hif
          simpa using hif
        have : false ∈ l := hli2 ▸ List.getElem_mem hil
        have := List.count_pos_iff.2 this
        omega
    | succ k ih =>
      intro l hl hcl hk
      have hc := hchk l (hl ▸ mem_allB l)
      unfold latC at hc
      rw [hcl] at hc
      simp only [Bool.not_true, Bool.false_or, Bool.and_eq_true, Bool.or_eq_true, Bool.not_eq_true', List.all_eq_true, List.any_eq_true, beq_iff_eq] at hc
      obtain ⟨hne, hrs⟩ := hc
      refine ⟨fun ρ a w hmod => ?_⟩
      rw [show k + 1 + (rest + 1) = (k + (rest + 1)) + 1 by omega]
      refine wpAnyIn_all (rs := Region.ready .any ops (arr l)) rfl (by intro h; rw [h] at hne; cases hne) fun oi hi => ?_
      rcases hrs oi hi with ⟨rfl, hia, hset⟩ | ⟨i, him, rfl, hif, hia, hset⟩
      · obtain ⟨o, ho, hg, hstep⟩ := hcall l hl hia hcl
        have hmem : ∀ p ∈ ancc.flatMap slots ++ (base ++ slF slots base l), p ∈ slF slots base l := by
          intro p hp
          rcases List.mem_append.1 hp with hp | hp
          · obtain ⟨j, hj, hp⟩ := List.mem_flatMap.1 hp
            exact slF_mem.2 (.inl ⟨j, hl ▸ hancc j hj, hia j hj, hp⟩)
          · rcases List.mem_append.1 hp with hp | hp
            · exact slF_mem.2 (.inr hp)
            · exact hp
        have hmod' := mod_sub (F' := ancc.flatMap slots ++ (base ++ slF slots base l)) hA' (fun p => slF_all hl) hmem (Nat.le_refl _) hmod
        refine stepsK_ok hX (l := [oi]) (K := K) (st := ⟨ancc.flatMap slots ++ (base ++ slF slots base l), [], Hf l, nxf l, D⟩) ⟨?_, trivial⟩ oi (List.mem_singleton.2 rfl) ρ a w hmod'
        have hnth : nth ops.toList oi = some o := by rw [nth_eq, Array.getElem?_toList]; exact ho
        rw [hnth]
        show (match o.guard with
          | none => _
          | some _ => False)
        rw [hg]
        refine hstep _ _ _ cont_any ?_
        rw [hset]
        refine ⟨fun ρ a w hm2 => ?_⟩
        have he := hend l hl hcl
        rw [hk, show k + 1 + rest = k + (rest + 1) by omega] at he
        refine he.h ρ a w (mod_find (F := sx l ++ (ancc.flatMap slots ++ (base ++ slF slots base l))) (key l hl hmem) hm2)
      · have him : i < m := List.mem_range.1 him
        have hil : i < l.length := by omega
        obtain ⟨o, ho, hg, hstep⟩ := hst i him l hl hif hia hcl
        have hlen : (l.set i true).length = m := by rw [List.length_set, hl]
        have hget : ∀ j, (l.set i true).getD j false = true ↔ j = i ∨ l.getD j false = true := by
          intro j
          simp only [List.getD, List.getElem?_set]
          by_cases e : i = j
          · subst e; simp [hil]
          · simp [e, Ne.symm e]
        have hcl' : clB2 anc (l.set i true) = true := by
          unfold clB2 at hcl ⊢
          rw [List.all_eq_true] at hcl ⊢
          intro j hj
          rw [List.length_set] at hj
          have h0 := hcl j hj
          cases hd : (l.set i true).getD j false with
          | false => rfl
          | true =>
            rw [Bool.not_true, Bool.false_or, List.all_eq_true]
            intro q hq
            refine (hget q).2 ?_
            rcases (hget j).1 hd with rfl | hd
            · exact .inr (hia q hq)
            · rw [hd] at h0
              rw [Bool.not_true, Bool.false_or, List.all_eq_true] at h0
              exact .inr (h0 q hq)
        have hcount : (l.set i true).count false = k := by
          have hli2 : l[i] = false := by
            rw [List.getD, List.getElem?_eq_getElem hil] at hif
            simpa using hif
          have := List.count_set (a := true) (b := false) (l := l) (i := i) hil
          rw [hli2] at this
          simp at this
          omega
        have ihh := ih (l.set i true) hlen hcl' hcount
        have hmem : ∀ p ∈ (anc i).flatMap slots ++ (base ++ slF slots base l), p ∈ slF slots base l := by
          intro p hp
          rcases List.mem_append.1 hp with hp | hp
          · obtain ⟨j, hj, hp⟩ := List.mem_flatMap.1 hp
            exact slF_mem.2 (.inl ⟨j, hl ▸ hanc i him j hj, hia j hj, hp⟩)
          · rcases List.mem_append.1 hp with hp | hp
            · exact slF_mem.2 (.inr hp)
            · exact hp
        have hmod' := mod_sub (F' := (anc i).flatMap slots ++ (base ++ slF slots base l)) hA' (fun p => slF_all hl) hmem (Nat.le_refl _) hmod
        refine stepsK_ok hX (l := [opi i]) (K := K) (st := ⟨(anc i).flatMap slots ++ (base ++ slF slots base l), [], Hf l, nxf l, D⟩) ⟨?_, trivial⟩ (opi i) (List.mem_singleton.2 rfl) ρ a w hmod'
        have hnth : nth ops.toList (opi i) = some o := by rw [nth_eq, Array.getElem?_toList]; exact ho
        rw [hnth]
        show (match o.guard with
          | none => _
          | some _ => False)
        rw [hg]
        refine hstep _ _ _ cont_any ?_
        rw [hset]
        refine ⟨fun ρ a w hm2 => ?_⟩
        refine ihh.h ρ a w (mod_sub (F := slots i ++ ((anc i).flatMap slots ++ (base ++ slF slots base l))) (nx := nxf (l.set i true)) hA' ?_ ?_ (Nat.le_refl _) hm2)
        · intro p hp
          rcases List.mem_append.1 hp with hp | hp
          · refine slF_mem.2 (.inl ⟨i, by simpa using him, ?_, hp⟩)
            simp [List.getD, him]
          · exact slF_all hl (hmem p hp)
        · intro p hp
          rcases slF_mem.1 hp with ⟨j, hj, hd, hp2⟩ | hp2
          · rw [List.length_set] at hj
            rcases (hget j).1 hd with e | hd
            · exact List.mem_append_left _ (e ▸ hp2)
            · exact List.mem_append_right _ (List.mem_append_right _ (List.mem_append_right _ (slF_mem.2 (.inl ⟨j, hj, hd, hp2⟩))))
          · exact List.mem_append_right _ (List.mem_append_right _ (List.mem_append_left _ hp2))
  exact fun l hl hcl => main _ l hl hcl rfl
theorem any_latV {D : List SDef} {X : Cx} {ops : Array Oper} {K : Ex → St → Prop} (hX : X.Ok) (m : Nat) (arr : List Bool → Array Bool) (opi : Nat → Nat) (ex : List Bool → Bool) (slots : Nat → List (Nat × FE)) (base : List (Nat × FE)) (Hf : List Bool → List (Nat × HB)) (nxf : List Bool → Nat) (anc : Nat → List Nat) (rest : Nat) (PP : List Bool → Prop) (hPP : ∀ l i, PP l → PP (l.set i true))
    (hanc : ∀ i, i < m → ∀ j ∈ anc i, j < m) (hchk : ∀ l ∈ allB m, PP l → latX ops m arr opi ex anc l = true) (hA : subF (slF slots base (List.replicate m true)) (slF slots base (List.replicate m true)))
    (hst : ∀ i, i < m → ∀ l : List Bool, l.length = m → PP l → l.getD i true = false → (∀ j ∈ anc i, l.getD j false = true) → clB2 anc l = true → ∃ o, ops[opi i]? = some o ∧ o.guard = none ∧ ∀ (tail : List (Nat × FE)) (Q : Exit → Act → World → Prop) (Kn : St → Prop), Cont X Q Kn (fun _ _ => False) → Kn ⟨slots i ++ ((anc i).flatMap slots ++ (base ++ tail)), [], Hf (l.set i true), nxf (l.set i true), D⟩ →
      execL X [o] Q Kn (fun _ _ => False) 0 [o] ⟨(anc i).flatMap slots ++ (base ++ tail), [], Hf l, nxf l, D⟩)
    (hend : ∀ l : List Bool, l.length = m → ex l = true → AnyS X ops (l.count false + rest) (arr l) ⟨slF slots base l, [], Hf l, nxf l, D⟩ K) :
    ∀ l : List Bool, l.length = m → clB2 anc l = true → PP l → AnyS X ops (l.count false + rest) (arr l) ⟨slF slots base l, [], Hf l, nxf l, D⟩ K := by
  have hA' : ∀ p ∈ slF slots base (List.replicate m true), findF (slF slots base (List.replicate m true)) p.1 = some p.2 ∧ p.2.gp = [] := by
    generalize slF slots base (List.replicate m true) = A at hA
    have : ∀ L : List (Nat × FE), subF A L → ∀ p ∈ L, findF A p.1 = some p.2 ∧ p.2.gp = [] := by
      intro L
      induction L with
      | nil => intro _ p hp; cases hp
      | cons q r ih =>
        intro h p hp
        obtain ⟨d, e⟩ := q
        rcases List.mem_cons.1 hp with rfl | hp
        · exact h.1
        · exact ih h.2 p hp
    exact this A hA
  have hall : ∀ l : List Bool, l.length = m → ∀ p ∈ slF slots base l, p ∈ slF slots base (List.replicate m true) := by
    intro l hl p hp
    rcases slF_mem.1 hp with ⟨i, hi, _, h⟩ | h
    · refine slF_mem.2 (.inl ⟨i, by simpa [hl] using hi, ?_, h⟩)
      have : i < m := hl ▸ hi
      simp [List.getD, this]
    · exact slF_mem.2 (.inr h)
  have main : ∀ k, ∀ l : List Bool, l.length = m → clB2 anc l = true → PP l → l.count false = k → AnyS X ops (k + rest) (arr l) ⟨slF slots base l, [], Hf l, nxf l, D⟩ K := by
    intro k
    induction k with
    | zero =>
      intro l hl hcl hpl hk
      have hc := hchk l (hl ▸ mem_allB l) hpl
      cases he : ex l with
      | true => have := hend l hl he; rw [hk] at this; exact this
      | false =>
        unfold latX at hc
        rw [hcl, he] at hc
        simp only [Bool.not_true, Bool.false_or, Bool.and_eq_true, Bool.not_eq_true', List.all_eq_true, List.any_eq_true, beq_iff_eq] at hc
        obtain ⟨hne, hrs⟩ := hc
        cases hr : Region.ready .any ops (arr l) with
        | nil => rw [hr] at hne; cases hne
        | cons o r =>
          obtain ⟨i, him, -, hif, -⟩ := hrs o (by rw [hr]; exact List.mem_cons_self)
          have him : i < m := List.mem_range.1 him
          have hil : i < l.length := by omega
          have hli2 : l[i] = false := by
            rw [List.getD, List.getElem?_eq_getElem hil] at hif
            simpa using hif
          have : false ∈ l := hli2 ▸ List.getElem_mem hil
          have := List.count_pos_iff.2 this
          omega
    | succ k ih =>
      intro l hl hcl hpl hk
      have hc := hchk l (hl ▸ mem_allB l) hpl
      cases he : ex l with
      | true => have := hend l hl he; rw [hk] at this; exact this
      | false =>
      unfold latX at hc
      rw [hcl, he] at hc
      simp only [Bool.not_true, Bool.false_or, Bool.and_eq_true, Bool.not_eq_true', List.all_eq_true, List.any_eq_true, beq_iff_eq] at hc
      obtain ⟨hne, hrs⟩ := hc
      refine ⟨fun ρ a w hmod => ?_⟩
      rw [show k + 1 + rest = (k + rest) + 1 by omega]
      refine wpAnyIn_all (rs := Region.ready .any ops (arr l)) rfl (by intro h; rw [h] at hne; cases hne) fun oi hi => ?_
      obtain ⟨i, him, rfl, hif, hia, hset⟩ := hrs oi hi
      have him : i < m := List.mem_range.1 him
      have hil : i < l.length := by omega
      obtain ⟨o, ho, hg, hstep⟩ := hst i him l hl hpl hif hia hcl
      rw [hset]
      have hlen : (l.set i true).length = m := by rw [List.length_set, hl]
      have hget : ∀ j, (l.set i true).getD j false = true ↔ j = i ∨ l.getD j false = true := by
        intro j
        simp only [List.getD, List.getElem?_set]
        by_cases e : i = j
        · subst e; simp [hil]
        · simp [e, Ne.symm e]
      have hcl' : clB2 anc (l.set i true) = true := by
        unfold clB2 at hcl ⊢
        rw [List.all_eq_true] at hcl ⊢
        intro j hj
        rw [List.length_set] at hj
        have h0 := hcl j hj
        cases hd : (l.set i true).getD j false with
        | false => rfl
        | true =>
          rw [Bool.not_true, Bool.false_or, List.all_eq_true]
          intro q hq
          refine (hget q).2 ?_
          rcases (hget j).1 hd with rfl | hd
          · exact .inr (hia q hq)
          · rw [hd] at h0
            rw [Bool.not_true, Bool.false_or, List.all_eq_true] at h0
            exact .inr (h0 q hq)
      have hcount : (l.set i true).count false = k := by
        have hli : l[i]? = some false := by
          have : l.getD i true = false := hif
          rw [List.getD, List.getElem?_eq_getElem hil] at this
          rw [List.getElem?_eq_getElem hil]
          simpa using this
        have hli2 : l[i] = false := by rw [List.getElem?_eq_getElem hil] at hli; simpa using hli
        have := List.count_set (a := true) (b := false) (l := l) (i := i) hil
        rw [hli2] at this
        simp at this
        omega
      have ihh := ih (l.set i true) hlen hcl' (hPP l i hpl) hcount
      have hmem : ∀ p ∈ (anc i).flatMap slots ++ (base ++ slF slots base l), p ∈ slF slots base l := by
        intro p hp
        rcases List.mem_append.1 hp with hp | hp
        · obtain ⟨j, hj, hp⟩ := List.mem_flatMap.1 hp
          exact slF_mem.2 (.inl ⟨j, hl ▸ hanc i him j hj, hia j hj, hp⟩)
        · rcases List.mem_append.1 hp with hp | hp
          · exact slF_mem.2 (.inr hp)
          · exact hp
      have hmod' := mod_sub (F' := (anc i).flatMap slots ++ (base ++ slF slots base l)) hA' (hall l hl) hmem (Nat.le_refl _) hmod
      refine stepsK_ok hX (l := [opi i]) (K := K) (st := ⟨(anc i).flatMap slots ++ (base ++ slF slots base l), [], Hf l, nxf l, D⟩) ⟨?_, trivial⟩ (opi i) (List.mem_singleton.2 rfl) ρ a w hmod' |> fun h => by rw [hset] at h; exact h
      have hnth : nth ops.toList (opi i) = some o := by rw [nth_eq, Array.getElem?_toList]; exact ho
      rw [hnth]
      show (match o.guard with
        | none => _
        | some _ => False)
      rw [hg]
      refine hstep _ _ _ cont_any ?_
      rw [hset]
      refine ⟨fun ρ a w hm2 => ?_⟩
      refine ihh.h ρ a w (mod_sub (F := slots i ++ ((anc i).flatMap slots ++ (base ++ slF slots base l))) (nx := nxf (l.set i true)) hA' ?_ ?_ (Nat.le_refl _) hm2)
      · intro p hp
        rcases List.mem_append.1 hp with hp | hp
        · refine slF_mem.2 (.inl ⟨i, by simpa using him, ?_, hp⟩)
          simp [List.getD, him]
        · exact hall l hl p (hmem p hp)
      · intro p hp
        rcases slF_mem.1 hp with ⟨j, hj, hd, hp2⟩ | hp2
        · rw [List.length_set] at hj
          rcases (hget j).1 hd with e | hd
          · exact List.mem_append_left _ (e ▸ hp2)
          · exact List.mem_append_right _ (List.mem_append_right _ (List.mem_append_right _ (slF_mem.2 (.inl ⟨j, hj, hd, hp2⟩))))
        · exact List.mem_append_right _ (List.mem_append_right _ (List.mem_append_left _ hp2))
  exact fun l hl hcl hpl => main _ l hl hcl hpl rfl
theorem any_latU {D : List SDef} {X : Cx} {ops : Array Oper} {K : Ex → St → Prop} (hX : X.Ok) (m : Nat) (arr : List Bool → Array Bool) (opi : Nat → Nat) (ex : List Bool → Bool) (slots : Nat → List (Nat × FE)) (base : List (Nat × FE)) (Hf : List Bool → List (Nat × HB)) (nxf : List Bool → Nat) (anc : Nat → List Nat) (rest : Nat) (PP : List Bool → Prop) (hPP : ∀ l i, PP l → PP (l.set i true))
    (hanc : ∀ i, i < m → ∀ j ∈ anc i, j < m) (hchk : ∀ l ∈ allB m, latX ops m arr opi ex anc l = true) (hA : subF (slF slots base (List.replicate m true)) (slF slots base (List.replicate m true)))
    (hst : ∀ i, i < m → ∀ l : List Bool, l.length = m → PP l → l.getD i true = false → (∀ j ∈ anc i, l.getD j false = true) → clB2 anc l = true → ∃ o, ops[opi i]? = some o ∧ o.guard = none ∧ ∀ (tail : List (Nat × FE)) (Q : Exit → Act → World → Prop) (Kn : St → Prop), Cont X Q Kn (fun _ _ => False) → Kn ⟨slots i ++ ((anc i).flatMap slots ++ (base ++ tail)), [], Hf (l.set i true), nxf (l.set i true), D⟩ →
      execL X [o] Q Kn (fun _ _ => False) 0 [o] ⟨(anc i).flatMap slots ++ (base ++ tail), [], Hf l, nxf l, D⟩)
    (hend : ∀ l : List Bool, l.length = m → ex l = true → AnyS X ops (l.count false + rest) (arr l) ⟨slF slots base l, [], Hf l, nxf l, D⟩ K) :
    ∀ l : List Bool, l.length = m → clB2 anc l = true → PP l → AnyS X ops (l.count false + rest) (arr l) ⟨slF slots base l, [], Hf l, nxf l, D⟩ K :=
  any_latV hX m arr opi ex slots base Hf nxf anc rest PP hPP hanc (fun l hl _ => hchk l hl) hA hst hend
end Go.X
end

section
set_option linter.unusedVariables false
set_option linter.unusedSimpArgs false
set_option linter.unusedSectionVars false
/- Pass: the document's renewed certificates: how the first ones are copied. -/
set_option linter.unusedVariables false
set_option linter.unusedSimpArgs false
set_option maxRecDepth 10000
set_option maxHeartbeats 4000000
namespace Go.X.Ps
open Go Go.Proofs Go.X

noncomputable def opn1 : Array Oper := regO 1 (code Try.f37)
noncomputable abbrev X37 (C : Nat → Option Ct) (G : Base) : Cx := ⟨P, T, C, G, none, Try.f37.ntmps⟩
def arn (z9 : Bool) (l : List Bool) : Array Bool := ((List.range 11).map fun j => if j < 9 then l.getD j false else if j = 9 then z9 else false).toArray
def ancn : Nat → List Nat
  | 1 => [0]
  | 3 => [2]
  | 6 => [5]
  | 7 => [4, 6]
  | 8 => [1, 3, 7]
  | _ => []
def exn (l : List Bool) : Bool := (List.range 9).all fun j => l.getD j false
theorem ancn_lt : ∀ i, ∀ j ∈ ancn i, j < i := by
  intro i j hj
  unfold ancn at hj
  split at hj <;> simp at hj <;> omega
theorem latn : (clL ancn 9).all (latC opn1 9 (arn false) (arn true) (fun i => i) 9 ancn []) = true := by kernel_rfl
theorem latn2 : (clL ancn 9).all (latX opn1 9 (arn true) (fun i => i) exn ancn) = true := by kernel_rfl
def b37 (S y : Int) : List (Nat × FE) := [(1, ⟨[], .si .i64 S⟩), (2, ⟨[], .si .i64 y⟩), (3, ⟨[], .sp 1 0⟩), (6, ⟨[], .sp 2 0⟩)]
def slon (it ag : Int) (a b : Nat) : Nat → List (Nat × FE)
  | 0 => [(10, ⟨[], .sp 1 0⟩)]
  | 1 => [(11, ⟨[], .si .i64 it⟩)]
  | 2 => [(12, ⟨[], .sp 1 1⟩)]
  | 3 => [(13, ⟨[], .si .i64 ag⟩)]
  | 4 => [(14, ⟨[], .sl a⟩)]
  | 5 => [(15, ⟨[], .sp 1 2⟩)]
  | 6 => [(16, ⟨[], .sl 0⟩)]
  | 7 => [(17, ⟨[], .sl b⟩)]
  | 8 => [(18, ⟨[], .agg [.si .i64 it, .si .i64 ag, .sl b]⟩)]
  | _ => []
def z37 : List SV := [.si .i64 0, .si .i64 0, .sv (.slice none 0 0)]
def H37 (it ag : Int) (n : Nat) (r : Nat → Pp) : List (Nat × HB) := [(2, .cells 24 z37), (1, .cells 24 (paA 0 it ag)), (0, .ro 5 n fun i => ppC (r i))]
def ap37 (a b n : Nat) (r : Nat → Pp) (H : List (Nat × HB)) : List (Nat × HB) := (b, .vec 49 5 n fun i => ppC (r i)) :: (a, .dead) :: (a, .vec 49 5 0 fun i => ppC (r i)) :: H
def Hn0 (it ag : Int) (n : Nat) (r : Nat → Pp) (l : List Bool) : List (Nat × HB) := if l.getD 7 false = true then ap37 3 4 n r ((3, .row 49 5 0 []) :: H37 it ag n r) else if l.getD 4 false = true then (3, .row 49 5 0 []) :: H37 it ag n r else H37 it ag n r
def nn0 (l : List Bool) : Nat := if l.getD 7 false = true then 5 else if l.getD 4 false = true then 4 else 3
/-- Behind the cell nothing else has come yet; the first slice has; or both have. -/
def Hn1 (it ag : Int) (n : Nat) (r : Nat → Pp) (l : List Bool) : List (Nat × HB) := if l.getD 7 false = true then ap37 4 5 n r ((4, .row 49 5 0 []) :: (3, .cells 24 z37) :: H37 it ag n r) else if l.getD 4 false = true then (4, .row 49 5 0 []) :: (3, .cells 24 z37) :: H37 it ag n r else (3, .cells 24 z37) :: H37 it ag n r
def nn1 (l : List Bool) : Nat := if l.getD 7 false = true then 6 else if l.getD 4 false = true then 5 else 4
def Hn2 (it ag : Int) (n : Nat) (r : Nat → Pp) (l : List Bool) : List (Nat × HB) := if l.getD 7 false = true then ap37 3 5 n r ((4, .cells 24 z37) :: (3, .row 49 5 0 []) :: H37 it ag n r) else (4, .cells 24 z37) :: (3, .row 49 5 0 []) :: H37 it ag n r
def nn2 (l : List Bool) : Nat := if l.getD 7 false = true then 6 else 5
def Hn3 (it ag : Int) (n : Nat) (r : Nat → Pp) : List (Nat × HB) := (5, .cells 24 z37) :: ap37 3 4 n r ((3, .row 49 5 0 []) :: H37 it ag n r)
def Hn4 (it ag : Int) (n : Nat) (r : Nat → Pp) (l : List Bool) : List (Nat × HB) := Hn3 it ag n r
def nn3 (l : List Bool) : Nat := 6
theorem no7 {l : List Bool} (hl : l.length = 9) (hcl : clB2 ancn l = true) (h4 : l.getD 4 false = false) : l.getD 7 false = false := by
  cases h7 : l.getD 7 false with
  | false => rfl
  | true =>
    have h := List.all_eq_true.1 hcl 7 (List.mem_range.2 (by omega))
    rw [h7] at h
    have h : (l.getD 4 false && (l.getD 6 false && true)) = true := h
    rw [h4] at h
    cases h
def stn (it ag S y : Int) (n : Nat) (r : Nat → Pp) : St := ⟨(7, ⟨[], .sp 3 0⟩) :: b37 S y, [], (4, .vec 49 5 n fun i => ppC (r i)) :: (3, .cells 24 [.si .i64 it, .si .i64 ag, .sl 4]) :: H37 it ag n r, 5, []⟩
section
variable {C : Nat → Option Ct} {G : Base} {it ag S y : Int} {n : Nat} {r : Nat → Pp} {K : Ex → St → Prop}
theorem ph1 (hX : (X37 C G).Ok) (hG : ∀ j, 1 ≤ j → G.ρ j = none) (hn : n ≤ 1000) (hK : K .normal (stn it ag S y n r)) : ∀ l : List Bool, l.length = 9 → clB2 ancn l = true → True → AnyS (X37 C G) opn1 (l.count false + 1) (arn true l) ⟨slF (slon it ag 4 5) ((7, ⟨[], .sp 3 0⟩) :: b37 S y) l, [], Hn1 it ag n r l, nn1 l, []⟩ K := by
  refine any_latU (D := []) hX 9 (arn true) (fun i => i) exn (slon it ag 4 5) ((7, ⟨[], .sp 3 0⟩) :: b37 S y) (Hn1 it ag n r) nn1 ancn 1 (fun l => True) (fun _ _ _ => trivial) (fun i hi j hj => by have := ancn_lt i j hj; omega) (latX_of ancn_lt latn2) ?_ ?_ ?_
  · repeat' (first | exact trivial | exact ⟨rfl, rfl⟩ | refine And.intro ?_ ?_)
  · intro j hj l hl hpl hf ha hcl
    rcases (show j = 4 ∨ j = 7 ∨ j = 0 ∨ j = 1 ∨ j = 2 ∨ j = 3 ∨ j = 5 ∨ j = 6 ∨ j = 8 by omega) with rfl | rfl | rfl | rfl | rfl | rfl | rfl | rfl | rfl
    · have h4 := getF (show 4 < l.length by omega) hf
      have h7 := no7 hl hcl h4
      refine ⟨_, rfl, rfl, fun tail Q Kn hC hK => ?_⟩
      simp only [Hn1, nn1, getN (l := l) (show 4 ≠ 7 by decide), getS (l := l) (i := 4) (by omega), h4, h7, if_true, if_false, Bool.false_eq_true] at hK ⊢
      exact hK
    · have h7 := getF (show 7 < l.length by omega) hf
      have h4 : l.getD 4 false = true := ha 4 (by decide)
      refine ⟨_, rfl, rfl, fun tail Q Kn hC hK => ?_⟩
      simp only [Hn1, nn1, getN (l := l) (show 7 ≠ 4 by decide), getS (l := l) (i := 7) (by omega), h4, h7, if_true, if_false, Bool.false_eq_true] at hK ⊢
      exact fb_append0 4 0 n (fun i => ppC (r i)) hX hC rfl rfl rfl rfl rfl rfl rfl rfl rfl rfl rfl rfl (by decide) (by decide) rfl rfl rfl rfl (by decide) (by omega) hK
    all_goals
      refine ⟨_, rfl, rfl, fun tail Q Kn hC hK => ?_⟩
      simp only [Hn1, nn1, getN (l := l) (show 0 ≠ 7 by decide), getN (l := l) (show 1 ≠ 7 by decide), getN (l := l) (show 2 ≠ 7 by decide), getN (l := l) (show 3 ≠ 7 by decide), getN (l := l) (show 4 ≠ 7 by decide), getN (l := l) (show 5 ≠ 7 by decide), getN (l := l) (show 6 ≠ 7 by decide), getN (l := l) (show 8 ≠ 7 by decide), getN (l := l) (show 0 ≠ 4 by decide), getN (l := l) (show 1 ≠ 4 by decide), getN (l := l) (show 2 ≠ 4 by decide), getN (l := l) (show 3 ≠ 4 by decide), getN (l := l) (show 5 ≠ 4 by decide), getN (l := l) (show 6 ≠ 4 by decide), getN (l := l) (show 7 ≠ 4 by decide), getN (l := l) (show 8 ≠ 4 by decide)] at hK ⊢
      cases h7 : l.getD 7 false <;> cases h4 : l.getD 4 false <;> simp only [h7, h4, if_true, if_false, Bool.false_eq_true] at hK ⊢ <;> first | exact hK | exact fb_again hX hC rfl hK
  · intro l hl he
    match l, hl, he with
    | [a0, a1, a2, a3, a4, a5, a6, a7, a8], _, he =>
      have he : (a0 && (a1 && (a2 && (a3 && (a4 && (a5 && (a6 && (a7 && (a8 && true))))))))) = true := he
      simp only [Bool.and_eq_true] at he
      obtain ⟨rfl, rfl, rfl, rfl, rfl, rfl, rfl, rfl, rfl, -⟩ := he
      refine any_step [10] hX (by kernel_rfl) (by decide) ⟨?_, trivial⟩
      refine any_weaken 1 (fun j => match j with | 3 => 3 | 4 => 5 | j => j) hG ?_ (any_done (by kernel_rfl) hK)
      refine ⟨?_, ?_, rfl, rfl, rfl, rfl, trivial⟩
      · repeat' (first | exact trivial | exact rfl | refine And.intro ?_ ?_)
      · repeat' (first | exact trivial | exact rfl | exact List.Perm.refl _ | (intro i hi; exact ⟨rfl, rfl⟩) | refine And.intro ?_ ?_)
theorem ph2 (hX : (X37 C G).Ok) (hG : ∀ j, 1 ≤ j → G.ρ j = none) (hn : n ≤ 1000) (hK : K .normal (stn it ag S y n r)) : ∀ l : List Bool, l.length = 9 → clB2 ancn l = true → l.getD 4 false = true → AnyS (X37 C G) opn1 (l.count false + 1) (arn true l) ⟨slF (slon it ag 3 5) ((7, ⟨[], .sp 4 0⟩) :: b37 S y) l, [], Hn2 it ag n r l, nn2 l, []⟩ K := by
  refine any_latU (D := []) hX 9 (arn true) (fun i => i) exn (slon it ag 3 5) ((7, ⟨[], .sp 4 0⟩) :: b37 S y) (Hn2 it ag n r) nn2 ancn 1 (fun l => l.getD 4 false = true) (fun l i h => by
    by_cases e : i = 4
    · subst e
      by_cases hl : 4 < l.length
      · exact getS hl
      · rw [List.getD, List.getElem?_eq_none (by omega)] at h; cases h
    · rw [getN e]; exact h) (fun i hi j hj => by have := ancn_lt i j hj; omega) (latX_of ancn_lt latn2) ?_ ?_ ?_
  · repeat' (first | exact trivial | exact ⟨rfl, rfl⟩ | refine And.intro ?_ ?_)
  · intro j hj l hl hpl hf ha hcl
    rcases (show j = 4 ∨ j = 7 ∨ j = 0 ∨ j = 1 ∨ j = 2 ∨ j = 3 ∨ j = 5 ∨ j = 6 ∨ j = 8 by omega) with rfl | rfl | rfl | rfl | rfl | rfl | rfl | rfl | rfl
    · have h4 := getF (show 4 < l.length by omega) hf
      have := h4.symm.trans hpl; cases this
    · have h7 := getF (show 7 < l.length by omega) hf
      have h4 : l.getD 4 false = true := ha 4 (by decide)
      refine ⟨_, rfl, rfl, fun tail Q Kn hC hK => ?_⟩
      simp only [Hn2, nn2, getN (l := l) (show 7 ≠ 4 by decide), getS (l := l) (i := 7) (by omega), h4, h7, if_true, if_false, Bool.false_eq_true] at hK ⊢
      exact fb_append0 3 0 n (fun i => ppC (r i)) hX hC rfl rfl rfl rfl rfl rfl rfl rfl rfl rfl rfl rfl (by decide) (by decide) rfl rfl rfl rfl (by decide) (by omega) hK
    all_goals
      refine ⟨_, rfl, rfl, fun tail Q Kn hC hK => ?_⟩
      simp only [Hn2, nn2, getN (l := l) (show 0 ≠ 7 by decide), getN (l := l) (show 1 ≠ 7 by decide), getN (l := l) (show 2 ≠ 7 by decide), getN (l := l) (show 3 ≠ 7 by decide), getN (l := l) (show 4 ≠ 7 by decide), getN (l := l) (show 5 ≠ 7 by decide), getN (l := l) (show 6 ≠ 7 by decide), getN (l := l) (show 8 ≠ 7 by decide), getN (l := l) (show 0 ≠ 4 by decide), getN (l := l) (show 1 ≠ 4 by decide), getN (l := l) (show 2 ≠ 4 by decide), getN (l := l) (show 3 ≠ 4 by decide), getN (l := l) (show 5 ≠ 4 by decide), getN (l := l) (show 6 ≠ 4 by decide), getN (l := l) (show 7 ≠ 4 by decide), getN (l := l) (show 8 ≠ 4 by decide)] at hK ⊢
      cases h7 : l.getD 7 false <;> cases h4 : l.getD 4 false <;> simp only [h7, h4, if_true, if_false, Bool.false_eq_true] at hK ⊢ <;> first | exact hK | exact fb_again hX hC rfl hK
  · intro l hl he
    match l, hl, he with
    | [a0, a1, a2, a3, a4, a5, a6, a7, a8], _, he =>
      have he : (a0 && (a1 && (a2 && (a3 && (a4 && (a5 && (a6 && (a7 && (a8 && true))))))))) = true := he
      simp only [Bool.and_eq_true] at he
      obtain ⟨rfl, rfl, rfl, rfl, rfl, rfl, rfl, rfl, rfl, -⟩ := he
      refine any_step [10] hX (by kernel_rfl) (by decide) ⟨?_, trivial⟩
      refine any_weaken 1 (fun j => match j with | 3 => 4 | 4 => 5 | j => j) hG ?_ (any_done (by kernel_rfl) hK)
      refine ⟨?_, ?_, rfl, rfl, rfl, rfl, trivial⟩
      · repeat' (first | exact trivial | exact rfl | refine And.intro ?_ ?_)
      · repeat' (first | exact trivial | exact rfl | exact List.Perm.refl _ | (intro i hi; exact ⟨rfl, rfl⟩) | refine And.intro ?_ ?_)
theorem ph3 (hX : (X37 C G).Ok) (hG : ∀ j, 1 ≤ j → G.ρ j = none) (hn : n ≤ 1000) (hK : K .normal (stn it ag S y n r)) : ∀ l : List Bool, l.length = 9 → clB2 ancn l = true → l.getD 7 false = true → AnyS (X37 C G) opn1 (l.count false + 1) (arn true l) ⟨slF (slon it ag 3 4) ((7, ⟨[], .sp 5 0⟩) :: b37 S y) l, [], Hn4 it ag n r l, nn3 l, []⟩ K := by
  refine any_latU (D := []) hX 9 (arn true) (fun i => i) exn (slon it ag 3 4) ((7, ⟨[], .sp 5 0⟩) :: b37 S y) (Hn4 it ag n r) nn3 ancn 1 (fun l => l.getD 7 false = true) (fun l i h => by
    by_cases e : i = 7
    · subst e
      by_cases hl : 7 < l.length
      · exact getS hl
      · rw [List.getD, List.getElem?_eq_none (by omega)] at h; cases h
    · rw [getN e]; exact h) (fun i hi j hj => by have := ancn_lt i j hj; omega) (latX_of ancn_lt latn2) ?_ ?_ ?_
  · repeat' (first | exact trivial | exact ⟨rfl, rfl⟩ | refine And.intro ?_ ?_)
  · intro j hj l hl hpl hf ha hcl
    rcases (show j = 4 ∨ j = 7 ∨ j = 0 ∨ j = 1 ∨ j = 2 ∨ j = 3 ∨ j = 5 ∨ j = 6 ∨ j = 8 by omega) with rfl | rfl | rfl | rfl | rfl | rfl | rfl | rfl | rfl
    · have h4 := getF (show 4 < l.length by omega) hf
      rw [no7 hl hcl h4] at hpl; cases hpl
    · have h7 := getF (show 7 < l.length by omega) hf
      have := h7.symm.trans hpl; cases this
    all_goals
      refine ⟨_, rfl, rfl, fun tail Q Kn hC hK => ?_⟩
      first | exact hK | exact fb_again hX hC rfl hK
  · intro l hl he
    match l, hl, he with
    | [a0, a1, a2, a3, a4, a5, a6, a7, a8], _, he =>
      have he : (a0 && (a1 && (a2 && (a3 && (a4 && (a5 && (a6 && (a7 && (a8 && true))))))))) = true := he
      simp only [Bool.and_eq_true] at he
      obtain ⟨rfl, rfl, rfl, rfl, rfl, rfl, rfl, rfl, rfl, -⟩ := he
      refine any_step [10] hX (by kernel_rfl) (by decide) ⟨?_, trivial⟩
      refine any_weaken 1 (fun j => match j with | 3 => 5 | 4 => 4 | j => j) hG ?_ (any_done (by kernel_rfl) hK)
      refine ⟨?_, ?_, rfl, rfl, rfl, rfl, trivial⟩
      · repeat' (first | exact trivial | exact rfl | refine And.intro ?_ ?_)
      · repeat' (first | exact trivial | exact rfl | exact List.Perm.refl _ | (intro i hi; exact ⟨rfl, rfl⟩) | refine And.intro ?_ ?_)
theorem regn (hX : (X37 C G).Ok) (hG : ∀ j, 1 ≤ j → G.ρ j = none) (hn : n ≤ 1000) (hK : K .normal (stn it ag S y n r)) : AnyS (X37 C G) opn1 11 (Array.replicate 11 false) ⟨b37 S y, [], H37 it ag n r, 3, []⟩ K := by
  refine any_latE (D := []) hX 9 (arn false) (arn true) (fun i => i) 9 (slon it ag 3 4) (b37 S y) (fun l => [(7, ⟨[], .sp (nn0 l) 0⟩)]) (fun l => (7, ⟨[], .sp (nn0 l) 0⟩) :: b37 S y) (Hn0 it ag n r) nn0 (fun l => (nn0 l, .cells 24 z37) :: Hn0 it ag n r l) (fun l => nn0 l + 1) ancn [] 1 (fun i hi j hj => by have := ancn_lt i j hj; omega) (fun j hj => by cases hj) (latC_of ancn_lt latn) ?_ (fun l => ⟨⟨rfl, rfl⟩, trivial⟩) ?_ ?_ ?_ ?_ ?_ (List.replicate 9 false) rfl (by decide)
  · repeat' (first | exact trivial | exact ⟨rfl, rfl⟩ | refine And.intro ?_ ?_)
  · intro l p hp
    rcases List.mem_cons.1 hp with rfl | hp
    · exact .inl List.mem_cons_self
    · refine .inr ⟨hp, fun q hq => ?_⟩
      rw [List.mem_singleton.1 hq]
      simp only [b37, List.mem_cons, List.not_mem_nil, or_false] at hp
      rcases hp with rfl | rfl | rfl | rfl <;> simp
  · intro i hi l p hp q hq
    rw [List.mem_singleton.1 hq]
    rcases (show i = 0 ∨ i = 1 ∨ i = 2 ∨ i = 3 ∨ i = 4 ∨ i = 5 ∨ i = 6 ∨ i = 7 ∨ i = 8 by omega) with rfl | rfl | rfl | rfl | rfl | rfl | rfl | rfl | rfl <;> (rw [List.mem_singleton.1 hp]; simp)
  · intro j hj l hl hf ha hcl
    rcases (show j = 4 ∨ j = 7 ∨ j = 0 ∨ j = 1 ∨ j = 2 ∨ j = 3 ∨ j = 5 ∨ j = 6 ∨ j = 8 by omega) with rfl | rfl | rfl | rfl | rfl | rfl | rfl | rfl | rfl
    · have h4 := getF (show 4 < l.length by omega) hf
      have h7 := no7 hl hcl h4
      refine ⟨_, rfl, rfl, fun tail Q Kn hC hK => ?_⟩
      simp only [Hn0, nn0, getN (l := l) (show 4 ≠ 7 by decide), getS (l := l) (i := 4) (by omega), h4, h7, if_true, if_false, Bool.false_eq_true] at hK ⊢
      exact hK
    · have h7 := getF (show 7 < l.length by omega) hf
      have h4 : l.getD 4 false = true := ha 4 (by decide)
      refine ⟨_, rfl, rfl, fun tail Q Kn hC hK => ?_⟩
      simp only [Hn0, nn0, getN (l := l) (show 7 ≠ 4 by decide), getS (l := l) (i := 7) (by omega), h4, h7, if_true, if_false, Bool.false_eq_true] at hK ⊢
      exact fb_append0 3 0 n (fun i => ppC (r i)) hX hC rfl rfl rfl rfl rfl rfl rfl rfl rfl rfl rfl rfl (by decide) (by decide) rfl rfl rfl rfl (by decide) (by omega) hK
    all_goals
      refine ⟨_, rfl, rfl, fun tail Q Kn hC hK => ?_⟩
      simp only [Hn0, nn0, getN (l := l) (show 0 ≠ 7 by decide), getN (l := l) (show 1 ≠ 7 by decide), getN (l := l) (show 2 ≠ 7 by decide), getN (l := l) (show 3 ≠ 7 by decide), getN (l := l) (show 4 ≠ 7 by decide), getN (l := l) (show 5 ≠ 7 by decide), getN (l := l) (show 6 ≠ 7 by decide), getN (l := l) (show 8 ≠ 7 by decide), getN (l := l) (show 0 ≠ 4 by decide), getN (l := l) (show 1 ≠ 4 by decide), getN (l := l) (show 2 ≠ 4 by decide), getN (l := l) (show 3 ≠ 4 by decide), getN (l := l) (show 5 ≠ 4 by decide), getN (l := l) (show 6 ≠ 4 by decide), getN (l := l) (show 7 ≠ 4 by decide), getN (l := l) (show 8 ≠ 4 by decide)] at hK ⊢
      cases h7 : l.getD 7 false <;> cases h4 : l.getD 4 false <;> simp only [h7, h4, if_true, if_false, Bool.false_eq_true] at hK ⊢ <;> first | exact hK | exact fb_again hX hC rfl hK
  · intro l hl ha hcl
    refine ⟨_, rfl, rfl, fun tail Q Kn hC hK => ?_⟩
    simp only [Hn0, nn0] at hK ⊢
    cases h7 : l.getD 7 false <;> cases h4 : l.getD 4 false <;> simp only [h7, h4, if_true, if_false, Bool.false_eq_true] at hK ⊢ <;> exact hK
  · intro l hl hcl
    cases h4 : l.getD 4 false with
    | false =>
      have h7 := no7 hl hcl h4
      have h := ph1 (it := it) (ag := ag) (S := S) (y := y) (r := r) hX hG hn hK l hl hcl trivial
      simp only [Hn1, nn1, h4, h7, if_true, if_false, Bool.false_eq_true] at h
      simp only [Hn0, nn0, h4, h7, if_true, if_false, Bool.false_eq_true]
      rw [slF_congr (slots' := slon it ag 4 5) fun i hd => ?_]
      · exact h
      · by_cases e4 : i = 4
        · subst e4; rw [h4] at hd; cases hd
        by_cases e7 : i = 7
        · subst e7; rw [h7] at hd; cases hd
        by_cases e8 : i = 8
        · subst e8
          have h := List.all_eq_true.1 hcl 8 (List.mem_range.2 (by omega))
          rw [hd] at h
          have h : (l.getD 1 false && (l.getD 3 false && (l.getD 7 false && true))) = true := h
          rw [h7] at h
          simp at h
        unfold slon
        split <;> first | rfl | contradiction
    | true =>
      cases h7 : l.getD 7 false with
      | false =>
        have h := ph2 (it := it) (ag := ag) (S := S) (y := y) (r := r) hX hG hn hK l hl hcl h4
        simp only [Hn2, nn2, h4, h7, if_true, if_false, Bool.false_eq_true] at h
        simp only [Hn0, nn0, h4, h7, if_true, if_false, Bool.false_eq_true]
        rw [slF_congr (slots' := slon it ag 3 5) fun i hd => ?_]
        · exact h
        · by_cases e7 : i = 7
          · subst e7; rw [h7] at hd; cases hd
          by_cases e8 : i = 8
          · subst e8
            have h := List.all_eq_true.1 hcl 8 (List.mem_range.2 (by omega))
            rw [hd] at h
            have h : (l.getD 1 false && (l.getD 3 false && (l.getD 7 false && true))) = true := h
            rw [h7] at h
            simp at h
          unfold slon
          split <;> first | rfl | contradiction
      | true =>
        have h := ph3 (it := it) (ag := ag) (S := S) (y := y) (r := r) hX hG hn hK l hl hcl h7
        simp only [Hn0, nn0, h4, h7, if_true, if_false, Bool.false_eq_true]
        exact h
end
end Go.X.Ps
end

section
set_option linter.unusedVariables false
set_option linter.unusedSimpArgs false
set_option linter.unusedSectionVars false
/- Pass: powers of two, and the document's sets. -/
set_option linter.unusedVariables false
set_option linter.unusedSimpArgs false
set_option maxRecDepth 10000
set_option maxHeartbeats 1000000
namespace Go.X.Ps
open Go Go.Proofs Go.X

/-!  power -/
def c55 : Ct := plainCt fun
  | [.si .i64 n] => some ⟨some (n ≤ 62), none, .si .i64 (2 ^ n.toNat), []⟩
  | _ => none
theorem pow_le {n : Nat} (h : n ≤ 62) : (0 : Int) < 2 ^ n ∧ (2 : Int) ^ n ≤ 4611686018427387904 := by
  constructor
  · exact Int.pow_pos (by decide)
  · have : (2 : Nat) ^ n ≤ 2 ^ 62 := Nat.pow_le_pow_right (by decide) h
    have h2 : ((2 ^ n : Nat) : Int) ≤ ((2 ^ 62 : Nat) : Int) := by exact_mod_cast this
    rw [Int.natCast_pow] at h2
    exact h2
theorem k55 {l : List (Nat × Ct)} (g : Good P T l) : COk P 55 c55 := cok (C := tabC l) g.ok Try.func55 (c := code Try.f55) rfl fun fr args H out h hp => by
  simp only [c55, plainCt] at h
  split at h
  · rename_i n
    cases h
    have hp : n ≤ 62 := hp
    refine walk_plain rfl (Nat.le_of_ble_eq_true rfl) fun G hG => ?_
    refine loop_ok (g.ok _ _ _) (fun x : {i : Nat // i ≤ n.toNat} => ⟨[(0, ⟨[], .si .i64 n⟩), (3, ⟨[], .si .i64 (2 ^ x.1)⟩), (4, ⟨[], .si .i64 x.1⟩)], [], [], 0, []⟩) (fun x => n.toNat - x.1) (fun _ => hG) ⟨0, Nat.zero_le _⟩ ?_ ?_
    · refine ⟨?_, ?_, rfl, rfl, rfl⟩ <;> repeat' (first | exact trivial | exact rfl | refine And.intro ?_ ?_)
    · rintro ⟨i, hi⟩
      refine Br.mk (fun h => ?_) (fun h => ?_)
      · have h : (i : Int) < n := of_decide_eq_true h
        have := pow_le (n := i) (by omega)
        refine Chk.mk (show _ ∧ _ from ?_) (Chk.mk (show _ ∧ _ from ?_) ⟨⟨i + 1, by omega⟩, ?_, ?_⟩)
        · show _ ≤ (2 : Int) * 2 ^ i ∧ (2 : Int) * 2 ^ i ≤ _
          have h2 := pow_le (n := i + 1) (by omega)
          rw [Int.pow_succ] at h2
          omega
        · show _ ≤ (i : Int) + 1 ∧ (i : Int) + 1 ≤ _
          omega
        · refine ⟨?_, ?_, rfl, rfl, rfl⟩ <;> repeat' (first | exact trivial | exact rfl | refine And.intro ?_ ?_)
          show (2 : Int) * 2 ^ i = 2 ^ (i + 1)
          rw [Int.pow_succ]; omega
        · show n.toNat - (i + 1) < n.toNat - i
          omega
      · have h : ¬ (i : Int) < n := of_decide_eq_false h
        refine ⟨.inl rfl, end_plain ⟨rfl, ?_⟩ rfl rfl⟩
        show (2 : Int) ^ i = 2 ^ n.toNat
        rw [show i = n.toNat by omega]
  · cases h

/-!  Has, Size -/
theorem g55 {l : List (Nat × Ct)} (g : Good P T l) : Good P T ((55, c55) :: l) := g.add (k55 g) (plainCt_mono _) (body_of Try.func55 (c := code Try.f55) rfl (by decide))

def c62 : Ct := plainCt fun
  | [.si .i64 x, .si .i64 n] => some ⟨some (n ≤ 62 ∧ 0 ≤ x ∧ x < 4611686018427387904), none, .sb (decide ((x.tdiv (2 ^ n.toNat)).tmod 2 = 1)), []⟩
  | _ => none
theorem k62 {l : List (Nat × Ct)} (g0 : Good P T l) : COk P 62 c62 := by
  have g := g55 g0
  refine cok (C := tabC _) g.ok Try.func62 (c := code Try.f62) rfl fun fr args H out h hp => ?_
  simp only [c62, plainCt] at h
  split at h
  · rename_i x n
    cases h
    obtain ⟨hn, hx, hx'⟩ : n ≤ 62 ∧ 0 ≤ x ∧ x < 4611686018427387904 := hp
    refine walk_plain rfl (Nat.le_of_ble_eq_true rfl) fun G hG => ?_
    have hpw := pow_le (n := n.toNat) (by omega)
    refine Chk.mk hn (Chk.mk (show _ ∧ _ from ⟨?_, ?_⟩) (Chk.mk ?_ ⟨.inl rfl, end_plain rfl rfl rfl⟩))
    · show (2 : Int) ^ n.toNat ≠ 0
      omega
    · show _ ≤ x.tdiv (2 ^ n.toNat) ∧ x.tdiv (2 ^ n.toNat) ≤ _
      rw [Int.tdiv_eq_ediv_of_nonneg hx]
      have h1 : 0 ≤ x / 2 ^ n.toNat := Int.ediv_nonneg hx (by omega)
      have h2 : x / 2 ^ n.toNat ≤ x := Int.ediv_le_self _ hx
      omega
    · show (2 : Int) ≠ 0
      decide
  · cases h

/-- How many bits. -/
def sizeN : Nat → Nat
  | 0 => 0
  | n + 1 => (n + 1) % 2 + sizeN ((n + 1) / 2)
decreasing_by omega
theorem sizeN_pos {n : Nat} (h : 0 < n) : sizeN n = n % 2 + sizeN (n / 2) := by
  obtain ⟨m, rfl⟩ : ∃ m, n = m + 1 := ⟨n - 1, by omega⟩
  rw [sizeN]
theorem sizeN_le (n : Nat) : sizeN n ≤ n := by
  induction n using Nat.strongRecOn with
  | _ n ih =>
    rcases Nat.eq_zero_or_pos n with rfl | h
    · simp [sizeN]
    · rw [sizeN_pos h]
      have := ih (n / 2) (by omega)
      omega

def c38 : Ct := plainCt fun
  | [.si .i64 x] => some ⟨some (x < 4611686018427387904), none, .si .i64 (sizeN x.toNat), []⟩
  | _ => none
theorem k38 {l : List (Nat × Ct)} (g : Good P T l) : COk P 38 c38 := cok (C := tabC l) g.ok Try.func38 (c := code Try.f38) rfl fun fr args H out h hp => by
  simp only [c38, plainCt] at h
  split at h
  · rename_i x
    cases h
    have hp : x < 4611686018427387904 := hp
    refine walk_plain rfl (Nat.le_of_ble_eq_true rfl) fun G hG => ?_
    refine loop_ok (g.ok _ _ _) (fun y : {y : Int × Int // y.1 ≤ x ∧ 0 ≤ y.2 ∧ y.2 + sizeN y.1.toNat = sizeN x.toNat} => ⟨[(0, ⟨[], .si .i64 y.1.1⟩), (3, ⟨[], .si .i64 y.1.2⟩)], [], [], 0, []⟩) (fun y => y.1.1.toNat) (fun _ => hG)
      ⟨(x, 0), by refine ⟨by omega, by omega, ?_⟩; simp⟩ ?_ ?_
    · refine ⟨?_, ?_, rfl, rfl, rfl⟩ <;> repeat' (first | exact trivial | exact rfl | refine And.intro ?_ ?_)
    · rintro ⟨⟨y, n⟩, h1, h2, h3⟩
      simp only at h1 h2 h3
      have hle := sizeN_le x.toNat
      refine Br.mk (fun h => ?_) (fun h => ?_)
      · have h : (0 : Int) < y := of_decide_eq_true h
        have e1 : y.tmod 2 = y % 2 := Int.tmod_eq_emod_of_nonneg (by omega)
        have e2 : y.tdiv 2 = y / 2 := Int.tdiv_eq_ediv_of_nonneg (by omega)
        have hs := sizeN_pos (n := y.toNat) (by omega)
        refine Chk.mk (show (2 : Int) ≠ 0 by decide) (Chk.mk (show _ ∧ _ from ?_) (Chk.mk (show _ ∧ _ from ⟨by decide, ?_⟩) ⟨⟨(y / 2, n + y % 2), ?_⟩, ?_, ?_⟩))
        · show _ ≤ n + y.tmod 2 ∧ n + y.tmod 2 ≤ _
          omega
        · show _ ≤ y.tdiv 2 ∧ y.tdiv 2 ≤ _
          omega
        · have e3 : (y / 2).toNat = y.toNat / 2 := by omega
          simp only [e3]
          omega
        · refine ⟨?_, ?_, rfl, rfl, rfl⟩ <;> repeat' (first | exact trivial | exact rfl | refine And.intro ?_ ?_)
          · exact e2
          · show n + y.tmod 2 = n + y % 2
            rw [e1]
        · show (y / 2).toNat < y.toNat
          omega
      · have h : ¬ (0 : Int) < y := of_decide_eq_false h
        refine ⟨.inl rfl, end_plain ⟨rfl, ?_⟩ rfl rfl⟩
        show n = sizeN x.toNat
        rw [show y.toNat = 0 by omega] at h3
        simp [sizeN] at h3
        omega
  · cases h

theorem g62 {l : List (Nat × Ct)} (g : Good P T l) : Good P T ((62, c62) :: l) := g.add (k62 g) (plainCt_mono _) (body_of Try.func62 (c := code Try.f62) rfl (by decide))
theorem g38 {l : List (Nat × Ct)} (g : Good P T l) : Good P T ((38, c38) :: l) := g.add (k38 g) (plainCt_mono _) (body_of Try.func38 (c := code Try.f38) rfl (by decide))
theorem has_eq {S : Int} (h : 0 ≤ S) (i : Nat) : decide ((S.tdiv (2 ^ ((i : Nat) : Int).toNat)).tmod 2 = 1) = hasB S i := by
  obtain ⟨s, rfl⟩ : ∃ s : Nat, S = (s : Int) := ⟨S.toNat, by omega⟩
  rw [hasB_nat, Nat.testBit_eq_decide_div_mod_eq, Int.toNat_natCast, show (2 : Int) ^ i = ((2 ^ i : Nat) : Int) by push_cast; rfl, Int.tdiv_eq_ediv_of_nonneg (Int.natCast_nonneg _), ← Int.natCast_ediv, Int.tmod_eq_emod_of_nonneg (Int.natCast_nonneg _)]
  apply decide_eq_decide.2
  omega
theorem size_all : ∀ x, x < 256 → sizeN x = popN x := by
  have h : ((List.range 256).all fun x => decide (sizeN x = popN x)) = true := by
    have e : ∀ k, ∀ x, x < 2 ^ k → sizeN x = (Nat.rec (fun _ => 0) (fun _ r x => if x = 0 then 0 else x % 2 + r (x / 2)) k : Nat → Nat) x := by
      intro k
      induction k with
      | zero => intro x hx; obtain rfl : x = 0 := by omega
                rw [sizeN]; rfl
      | succ k ih =>
        intro x hx
        rcases Nat.eq_zero_or_pos x with rfl | h0
        · rw [sizeN]; rfl
        · rw [sizeN_pos h0, ih (x / 2) (by rw [Nat.pow_succ] at hx; omega)]
          show _ = if x = 0 then 0 else _
          rw [if_neg (by omega)]
    rw [List.all_eq_true]
    intro x hx
    rw [decide_eq_true_eq, e 8 x (by have := List.mem_range.1 hx; omega)]
    have : ((List.range 256).all fun x => decide ((Nat.rec (fun _ => 0) (fun _ r x => if x = 0 then 0 else x % 2 + r (x / 2)) 8 : Nat → Nat) x = popN x)) = true := by decide +kernel
    exact of_decide_eq_true (List.all_eq_true.1 this x hx)
  intro x hx
  exact of_decide_eq_true (List.all_eq_true.1 h x (List.mem_range.2 hx))
end Go.X.Ps
end

section
set_option linter.unusedVariables false
set_option linter.unusedSimpArgs false
set_option linter.unusedSectionVars false
/- Pass: the document's renewed certificates, and their contract. -/
set_option linter.unusedVariables false
set_option linter.unusedSimpArgs false
set_option maxRecDepth 10000
set_option maxHeartbeats 4000000
namespace Go.X.Ps
open Go Go.Proofs Go.X

def c37 : Ct := fun fr args H => match args with
  | [.agg l, .si .i64 S, .si .i64 y] => passK H l fun i1 it ag n get => some ⟨some (Pps n get ∧ n ≤ 60 ∧ 0 ≤ S ∧ S ≤ 1000000), none, .agg [.si .i64 it, .si .i64 ag, .sl fr], [(fr, .vec 49 5 (rnw n (ppAt get) S y).length fun j => ppC (pget (rnw n (ppAt get) S y) j))]⟩
  | _ => none
theorem c37_mono : CtMono c37 := by
  intro fr args H H' out hH h
  unfold c37 at h ⊢
  split at h
  · exact passK_mono hH h
  · cases h
theorem k37 {l : List (Nat × Ct)} (g0 : Good P T l) : COk P 37 c37 := by
  have g := g62 good0
  refine cok (C := tabC _) g.ok Try.func37 (c := code Try.f37) rfl fun fr args H out h hp => ?_
  unfold c37 at h
  split at h
  case h_2 => cases h
  rename_i l S y
  obtain ⟨i1, it, ag, n, get, rfl, e1, h⟩ := passK_some h
  cases h
  obtain ⟨hs, hn, hS⟩ : Pps n get ∧ n ≤ 60 ∧ 0 ≤ S ∧ S ≤ 1000000 := hp
  refine ⟨[(i1, .ro 5 n fun i => ppC (ppAt get i))], [.agg (paA 0 it ag), .si .i64 S, .si .i64 y], [(0, .ro 5 n fun i => ppC (ppAt get i))], 1, [4], rfl, rfl, Nat.le_of_ble_eq_true rfl, pp_hand e1 hs, rfl, rfl, fun G hG => ?_⟩
  generalize ppAt get = r
  refine (show SemC _ _ _ _ from ?_)
  refine any_region fol ?_
  refine any_weaken (st' := ⟨b37 S y, [], H37 it ag n r, 3, []⟩) 1 (fun j => j) hG (by
    refine ⟨?_, ?_, rfl, rfl, rfl, rfl, trivial⟩
    · repeat' (first | exact trivial | exact rfl | refine And.intro ?_ ?_)
    · repeat' (first | exact trivial | exact rfl | exact List.Perm.refl _ | (intro i hi; exact ⟨rfl, rfl⟩) | refine And.intro ?_ ?_)) ?_
  refine regn (g.ok _ _ _) hG (by omega) ?_
  refine loop_okR (g.ok _ _ _) 1 (fun z : {i : Nat // i ≤ n} => ⟨[(1, ⟨[], .si .i64 S⟩), (2, ⟨[], .si .i64 y⟩), (3, ⟨[], .sp 1 0⟩), (6, ⟨[], .sp 2 0⟩), (7, ⟨[], .sp 3 0⟩), (8, ⟨[], .si .i64 (z.1 : Int)⟩)], [],
      (4, .vec 49 5 (rnB n r S y z.1).length fun j => ppC (pget (rnB n r S y z.1) j)) :: (3, .cells 24 [.si .i64 it, .si .i64 ag, .sl 4]) :: H37 it ag n r, 5, []⟩)
    (fun z => n - z.1) hG ⟨0, Nat.zero_le _⟩ (fun j => j) ?_ ?_
  · refine ⟨?_, ?_, rfl, rfl, rfl, rfl, trivial⟩ <;> repeat' (first | exact trivial | exact rfl | exact List.Perm.refl _ | exact rn_len0 | (intro i hi; exact ⟨rn_get0 hi, rfl⟩) | (intro i hi; exact ⟨rfl, rfl⟩) | refine And.intro ?_ ?_)
  rintro ⟨i, hi⟩
  refine Br.mk (fun h => ?_) (fun h => ?_)
  · have h : (i : Int) < (n : Int) := of_decide_eq_true h
    have hin : i < n := by omega
    have hl := rnB_len n r S y i
    refine Chk.mk (show (i : Int) ≤ 62 ∧ 0 ≤ S ∧ S < 4611686018427387904 from ⟨by omega, by omega, by omega⟩) ?_
    refine Br.mk (fun h2 => ?_) (fun h2 => ?_)
    · have h2 : decide ((S.tdiv (2 ^ ((i : Nat) : Int).toNat)).tmod 2 = 1) = true := h2
      rw [has_eq hS.1] at h2
      refine Chk.mk (show (0 : Int) ≤ (i : Int) ∧ (i : Int) < (n : Int) from ⟨by omega, h⟩) ?_
      refine fb_append (Te := 0) 4 _ (rnB n r S y i).length 1 (fun j => ppC (pget (rnB n r S y i) j)) _ (fun j => ppC (pget (rnB n r S y i ++ [rnX (r i) y]) j)) (g.ok _ _ _) cont_std rfl rfl rfl rfl rfl rfl rfl rfl rfl rfl rfl rfl (by decide) (by decide) rfl rfl rfl rfl ?_ ?_ ?_
      · omega
      · exact fun j hj => pget_snoc (x := rnX (r i) y) (get2 := fun q => takeL 5 (dropL (q * 5) (ppC (rnX (r i) y)))) rfl hj
      · refine Chk.mk (show InK .i64 ((i : Int) + 1) from ⟨by omega, by omega⟩) ⟨⟨i + 1, by omega⟩, (fun j => match j with | 4 => 7 | j => j), ?_, by show n - (i + 1) < n - i; omega⟩
        show WeakR _ _ _ _
        simp only [rnB_next h2]
        refine ⟨?_, ?_, rfl, rfl, rfl, rfl, trivial⟩ <;> repeat' (first | exact trivial | exact rfl | exact List.Perm.refl _ | exact snoc_len | (intro i hi; exact ⟨rfl, rfl⟩) | refine And.intro ?_ ?_)
    · have h2 : decide ((S.tdiv (2 ^ ((i : Nat) : Int).toNat)).tmod 2 = 1) = false := h2
      rw [has_eq hS.1] at h2
      refine Chk.mk (show InK .i64 ((i : Int) + 1) from ⟨by omega, by omega⟩) ⟨⟨i + 1, by omega⟩, (fun j => j), ?_, by show n - (i + 1) < n - i; omega⟩
      show WeakR _ _ _ _
      simp only [rnB_skip h2]
      refine ⟨?_, ?_, rfl, rfl, rfl, rfl, trivial⟩ <;> repeat' (first | exact trivial | exact rfl | exact List.Perm.refl _ | (intro i hi; exact ⟨rfl, rfl⟩) | refine And.intro ?_ ?_)
  · have h : ¬ (i : Int) < (n : Int) := of_decide_eq_false h
    obtain rfl : i = n := by omega
    refine ⟨.inl rfl, ⟨?_, rfl, ?_, ?_, rfl, rfl⟩⟩ <;> repeat' (first | exact trivial | exact rfl | (intro i hi; exact ⟨rfl, rfl⟩) | refine And.intro ?_ ?_)
theorem g37 {l : List (Nat × Ct)} (g : Good P T l) : Good P T ((37, c37) :: l) := g.add (k37 g) c37_mono (body_of Try.func37 (c := code Try.f37) rfl (by decide))
end Go.X.Ps
end

section
set_option linter.unusedVariables false
set_option linter.unusedSimpArgs false
set_option linter.unusedSectionVars false
/- Pass: are renewed certificates enough, as the law asks? -/
set_option linter.unusedVariables false
set_option linter.unusedSimpArgs false
set_option maxRecDepth 10000
set_option maxHeartbeats 4000000
namespace Go.X.Ps
open Go Go.Proofs Go.X

end Go.X.Ps
end

section
set_option linter.unusedVariables false
set_option linter.unusedSimpArgs false
set_option linter.unusedSectionVars false
/- Pass: laws of renewed certificates (plain). -/
set_option linter.unusedVariables false
set_option linter.unusedSimpArgs false
set_option maxRecDepth 100000
set_option maxHeartbeats 4000000
namespace Go.X.Ps
open Go Go.Proofs Go.X

/-! ### The least of a list of sets -/
/-! ### More is enough, too -/
theorem pget_mem {l : List Pp} {j : Nat} (h : j < l.length) : pget l j ∈ l := by
  have : pget l j = l[j] := by simp [pget, List.getD, h]
  rw [this]
  exact List.getElem_mem h
end Go.X.Ps
end
