/- Sums of lists of certificates; how a chain by numbers goes on, in whatever order. -/
import Derived.Test.YtknjpbmkpjcgjaaOQ
import Derived.Test.YtknjpbmkpjcgjaaMJ

section
set_option linter.unusedVariables false
set_option linter.unusedSimpArgs false
set_option linter.unusedSectionVars false
/- Pass: what the certificates of a list add together, as the law asks. -/
set_option linter.unusedVariables false
set_option linter.unusedSimpArgs false
set_option maxRecDepth 10000
set_option maxHeartbeats 4000000
namespace Go.X.Ps
open Go Go.Proofs Go.X

end Go.X.Ps
end

section
set_option linter.unusedVariables false
set_option linter.unusedSimpArgs false
set_option linter.unusedSectionVars false
/- Regions of any order: one operation between the others, behind a premise on what has run. -/
set_option linter.unusedVariables false
set_option linter.unusedSimpArgs false
set_option maxRecDepth 10000
set_option maxHeartbeats 4000000
namespace Go.X
open Go
theorem any_latF {D : List SDef} {X : Cx} {ops : Array Oper} {K : Ex → St → Prop} (hX : X.Ok) (m : Nat) (arr arr1 : List Bool → Array Bool) (opi : Nat → Nat) (ci : Nat) (slots : Nat → List (Nat × FE)) (base : List (Nat × FE)) (sx base1 : List Bool → List (Nat × FE)) (Hf : List Bool → List (Nat × HB)) (nxf : List Bool → Nat) (H1 : List Bool → List (Nat × HB)) (nx1 : List Bool → Nat) (anc : Nat → List Nat) (ancc : List Nat) (rest : Nat) (PP : List Bool → Prop) (hPP : ∀ l i, PP l → PP (l.set i true))
    (hanc : ∀ i, i < m → ∀ j ∈ anc i, j < m) (hancc : ∀ j ∈ ancc, j < m) (hchk : ∀ l ∈ allB m, latC ops m arr arr1 opi ci anc ancc l = true)
    (hA0 : subF (slF slots base (List.replicate m true)) (slF slots base (List.replicate m true))) (hsx : ∀ l, subF (sx l) (sx l))
    (hb1 : ∀ l, ∀ p ∈ base1 l, p ∈ sx l ∨ (p ∈ base ∧ ∀ q ∈ sx l, q.1 ≠ p.1)) (hsk : ∀ i, i < m → ∀ l, ∀ p ∈ slots i, ∀ q ∈ sx l, q.1 ≠ p.1)
    (hst : ∀ i, i < m → ∀ l : List Bool, l.length = m → PP l → l.getD i true = false → (∀ j ∈ anc i, l.getD j false = true) → clB2 anc l = true → ∃ o, ops[opi i]? = some o ∧ o.guard = none ∧ ∀ (tail : List (Nat × FE)) (Q : Exit → Act → World → Prop) (Kn : St → Prop), Cont X Q Kn (fun _ _ => False) → Kn ⟨slots i ++ ((anc i).flatMap slots ++ (base ++ tail)), [], Hf (l.set i true), nxf (l.set i true), D⟩ →
      execL X [o] Q Kn (fun _ _ => False) 0 [o] ⟨(anc i).flatMap slots ++ (base ++ tail), [], Hf l, nxf l, D⟩)
    (hcall : ∀ l : List Bool, l.length = m → PP l → (∀ j ∈ ancc, l.getD j false = true) → clB2 anc l = true → ∃ o, ops[ci]? = some o ∧ o.guard = none ∧ ∀ (tail : List (Nat × FE)) (Q : Exit → Act → World → Prop) (Kn : St → Prop), Cont X Q Kn (fun _ _ => False) → Kn ⟨sx l ++ (ancc.flatMap slots ++ (base ++ tail)), [], H1 l, nx1 l, D⟩ →
      execL X [o] Q Kn (fun _ _ => False) 0 [o] ⟨ancc.flatMap slots ++ (base ++ tail), [], Hf l, nxf l, D⟩)
    (hend : ∀ l : List Bool, l.length = m → clB2 anc l = true → PP l → (∀ j ∈ ancc, l.getD j false = true) → AnyS X ops (l.count false + rest) (arr1 l) ⟨slF slots (base1 l) l, [], H1 l, nx1 l, D⟩ K) :
    ∀ l : List Bool, l.length = m → clB2 anc l = true → PP l → AnyS X ops (l.count false + (rest + 1)) (arr l) ⟨slF slots base l, [], Hf l, nxf l, D⟩ K := by
  have hA' := subF_all hA0
  have key : ∀ l : List Bool, l.length = m → (∀ p ∈ ancc.flatMap slots ++ (base ++ slF slots base l), p ∈ slF slots base l) → ∀ t e, findF (slF slots (base1 l) l) t = some e → findF (sx l ++ (ancc.flatMap slots ++ (base ++ slF slots base l))) t = some e ∧ e.gp = [] := by
    intro l hl hmem t e h
    have hp := findF_in h
    have old : (t, e) ∈ slF slots base l → (∀ q ∈ sx l, q.1 ≠ t) → findF (sx l ++ (ancc.flatMap slots ++ (base ++ slF slots base l))) t = some e ∧ e.gp = [] := by
      intro h1 h2
      rw [findF_skip h2]
      refine ⟨(findF_mem (A := slF slots base (List.replicate m true)) (L := ancc.flatMap slots ++ (base ++ slF slots base l)) fun p hp => (hA' p (slF_all hl (hmem p hp))).1).2 ?_, (hA' _ (slF_all hl h1)).2⟩
      exact List.mem_append_right _ (List.mem_append_right _ h1)
    rcases slF_mem.1 hp with ⟨i, hi, hd, h1⟩ | h1
    · exact old (slF_mem.2 (.inl ⟨i, hi, hd, h1⟩)) fun q hq => hsk i (hl ▸ hi) l _ h1 q hq
    · rcases hb1 l _ h1 with h2 | ⟨h2, h3⟩
      · obtain ⟨f1, f2⟩ := subF_all (hsx l) _ h2
        exact ⟨findF_left f1, f2⟩
      · exact old (slF_mem.2 (.inr h2)) h3
  have main : ∀ k, ∀ l : List Bool, l.length = m → clB2 anc l = true → PP l → l.count false = k → AnyS X ops (k + (rest + 1)) (arr l) ⟨slF slots base l, [], Hf l, nxf l, D⟩ K := by
    intro k
    induction k with
    | zero =>
      intro l hl hcl hpl hk
      have hc := hchk l (hl ▸ mem_allB l)
      unfold latC at hc
      rw [hcl] at hc
      simp only [Bool.not_true, Bool.false_or, Bool.and_eq_true, Bool.or_eq_true, Bool.not_eq_true', List.all_eq_true, List.any_eq_true, beq_iff_eq] at hc
      obtain ⟨hne, hrs⟩ := hc
      refine ⟨fun ρ a w hmod => ?_⟩
      rw [show 0 + (rest + 1) = rest + 1 by omega]
      refine wpAnyIn_all (rs := Region.ready .any ops (arr l)) rfl (by intro h; rw [h] at hne; cases hne) fun oi hi => ?_
      rcases hrs oi hi with ⟨rfl, hia, hset⟩ | ⟨i, him, rfl, hif, _, _⟩
      · obtain ⟨o, ho, hg, hstep⟩ := hcall l hl hpl hia hcl
        have hmem : ∀ p ∈ ancc.flatMap slots ++ (base ++ slF slots base l), p ∈ slF slots base l := by
          intro p hp
          rcases List.mem_append.1 hp with hp | hp
          · obtain ⟨j, hj, hp⟩ := List.mem_flatMap.1 hp
            exact slF_mem.2 (.inl ⟨j, hl ▸ hancc j hj, hia j hj, hp⟩)
          · rcases List.mem_append.1 hp with hp | hp
            · exact slF_mem.2 (.inr hp)
            · exact hp
        have hmod' := mod_sub (F' := ancc.flatMap slots ++ (base ++ slF slots base l)) hA' (fun p => slF_all hl) hmem (Nat.le_refl _) hmod
        refine stepsK_ok hX (l := [oi]) (K := K) (st := ⟨ancc.flatMap slots ++ (base ++ slF slots base l), [], Hf l, nxf l, D⟩) ⟨?_, trivial⟩ oi (List.mem_singleton.2 rfl) ρ a w hmod'
        have hnth : nth ops.toList oi = some o := by rw [nth_eq, Array.getElem?_toList]; exact ho
        rw [hnth]
        show (match o.guard with
          | none => _
          | some _ => False)
        rw [hg]
        refine hstep _ _ _ cont_any ?_
        rw [hset]
        refine ⟨fun ρ a w hm2 => ?_⟩
        have he := hend l hl hcl hpl hia
        rw [hk, Nat.zero_add] at he
        refine he.h ρ a w (mod_find (F := sx l ++ (ancc.flatMap slots ++ (base ++ slF slots base l))) (key l hl hmem) hm2)
      · have him : i < m := List.mem_range.1 him
        have hil : i < l.length := by omega
        have hli2 : l[i] = false := by
          rw [List.getD, List.getElem?_eq_getElem hil] at hif
          simpa using hif
        have : false ∈ l := hli2 ▸ List.getElem_mem hil
        have := List.count_pos_iff.2 this
        omega
    | succ k ih =>
      intro l hl hcl hpl hk
      have hc := hchk l (hl ▸ mem_allB l)
      unfold latC at hc
      rw [hcl] at hc
      simp only [Bool.not_true, Bool.false_or, Bool.and_eq_true, Bool.or_eq_true, Bool.not_eq_true', List.all_eq_true, List.any_eq_true, beq_iff_eq] at hc
      obtain ⟨hne, hrs⟩ := hc
      refine ⟨fun ρ a w hmod => ?_⟩
      rw [show k + 1 + (rest + 1) = (k + (rest + 1)) + 1 by omega]
      refine wpAnyIn_all (rs := Region.ready .any ops (arr l)) rfl (by intro h; rw [h] at hne; cases hne) fun oi hi => ?_
      rcases hrs oi hi with ⟨rfl, hia, hset⟩ | ⟨i, him, rfl, hif, hia, hset⟩
      · obtain ⟨o, ho, hg, hstep⟩ := hcall l hl hpl hia hcl
        have hmem : ∀ p ∈ ancc.flatMap slots ++ (base ++ slF slots base l), p ∈ slF slots base l := by
          intro p hp
          rcases List.mem_append.1 hp with hp | hp
          · obtain ⟨j, hj, hp⟩ := List.mem_flatMap.1 hp
            exact slF_mem.2 (.inl ⟨j, hl ▸ hancc j hj, hia j hj, hp⟩)
          · rcases List.mem_append.1 hp with hp | hp
            · exact slF_mem.2 (.inr hp)
            · exact hp
        have hmod' := mod_sub (F' := ancc.flatMap slots ++ (base ++ slF slots base l)) hA' (fun p => slF_all hl) hmem (Nat.le_refl _) hmod
        refine stepsK_ok hX (l := [oi]) (K := K) (st := ⟨ancc.flatMap slots ++ (base ++ slF slots base l), [], Hf l, nxf l, D⟩) ⟨?_, trivial⟩ oi (List.mem_singleton.2 rfl) ρ a w hmod'
        have hnth : nth ops.toList oi = some o := by rw [nth_eq, Array.getElem?_toList]; exact ho
        rw [hnth]
        show (match o.guard with
          | none => _
          | some _ => False)
        rw [hg]
        refine hstep _ _ _ cont_any ?_
        rw [hset]
        refine ⟨fun ρ a w hm2 => ?_⟩
        have he := hend l hl hcl hpl hia
        rw [hk, show k + 1 + rest = k + (rest + 1) by omega] at he
        refine he.h ρ a w (mod_find (F := sx l ++ (ancc.flatMap slots ++ (base ++ slF slots base l))) (key l hl hmem) hm2)
      · have him : i < m := List.mem_range.1 him
        have hil : i < l.length := by omega
        obtain ⟨o, ho, hg, hstep⟩ := hst i him l hl hpl hif hia hcl
        have hlen : (l.set i true).length = m := by rw [List.length_set, hl]
        have hget : ∀ j, (l.set i true).getD j false = true ↔ j = i ∨ l.getD j false = true := by
          intro j
          simp only [List.getD, List.getElem?_set]
          by_cases e : i = j
          · subst e; simp [hil]
          · simp [e, Ne.symm e]
        have hcl' : clB2 anc (l.set i true) = true := by
          unfold clB2 at hcl ⊢
          rw [List.all_eq_true] at hcl ⊢
          intro j hj
          rw [List.length_set] at hj
          have h0 := hcl j hj
          cases hd : (l.set i true).getD j false with
          | false => rfl
          | true =>
            rw [Bool.not_true, Bool.false_or, List.all_eq_true]
            intro q hq
            refine (hget q).2 ?_
            rcases (hget j).1 hd with rfl | hd
            · exact .inr (hia q hq)
            · rw [hd] at h0
              rw [Bool.not_true, Bool.false_or, List.all_eq_true] at h0
              exact .inr (h0 q hq)
        have hcount : (l.set i true).count false = k := by
          have hli2 : l[i] = false := by
            rw [List.getD, List.getElem?_eq_getElem hil] at hif
            simpa using hif
          have := List.count_set (a := true) (b := false) (l := l) (i := i) hil
          rw [hli2] at this
          simp at this
          omega
        have ihh := ih (l.set i true) hlen hcl' (hPP l i hpl) hcount
        have hmem : ∀ p ∈ (anc i).flatMap slots ++ (base ++ slF slots base l), p ∈ slF slots base l := by
          intro p hp
          rcases List.mem_append.1 hp with hp | hp
          · obtain ⟨j, hj, hp⟩ := List.mem_flatMap.1 hp
            exact slF_mem.2 (.inl ⟨j, hl ▸ hanc i him j hj, hia j hj, hp⟩)
          · rcases List.mem_append.1 hp with hp | hp
            · exact slF_mem.2 (.inr hp)
            · exact hp
        have hmod' := mod_sub (F' := (anc i).flatMap slots ++ (base ++ slF slots base l)) hA' (fun p => slF_all hl) hmem (Nat.le_refl _) hmod
        refine stepsK_ok hX (l := [opi i]) (K := K) (st := ⟨(anc i).flatMap slots ++ (base ++ slF slots base l), [], Hf l, nxf l, D⟩) ⟨?_, trivial⟩ (opi i) (List.mem_singleton.2 rfl) ρ a w hmod'
        have hnth : nth ops.toList (opi i) = some o := by rw [nth_eq, Array.getElem?_toList]; exact ho
        rw [hnth]
        show (match o.guard with
          | none => _
          | some _ => False)
        rw [hg]
        refine hstep _ _ _ cont_any ?_
        rw [hset]
        refine ⟨fun ρ a w hm2 => ?_⟩
        refine ihh.h ρ a w (mod_sub (F := slots i ++ ((anc i).flatMap slots ++ (base ++ slF slots base l))) (nx := nxf (l.set i true)) hA' ?_ ?_ (Nat.le_refl _) hm2)
        · intro p hp
          rcases List.mem_append.1 hp with hp | hp
          · refine slF_mem.2 (.inl ⟨i, by simpa using him, ?_, hp⟩)
            simp [List.getD, him]
          · exact slF_all hl (hmem p hp)
        · intro p hp
          rcases slF_mem.1 hp with ⟨j, hj, hd, hp2⟩ | hp2
          · rw [List.length_set] at hj
            rcases (hget j).1 hd with e | hd
            · exact List.mem_append_left _ (e ▸ hp2)
            · exact List.mem_append_right _ (List.mem_append_right _ (List.mem_append_right _ (slF_mem.2 (.inl ⟨j, hj, hd, hp2⟩))))
          · exact List.mem_append_right _ (List.mem_append_right _ (List.mem_append_left _ hp2))
  exact fun l hl hcl hpl => main _ l hl hcl hpl rfl
end Go.X
end

section
set_option linter.unusedVariables false
set_option linter.unusedSimpArgs false
set_option linter.unusedSectionVars false
/- Regions of any order: which operations are ready, said by what each one waits for alone; no set is looked at. -/
set_option linter.unusedVariables false
set_option linter.unusedSimpArgs false
set_option maxRecDepth 10000
set_option maxHeartbeats 4000000
namespace Go.X
open Go

def arrZ (N : Nat) (ix : Nat → Option Nat) (z : Nat → Bool) (l : List Bool) : Array Bool := ((List.range N).map fun j => match ix j with
  | some i => l.getD i false
  | none => z j).toArray
def edgesOf (ops : Array Oper) (j : Nat) : List Nat := match ops[j]? with
  | some o => (o.after.toList.filter bindsAny).map (·.on)
  | none => []
def clA (anc : Nat → List Nat) : Nat → Nat → List Nat
  | 0, d => [d]
  | f + 1, d => d :: (anc d).flatMap (clA anc f)
def neverB (ops : Array Oper) (ix : Nat → Option Nat) (z : Nat → Bool) (j : Nat) : Bool := (edgesOf ops j).any fun k => match ix k with
  | none => !z k
  | some _ => false
def symOp (ops : Array Oper) (ix : Nat → Option Nat) (anc : Nat → List Nat) (z : Nat → Bool) (j : Nat) (need : List Nat) : Bool :=
  neverB ops ix z j || need.all fun q => (edgesOf ops j).any fun k => match ix k with
    | some d => (clA anc 6 d).contains q
    | none => false
def readyAt (ops : Array Oper) (N : Nat) (ix : Nat → Option Nat) (z : Nat → Bool) (i j : Nat) : Bool := (edgesOf ops j).all fun k => Nat.blt k N && match ix k with
  | some d => Nat.blt d i
  | none => z k
def symC (ops : Array Oper) (N m : Nat) (ix : Nat → Option Nat) (opi : Nat → Nat) (ci : Nat) (anc : Nat → List Nat) (ancc : List Nat) (z : Nat → Bool) : Bool :=
  Nat.beq ops.size N && ((List.range N).all (fun j => match ix j with
    | some i => Nat.blt i m && (Nat.beq (opi i) j && symOp ops ix anc z j (anc i))
    | none => z j || ((Nat.beq j ci && symOp ops ix anc z j ancc) || neverB ops ix z j))
  && (Nat.blt ci N && (ix ci == none && (!z ci && (List.range (m + 1)).all fun i => (Nat.blt i m && (ix (opi i) == some i && (Nat.blt (opi i) N && readyAt ops N ix z i (opi i)))) || readyAt ops N ix z i ci))))
def symX (ops : Array Oper) (N m : Nat) (ix : Nat → Option Nat) (opi : Nat → Nat) (anc : Nat → List Nat) (z : Nat → Bool) : Bool :=
  Nat.beq ops.size N && ((List.range N).all (fun j => match ix j with
    | some i => Nat.blt i m && (Nat.beq (opi i) j && symOp ops ix anc z j (anc i))
    | none => z j || symOp ops ix anc z j (List.range m))
  && (List.range m).all fun i => ix (opi i) == some i && (Nat.blt (opi i) N && readyAt ops N ix z i (opi i)))
def exM (m : Nat) (l : List Bool) : Bool := (List.range m).all fun j => l.getD j false
theorem blt_lt {a b : Nat} (h : Nat.blt a b = true) : a < b := Nat.le_of_ble_eq_true h
theorem arrZ_get {N : Nat} {ix : Nat → Option Nat} {z : Nat → Bool} {l : List Bool} {j : Nat} (d : Bool) (h : j < N) : (arrZ N ix z l).getD j d = (match ix j with
  | some i => l.getD i false
  | none => z j) := by
  unfold arrZ
  simp [Array.getD, h]
theorem arrZ_getF {N : Nat} {ix : Nat → Option Nat} {z : Nat → Bool} {l : List Bool} {j : Nat} (h : (arrZ N ix z l).getD j false = true) : j < N ∧ (match ix j with
  | some i => l.getD i false
  | none => z j) = true := by
  by_cases hj : j < N
  · rw [arrZ_get false hj] at h; exact ⟨hj, h⟩
  · unfold arrZ at h
    simp [Array.getD, hj] at h
theorem mem_edges {ops : Array Oper} {listed : Array Bool} {j : Nat} : j ∈ Region.ready .any ops listed ↔ listed.getD j true = false ∧ j < ops.size ∧ ∀ k ∈ edgesOf ops j, listed.getD k false = true := by
  rw [mem_ready]
  constructor
  · rintro ⟨h0, o, ho, h⟩
    refine ⟨h0, (Array.getElem?_eq_some_iff.1 ho).1, fun k hk => ?_⟩
    unfold edgesOf at hk
    rw [ho] at hk
    obtain ⟨e, he, rfl⟩ := List.mem_map.1 hk
    obtain ⟨he, hb⟩ := List.mem_filter.1 he
    exact h e (Array.mem_toList_iff.1 he) (by rw [bindsAny_eq]; exact hb)
  · rintro ⟨h0, hj, h⟩
    refine ⟨h0, ops[j], Array.getElem?_eq_getElem hj, fun e he hb => h e.on ?_⟩
    unfold edgesOf
    rw [Array.getElem?_eq_getElem hj]
    exact List.mem_map.2 ⟨e, List.mem_filter.2 ⟨Array.mem_toList_iff.2 he, by rw [← bindsAny_eq]; exact hb⟩, rfl⟩
theorem clA_ok {anc : Nat → List Nat} {l : List Bool} (hcl : clB2 anc l = true) : ∀ (f d q : Nat), l.getD d false = true → q ∈ clA anc f d → l.getD q false = true
  | 0, d, q, h, hq => by rw [List.mem_singleton.1 hq]; exact h
  | f + 1, d, q, h, hq => by
    rcases List.mem_cons.1 hq with rfl | hq
    · exact h
    obtain ⟨e, he, hq⟩ := List.mem_flatMap.1 hq
    refine clA_ok hcl f e q ?_ hq
    have hd : d < l.length := by
      by_cases hd : d < l.length
      · exact hd
      · rw [List.getD, List.getElem?_eq_none (by omega)] at h; cases h
    have := List.all_eq_true.1 hcl d (List.mem_range.2 hd)
    rw [h, Bool.not_true, Bool.false_or, List.all_eq_true] at this
    exact this e he
theorem never_ok {ops : Array Oper} {N : Nat} {ix : Nat → Option Nat} {z : Nat → Bool} {l : List Bool} {j : Nat} (h : neverB ops ix z j = true) (hr : ∀ k ∈ edgesOf ops j, (arrZ N ix z l).getD k false = true) : False := by
  obtain ⟨k, hk, h⟩ := List.any_eq_true.1 h
  have h2 := (arrZ_getF (hr k hk)).2
  cases e : ix k with
  | some i => rw [e] at h; cases h
  | none => rw [e] at h h2; simp only at h h2; rw [h2] at h; cases h
theorem symOp_ok {ops : Array Oper} {N : Nat} {ix : Nat → Option Nat} {anc : Nat → List Nat} {z : Nat → Bool} {l : List Bool} {j : Nat} {need : List Nat} (hcl : clB2 anc l = true) (h : symOp ops ix anc z j need = true) (hr : ∀ k ∈ edgesOf ops j, (arrZ N ix z l).getD k false = true) : (need.all fun q => l.getD q false) = true := by
  rcases Bool.or_eq_true_iff.1 h with h | h
  · exact (never_ok h hr).elim
  rw [List.all_eq_true] at h ⊢
  intro q hq
  obtain ⟨k, hk, h⟩ := List.any_eq_true.1 (h q hq)
  have h2 := (arrZ_getF (hr k hk)).2
  cases e : ix k with
  | none => rw [e] at h; cases h
  | some d =>
    rw [e] at h h2
    exact clA_ok hcl 6 d q h2 (List.contains_iff_mem.1 h)
theorem arrZ_q {N : Nat} {ix : Nat → Option Nat} {z : Nat → Bool} {l : List Bool} (k : Nat) : (arrZ N ix z l)[k]? = if k < N then some (match ix k with
  | some i => l.getD i false
  | none => z k) else none := by
  unfold arrZ
  by_cases h : k < N <;> simp [h]
theorem arrZ_size {N : Nat} {ix : Nat → Option Nat} {z : Nat → Bool} {l : List Bool} : (arrZ N ix z l).size = N := by simp [arrZ]
theorem arrZ_set {N : Nat} {ix : Nat → Option Nat} {z : Nat → Bool} {l : List Bool} {i j : Nat} (hl : i < l.length) (hi : ix j = some i) (h1 : ∀ k, k < N → ix k = some i → k = j) : (arrZ N ix z l).setIfInBounds j true = arrZ N ix z (l.set i true) := by
  apply Array.ext_getElem?
  intro k
  rw [Array.getElem?_setIfInBounds, arrZ_q, arrZ_q, arrZ_size]
  by_cases e : j = k
  · subst e
    rw [if_pos rfl]
    by_cases hN : j < N
    · rw [if_pos hN, if_pos hN, hi]
      simp [List.getD, hl]
    · rw [if_neg hN, if_neg hN]
  · rw [if_neg e]
    by_cases hN : k < N
    · rw [if_pos hN, if_pos hN]
      cases ek : ix k with
      | none => rfl
      | some d =>
        have hd : i ≠ d := fun h => e (h1 k hN (h ▸ ek)).symm
        simp only [List.getD, List.getElem?_set_ne hd]
    · rw [if_neg hN, if_neg hN]
theorem arrZ_setz {N : Nat} {ix : Nat → Option Nat} {z z1 : Nat → Bool} {l : List Bool} {c : Nat} (hc : ix c = none) (h1 : z1 c = true) (h2 : ∀ k, k < N → k ≠ c → z1 k = z k) : (arrZ N ix z l).setIfInBounds c true = arrZ N ix z1 l := by
  apply Array.ext_getElem?
  intro k
  rw [Array.getElem?_setIfInBounds, arrZ_q, arrZ_q, arrZ_size]
  by_cases e : c = k
  · subst e
    rw [if_pos rfl]
    by_cases hN : c < N
    · rw [if_pos hN, if_pos hN, hc]
      simp only [h1]
    · rw [if_neg hN, if_neg hN]
  · rw [if_neg e]
    by_cases hN : k < N
    · rw [if_pos hN, if_pos hN]
      cases ek : ix k with
      | none => simp only [h2 k hN (fun h => e h.symm)]
      | some d => rfl
    · rw [if_neg hN, if_neg hN]
theorem first_un {l : List Bool} : ∀ m, ∃ i, i ≤ m ∧ (∀ d, d < i → l.getD d false = true) ∧ (i < m → l.getD i false = false)
  | 0 => ⟨0, Nat.le_refl _, fun d h => absurd h (Nat.not_lt_zero d), fun h => absurd h (Nat.lt_irrefl 0)⟩
  | m + 1 => by
    obtain ⟨i, h1, h2, h3⟩ := first_un (l := l) m
    by_cases him : i < m
    · exact ⟨i, by omega, h2, fun _ => h3 him⟩
    obtain rfl : i = m := by omega
    cases e : l.getD i false with
    | false => exact ⟨i, by omega, h2, fun _ => e⟩
    | true => exact ⟨i + 1, Nat.le_refl _, fun d hd => by
        rcases Nat.lt_succ_iff_lt_or_eq.1 hd with h | rfl
        · exact h2 d h
        · exact e, fun h => absurd h (Nat.lt_irrefl _)⟩
theorem readyAt_ok {ops : Array Oper} {N : Nat} {ix : Nat → Option Nat} {z : Nat → Bool} {l : List Bool} {i j : Nat} (h : readyAt ops N ix z i j = true) (h2 : ∀ d, d < i → l.getD d false = true) : ∀ k ∈ edgesOf ops j, (arrZ N ix z l).getD k false = true := by
  intro k hk
  have h := List.all_eq_true.1 h k hk
  rw [Bool.and_eq_true] at h
  rw [arrZ_get false (blt_lt h.1)]
  cases e : ix k with
  | none => rw [e] at h; exact h.2
  | some d => rw [e] at h; exact h2 d (blt_lt h.2)
theorem latC_sym {ops : Array Oper} {N m : Nat} {ix : Nat → Option Nat} {opi : Nat → Nat} {ci : Nat} {anc : Nat → List Nat} {ancc : List Nat} {z z1 : Nat → Bool} (h : symC ops N m ix opi ci anc ancc z = true) (hz : z1 ci = true) (hz2 : ∀ k, k < N → k ≠ ci → z1 k = z k) : ∀ l ∈ allB m, latC ops m (arrZ N ix z) (arrZ N ix z1) opi ci anc ancc l = true := by
  intro l hl
  have hlen := allB_len hl
  unfold latC
  cases hcl : clB2 anc l with
  | false => rfl
  | true =>
  unfold symC at h
  simp only [Bool.and_eq_true] at h
  obtain ⟨hN, hA, hcN, hcx, hcz, hR⟩ := h
  have hN := Nat.eq_of_beq_eq_true hN
  have hcN := blt_lt hcN
  have hcx : ix ci = none := by simpa using hcx
  have hcz : z ci = false := by simpa using hcz
  rw [Bool.not_true, Bool.false_or]
  simp only [Bool.and_eq_true]
  refine ⟨?_, ?_⟩
  · obtain ⟨i, hi, hdn, hun⟩ := first_un (l := l) m
    have hne : ∀ {j}, j ∈ Region.ready .any ops (arrZ N ix z l) → (!(Region.ready .any ops (arrZ N ix z l)).isEmpty) = true := by
      intro j hj
      cases e : Region.ready .any ops (arrZ N ix z l) with
      | nil => rw [e] at hj; cases hj
      | cons a b => rfl
    rcases Bool.or_eq_true_iff.1 (List.all_eq_true.1 hR i (List.mem_range.2 (by omega))) with h | h
    · simp only [Bool.and_eq_true] at h
      obtain ⟨h1, h2, h3, h4⟩ := h
      refine hne (j := opi i) (mem_edges.2 ⟨?_, by rw [hN]; exact blt_lt h3, readyAt_ok h4 hdn⟩)
      rw [arrZ_get true (blt_lt h3), show ix (opi i) = some i by simpa using h2]
      exact hun (blt_lt h1)
    · refine hne (j := ci) (mem_edges.2 ⟨?_, by rw [hN]; exact hcN, readyAt_ok h hdn⟩)
      rw [arrZ_get true hcN, hcx]
      exact hcz
  · rw [List.all_eq_true]
    intro j hj
    obtain ⟨h0, hjs, hed⟩ := mem_edges.1 hj
    rw [hN] at hjs
    rw [arrZ_get true hjs] at h0
    have hA1 := List.all_eq_true.1 hA j (List.mem_range.2 hjs)
    cases e : ix j with
    | none =>
      rw [e] at hA1 h0
      simp only at h0
      rw [h0, Bool.false_or] at hA1
      rcases Bool.or_eq_true_iff.1 hA1 with h | h
      · rw [Bool.and_eq_true] at h
        obtain rfl := Nat.eq_of_beq_eq_true h.1
        rw [Bool.or_eq_true]
        left
        rw [arrZ_setz hcx hz hz2, symOp_ok hcl h.2 hed]
        simp
      · exact (never_ok h hed).elim
    | some i =>
      rw [e] at hA1 h0
      simp only [Bool.and_eq_true] at hA1 h0
      obtain ⟨h1, h2, h3⟩ := hA1
      have h1 := blt_lt h1
      rw [Bool.or_eq_true]
      right
      rw [List.any_eq_true]
      refine ⟨i, List.mem_range.2 h1, ?_⟩
      rw [arrZ_set (i := i) (by omega) e (fun k hk hki => by
        have := List.all_eq_true.1 hA k (List.mem_range.2 hk)
        rw [hki] at this
        simp only [Bool.and_eq_true] at this
        exact (Nat.eq_of_beq_eq_true this.2.1).symm.trans (Nat.eq_of_beq_eq_true h2)), symOp_ok hcl h3 hed]
      have : l.getD i true = false := by
        have hil : i < l.length := by omega
        rw [List.getD, List.getElem?_eq_getElem hil] at h0 ⊢
        simpa using h0
      rw [this, Nat.eq_of_beq_eq_true h2]
      simp
def symXP (ops : Array Oper) (N m : Nat) (ix : Nat → Option Nat) (opi : Nat → Nat) (anc : Nat → List Nat) (z : Nat → Bool) (pre : List Nat) : Bool :=
  Nat.beq ops.size N && ((List.range N).all (fun j => match ix j with
    | some i => Nat.blt i m && (Nat.beq (opi i) j && symOp ops ix anc z j (anc i))
    | none => z j || symOp ops ix anc z j ((List.range m).filter fun q => !pre.contains q))
  && (List.range m).all fun i => ix (opi i) == some i && (Nat.blt (opi i) N && readyAt ops N ix z i (opi i)))
theorem latX_symP {ops : Array Oper} {N m : Nat} {ix : Nat → Option Nat} {opi : Nat → Nat} {anc : Nat → List Nat} {z : Nat → Bool} {pre : List Nat} (h : symXP ops N m ix opi anc z pre = true) : ∀ l ∈ allB m, (∀ q ∈ pre, l.getD q false = true) → latX ops m (arrZ N ix z) opi (exM m) anc l = true := by
  intro l hl hpre
  have hlen := allB_len hl
  unfold latX
  cases hcl : clB2 anc l with
  | false => rfl
  | true =>
  unfold symXP at h
  simp only [Bool.and_eq_true] at h
  obtain ⟨hN, hA, hR⟩ := h
  have hN := Nat.eq_of_beq_eq_true hN
  rw [Bool.not_true, Bool.false_or]
  cases hex : exM m l with
  | true => rfl
  | false =>
  rw [Bool.false_or]
  simp only [Bool.and_eq_true]
  refine ⟨?_, ?_⟩
  · obtain ⟨i, hi, hdn, hun⟩ := first_un (l := l) m
    have him : i < m := by
      rcases Nat.lt_or_eq_of_le hi with h | rfl
      · exact h
      · have : exM i l = true := List.all_eq_true.2 fun d hd => hdn d (List.mem_range.1 hd)
        rw [this] at hex; cases hex
    have hne : ∀ {j}, j ∈ Region.ready .any ops (arrZ N ix z l) → (!(Region.ready .any ops (arrZ N ix z l)).isEmpty) = true := by
      intro j hj
      cases e : Region.ready .any ops (arrZ N ix z l) with
      | nil => rw [e] at hj; cases hj
      | cons a b => rfl
    have h := List.all_eq_true.1 hR i (List.mem_range.2 him)
    simp only [Bool.and_eq_true] at h
    obtain ⟨h2, h3, h4⟩ := h
    refine hne (j := opi i) (mem_edges.2 ⟨?_, by rw [hN]; exact blt_lt h3, readyAt_ok h4 hdn⟩)
    rw [arrZ_get true (blt_lt h3), show ix (opi i) = some i by simpa using h2]
    exact hun him
  · rw [List.all_eq_true]
    intro j hj
    obtain ⟨h0, hjs, hed⟩ := mem_edges.1 hj
    rw [hN] at hjs
    rw [arrZ_get true hjs] at h0
    have hA1 := List.all_eq_true.1 hA j (List.mem_range.2 hjs)
    cases e : ix j with
    | none =>
      rw [e] at hA1 h0
      simp only at h0
      rw [h0, Bool.false_or] at hA1
      have h8 := symOp_ok hcl hA1 hed
      have h9 : exM m l = true := by
        refine List.all_eq_true.2 fun q hq => ?_
        cases hp : pre.contains q with
        | true => exact hpre q (List.contains_iff_mem.1 hp)
        | false => exact List.all_eq_true.1 h8 q (List.mem_filter.2 ⟨hq, by rw [hp]; rfl⟩)
      rw [h9] at hex
      cases hex
    | some i =>
      rw [e] at hA1 h0
      simp only [Bool.and_eq_true] at hA1 h0
      obtain ⟨h1, h2, h3⟩ := hA1
      have h1 := blt_lt h1
      rw [List.any_eq_true]
      refine ⟨i, List.mem_range.2 h1, ?_⟩
      rw [arrZ_set (i := i) (by omega) e (fun k hk hki => by
        have := List.all_eq_true.1 hA k (List.mem_range.2 hk)
        rw [hki] at this
        simp only [Bool.and_eq_true] at this
        exact (Nat.eq_of_beq_eq_true this.2.1).symm.trans (Nat.eq_of_beq_eq_true h2)), symOp_ok hcl h3 hed]
      have : l.getD i true = false := by
        have hil : i < l.length := by omega
        rw [List.getD, List.getElem?_eq_getElem hil] at h0 ⊢
        simpa using h0
      rw [this, Nat.eq_of_beq_eq_true h2]
      simp
theorem latX_sym {ops : Array Oper} {N m : Nat} {ix : Nat → Option Nat} {opi : Nat → Nat} {anc : Nat → List Nat} {z : Nat → Bool} (h : symX ops N m ix opi anc z = true) : ∀ l ∈ allB m, latX ops m (arrZ N ix z) opi (exM m) anc l = true := fun l hl => latX_symP (pre := []) (by
  have e : (List.range m).filter (fun q => !([] : List Nat).contains q) = List.range m := by simp
  unfold symX at h
  unfold symXP
  rw [e]
  exact h) l hl (fun q hq => by cases hq)
end Go.X
end

section
set_option linter.unusedVariables false
set_option linter.unusedSimpArgs false
set_option linter.unusedSectionVars false
/- Pass: how a chain goes on by one certificate, as the law walks: in whatever order. -/
set_option linter.unusedVariables false
set_option linter.unusedSimpArgs false
set_option maxRecDepth 10000
set_option maxHeartbeats 4000000
namespace Go.X.Ps
open Go Go.Proofs Go.X

theorem getI_snoc {acc : List Int} {k : Nat} {j : Nat} (hj : j < acc.length + 1) : getI (acc ++ [(k : Int)]) j = if j < acc.length then getI acc j else (fun q => takeL 1 (dropL (q * 1) [SV.si .i64 (k : Int)])) (j - acc.length) := by
  unfold getI
  split
  · rename_i h; rw [List.getD, List.getElem?_append_left h]; rfl
  · rename_i h
    obtain rfl : j = acc.length := by omega
    rw [Nat.sub_self]
    simp [List.getD, intC, takeL, dropL]
section
variable {C : Nat → Option Ct} {G : Base} {it ag u i q y : Int} {n k mb : Nat} {r : Nat → Pp} {o : Nat → Int} {acc : List Int} {K : Ex → St → Prop}
end
end Go.X.Ps
end
