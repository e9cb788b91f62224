/- Regions of any order: guarded operations. -/
import Derived.Test.YtknjpbmkpjcgjaaMH

section
set_option linter.unusedVariables false
set_option linter.unusedSimpArgs false
set_option linter.unusedSectionVars false
/- Regions of any order: guarded operations whose guards hold, and calls. -/
set_option linter.unusedVariables false
set_option linter.unusedSimpArgs false
set_option maxRecDepth 10000
namespace Go.X
open Go

/-- A pure operation that has a guard that holds may be run first. -/
theorem any_takeG {X : Cx} {st : St} {K : Ex → St → Prop} (i : Nat) {d : Nat} {o : Oper} {π : GP} {pre : Option Prop} {v : SV} {ops : Array Oper} {fuel : Nat} {listed : Array Bool} (hX : X.Ok) (hr : X.r = none) (ho : ops[i]? = some o) (hd : o.dst = some d)
    (hg : guardOf ops.toList (findF st.F) o.guard = some π) (hsat : satGP (findF st.F) π)
    (hc : core X.T (findF st.F) [] (fun _ => none) st.nx o.op = some ⟨pre, v, .no⟩) (hnc : isCall o.op = none) (hp : putN st.gs X.nt (some d) = false) (hs : Region.noSelect ops = true) (hf : Region.free .any ops listed i = true)
    (hrd : (Region.ready .any ops listed).contains i = true)
    (h : ChkO pre (stK st fun F gs H nx D => fSV v fun v' => AnyS X ops fuel (listed.setIfInBounds i true) ⟨(d, ⟨[], v'⟩) :: F, gs, H, nx, D⟩ K)) : AnyS X ops (fuel + 1) listed st K := by
  refine ⟨fun ρ a w hm => ?_⟩
  have hsat0 : GPsat a [] := fun x hx => by cases hx
  have hsatπ := satGP_ok hm.fm hsat
  have hHρ : ∀ w : World, HM ρ (fun _ => none) w := fun w => {
    ok := fun _ _ h => by cases h
    sep := fun _ _ _ _ _ _ _ h => by cases h
    ro := fun _ _ _ _ _ _ h => by cases h
    fam := fun _ ⟨_, _, _, _, _, _, h, _⟩ => by cases h }
  have hk := ChkO_k h
  rw [stK_eq, fSV_eq] at hk
  have hall : ∀ w : World, ∃ u, (execOp a.eval o).run X.P w = .ok (.value u) w ∧ den ρ v = some u := fun w => by
    exact core_ok hX.tab hm.fm hsat0 (hHρ w) (hm.nx _ (Nat.le_refl _)) hc (ChkO_pre h)
  obtain ⟨u, _, hu⟩ := hall w
  have hw := (guardOf_ok hm.fm hg).2 hsatπ
  have hy : YieldsFenced X.P ops o u a := by
    refine ⟨.inl ⟨?_, fun w => ?_⟩, fun w => ?_⟩
    · simpa using hw
    · obtain ⟨u', h1, h2⟩ := hall w
      rw [hu] at h2; cases h2
      exact h1
    · unfold Oper.about
      cases hop : o.op <;> first | rfl | (rw [hop] at hnc; cases hnc)
  refine wpAnyIn_take (by rw [FW_round, hr]) ho hs hf hrd (fun c a w h => h) hy ?_
  rw [hd]
  exact hk.h ρ _ w (hm.put hp hu)

def stepsG (X : Cx) (ops : Array Oper) (fuel : Nat) (listed : Array Bool) (st : St) (K : Ex → St → Prop) : List Nat → Prop
  | [] => True
  | i :: r => (match nth ops.toList i with
    | some o => (match guardOf ops.toList (findF st.F) o.guard with
      | some π => satGP (findF st.F) π ∧ execL X [{ o with guard := none }] (Qst X ops fuel (listed.setIfInBounds i true) K) (fun st' => AnyS X ops fuel (listed.setIfInBounds i true) st' K) (fun _ _ => False) 0 [{ o with guard := none }] st
      | none => False)
    | none => False) ∧ stepsG X ops fuel listed st K r
theorem stepsG_ok {X : Cx} {ops : Array Oper} {fuel : Nat} {listed : Array Bool} {st : St} {K : Ex → St → Prop} (hX : X.Ok) : ∀ {l : List Nat}, stepsG X ops fuel listed st K l → ∀ i ∈ l, ∀ ρ a w, Mod X ρ st a w →
    wpOpIn (FW X.r) 0 X.P ops (Qnp X K) i (wpAnyIn (FW X.r) 0 X.P .any ops (Qnp X K) fuel (listed.setIfInBounds i true)) a w
  | j :: r, h, i, hi, ρ, a, w, hm => by
    rcases List.mem_cons.1 hi with rfl | hi
    · have h1 := h.1
      split at h1
      · rename_i o e
        rw [nth_eq] at e
        have e : ops[i]? = some o := by simpa [Array.getElem?_toList] using e
        split at h1
        · rename_i π hg
          obtain ⟨hsat, h1⟩ := h1
          have hw : Region.wanted o (yielded ops a.tmps) = true := by
            have := (guardOf_ok hm.fm hg).2 (satGP_ok hm.fm hsat)
            simpa using this
          have h2 := execL_ok hX (cont_any (X := X) (ops := ops) (fuel := fuel) (listed := listed.setIfInBounds i true) (K := K)).k cont_any.p [{ o with guard := none }] 0 ρ st a w rfl h1 hm
          have h2 : wpOpsIn (FW X.r) 0 X.P #[{ o with guard := none }] (Qst X ops fuel (listed.setIfInBounds i true) K) [0] a w := h2
          simp only [wpOpsIn] at h2
          have hw0 : ∀ y, Region.wanted { o with guard := none } y = true := fun y => guard_none rfl y
          simp only [List.getElem?_toArray, List.getElem?_cons_zero, hw0, if_true] at h2
          unfold wpOpIn
          simp only [e, hw, if_true]
          have h3 : Oper.wpIn (FW X.r) 0 X.P o a w (wpAnyIn (FW X.r) 0 X.P .any ops (Qnp X K) fuel (listed.setIfInBounds i true)) (Qst X ops fuel (listed.setIfInBounds i true) K) := h2
          unfold Oper.wpIn at h3 ⊢
          refine ⟨h3.1, ?_⟩
          have h4 := h3.2
          generalize (o.semAt (FW X.r).round a.eval).run X.P w = res at h4 ⊢
          cases res with
          | ok x w' => cases x <;> exact h4
          | halt x w' => cases x <;> exact h4
        · exact h1.elim
      · exact h1.elim
    · exact stepsG_ok hX h.2 i hi ρ a w hm
theorem any_stepG {X : Cx} {st : St} {K : Ex → St → Prop} {ops : Array Oper} {fuel : Nat} {listed : Array Bool} (rs : List Nat) (hX : X.Ok) (hr : Region.ready .any ops listed = rs) (hne : rs ≠ []) (h : stepsG X ops fuel listed st K rs) : AnyS X ops (fuel + 1) listed st K :=
  ⟨fun ρ a w hm => wpAnyIn_all hr hne fun i hi => stepsG_ok hX h i hi ρ a w hm⟩
theorem any_forkG {X : Cx} {st : St} {K : Ex → St → Prop} {ops : Array Oper} {fuel : Nat} {listed : Array Bool} (rs : List Nat) (stC : St) (fuel' : Nat) (listed' : Array Bool) (hX : X.Ok) (hr : Region.ready .any ops listed = rs) (hne : rs ≠ [])
    (hb : ∀ K : Ex → St → Prop, AnyS X ops fuel' listed' stC K → stepsG X ops fuel listed st K rs) (h : AnyS X ops fuel' listed' stC K) : AnyS X ops (fuel + 1) listed st K :=
  any_stepG rs hX hr hne (hb K h)
end Go.X
end
