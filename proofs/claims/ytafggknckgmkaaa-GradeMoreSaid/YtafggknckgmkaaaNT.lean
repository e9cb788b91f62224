/- How a slice of small numbers is opened. -/
import Derived.Test.YtafggknckgmkaaaNF

section
set_option linter.unusedVariables false
set_option linter.unusedSimpArgs false
set_option linter.unusedSectionVars false
/- Grade: arguments opened: a grade, numbers and a slice of small numbers; a slice of small numbers alone. -/
set_option linter.unusedVariables false
set_option linter.unusedSimpArgs false
set_option linter.unusedSectionVars false
set_option maxRecDepth 100000
set_option maxHeartbeats 1600000
namespace Go.X.Gr
open Go Go.Proofs Go.X Go.ChangeShapes Go.WideShapes Go.ChangeAt Go.RowKit Go.Joins

theorem und42 : Try.prog.underlying 42 = some (.slice 113) := by kernel_rfl
theorem lay113 : lay Try.prog 3 113 = some [.u16] := by kernel_rfl
theorem cells113 : Try.prog.cellsOf 113 = 1 := by kernel_rfl
theorem wf_u16 {x : Int} (h : (Lit.int .u16 x).wf = true) : 0 ≤ x ∧ x < 65536 := by
  simp only [Lit.wf, IntKind.min, IntKind.max, IntKind.signed, IntKind.bits, Bool.and_eq_true, decide_eq_true_eq] at h; simp at h; omega
section
variable {W : World} {base : Nat} {H : Type} {enc : TypeId × Value → H}
theorem open_u16s {v : Value} {d : DataW H} {p : List MemPlace} (hv : Value.okWide Try.prog W .any base 42 v) (h : DataW.Trod enc Try.prog W 0 (fun _ => true) true 42 v d p) :
    ∃ (a : Option Addr) (n cap : Nat) (f : Nat → Int), v = .slice a n cap ∧ n ≤ maxLen ∧ (∀ j, j < n → 0 ≤ f j ∧ f j < 65536) ∧ ∀ ρ : Env, HBok ρ W (.ro 1 n fun i => [.si .u16 (f i)]) (.sl a n cap 1) := by
  obtain ⟨a', n', cap', rfl⟩ := okWide_slice und42 hv
  obtain ⟨fuel, hf⟩ := h
  obtain ⟨a, n, cap, N, hcs, hm, hN, hw, hk⟩ := open_ro und42 lay113 cells113 (by decide) hf
  have hcs : [Value.slice a' n' cap'] = [.slice a n cap] := hcs
  refine ⟨a, n, cap, fun i => (N i).getD 0 0, (by injection hcs), hm, fun j hj => ?_, fun ρ => ?_⟩
  · have h1 := hN j
    have h2 := hw j hj
    match hn : N j, h1 with
    | [x], _ =>
      rw [hn] at h2
      show 0 ≤ (N j).getD 0 0 ∧ (N j).getD 0 0 < 65536
      rw [hn]
      exact wf_u16 (h2 (.u16, x) (by simp))
  · have e : (fun i => intS [.u16] (N i)) = fun i => [SV.si .u16 ((N i).getD 0 0)] := by
      funext i
      have := hN i
      match hn : N i, this with
      | [x], _ => rfl
    have := hk ρ
    rw [e] at this
    exact this
/-- A grade, values without ids, and a slice of numbers. -/
theorem opened_gs {f : Nat} {ct : Ct} (hk : COk Try.prog f ct) {a : Option Addr} {n cap : Nat} {rd : Nat → Int × Int} {g : Pts} (hb : ∀ ρ : Env, HBok ρ W (.ro 2 n fun i => liC (rd i)) (.sl a n cap 2))
    {a' : Option Addr} {m cap' : Nat} {o : Nat → List SV} (hb' : ∀ ρ : Env, HBok ρ W (.ro 1 m o) (.sl a' m cap' 1)) {r : List SV} {vs : List Value} (hd : ∀ ρ, denL ρ r = some vs) {p : Prop}
    (hct : ct 2 (.agg (grA 0 g) :: (r ++ [.sl 1])) (findH [(0, .ro 2 n fun i => liC (rd i)), (1, .ro 1 m o)]) = some ⟨some p, none, .sb true, []⟩) (hp : p) :
    Opened Try.prog f W (grW a n cap g :: (vs ++ [.slice a' m cap'])) := by
  refine ⟨(fun j => if j = 0 then some (Nm.sl a n cap 2) else if j = 1 then some (Nm.sl a' m cap' 1) else none : Env), findH [(0, .ro 2 n fun i => liC (rd i)), (1, .ro 1 m o)], .agg (grA 0 g) :: (r ++ [.sl 1]), 2, ct, some p, hk, ?_, ?_, ?_, ?_, ?_⟩
  · intro id hb2 hf
    by_cases h0 : id = 0
    · subst h0
      have hf : some (HB.ro 2 n fun i => liC (rd i)) = some hb2 := hf
      cases hf
      exact ⟨_, rfl, hb _, rfl⟩
    · by_cases h1 : id = 1
      · subst h1
        have hf : some (HB.ro 1 m o) = some hb2 := hf
        cases hf
        exact ⟨_, rfl, hb' _, rfl⟩
      · have : findH [(0, HB.ro 2 n fun i => liC (rd i)), (1, HB.ro 1 m o)] id = none := by simp [findH, Ne.symm h0, Ne.symm h1]
        rw [this] at hf; cases hf
  · intro j hj
    show (if j = 0 then _ else if j = 1 then _ else none) = none
    rw [if_neg (by omega), if_neg (by omega)]
  · refine denL_mk ?_ (denL_append (hd _) (denL_mk (u := .slice a' m cap') ?_ rfl))
    · simp [grA, grW, den, denL, Value.oneCell']
    · simp [den]
  · exact hct
  · exact hp
/-- A slice of numbers. -/
theorem opened_sl {f : Nat} {ct : Ct} (hk : COk Try.prog f ct) {a' : Option Addr} {m cap' : Nat} {o : Nat → List SV} (hb' : ∀ ρ : Env, HBok ρ W (.ro 1 m o) (.sl a' m cap' 1)) {p : Prop}
    (hct : ct 1 [.sl 0] (findH [(0, .ro 1 m o)]) = some ⟨some p, none, .sb true, []⟩) (hp : p) : Opened Try.prog f W [.slice a' m cap'] := by
  refine ⟨(fun j => if j = 0 then some (Nm.sl a' m cap' 1) else none : Env), findH [(0, .ro 1 m o)], [.sl 0], 1, ct, some p, hk, ?_, ?_, ?_, ?_, ?_⟩
  · intro id hb2 hf
    by_cases h0 : id = 0
    · subst h0
      have hf : some (HB.ro 1 m o) = some hb2 := hf
      cases hf
      exact ⟨_, rfl, hb' _, rfl⟩
    · have : findH [(0, HB.ro 1 m o)] id = none := by simp [findH, Ne.symm h0]
      rw [this] at hf; cases hf
  · intro j hj
    show (if j = 0 then _ else none) = none
    rw [if_neg (by omega)]
  · refine denL_mk (u := .slice a' m cap') ?_ rfl
    simp [den]
  · exact hct
  · exact hp
end
end Go.X.Gr
end
