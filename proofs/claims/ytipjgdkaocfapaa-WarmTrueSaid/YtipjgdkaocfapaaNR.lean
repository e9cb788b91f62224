/- How slices of small numbers are opened. -/
import Derived.Test.YtipjgdkaocfapaaNK

section
set_option linter.unusedVariables false
set_option linter.unusedSimpArgs false
set_option linter.unusedSectionVars false
/- Warm: arguments opened: a block, a slice of small numbers, and more; a reading. -/
set_option linter.unusedVariables false
set_option linter.unusedSimpArgs false
set_option linter.unusedSectionVars false
set_option maxRecDepth 100000
set_option maxHeartbeats 1600000
namespace Go.X.W
open Go Go.Proofs Go.X Go.ChangeShapes Go.WideShapes Go.ChangeAt Go.RowKit Go.Joins

theorem und70 : Try.prog.underlying 70 = some (.slice 5) := by kernel_rfl
theorem lay5 : lay Try.prog 3 5 = some [.u8] := by kernel_rfl
theorem cells5 : Try.prog.cellsOf 5 = 1 := by kernel_rfl
theorem und25 : Try.prog.underlying 25 = some (.slice 26) := by kernel_rfl
theorem lay26 : lay Try.prog 3 26 = some [.u16] := by kernel_rfl
theorem cells26 : Try.prog.cellsOf 26 = 1 := by kernel_rfl
section
variable {W : World} {base : Nat} {H : Type} {enc : TypeId × Value → H}
theorem open_u8s {v : Value} {d : DataW H} {p : List MemPlace} (hv : Value.okWide Try.prog W .any base 70 v) (h : DataW.Trod enc Try.prog W 0 (fun _ => true) true 70 v d p) :
    ∃ (a : Option Addr) (n cap : Nat) (f : Nat → Int), v = .slice a n cap ∧ n ≤ maxLen ∧ (∀ j, j < n → 0 ≤ f j ∧ f j < 256) ∧ ∀ ρ : Env, HBok ρ W (.ro 1 n fun i => [.si .u8 (f i)]) (.sl a n cap 1) := by
  obtain ⟨a', n', cap', rfl⟩ := okWide_slice und70 hv
  obtain ⟨fuel, hf⟩ := h
  obtain ⟨a, n, cap, N, hcs, hm, hN, hw, hk⟩ := open_ro und70 lay5 cells5 (by decide) hf
  have hcs : [Value.slice a' n' cap'] = [.slice a n cap] := hcs
  refine ⟨a, n, cap, fun i => (N i).getD 0 0, (by injection hcs), hm, fun j hj => ?_, fun ρ => ?_⟩
  · have h1 := hN j
    have h2 := hw j hj
    match hn : N j, h1 with
    | [x], _ =>
      rw [hn] at h2
      show 0 ≤ (N j).getD 0 0 ∧ (N j).getD 0 0 < 256
      rw [hn]
      exact wf_u8 (h2 (.u8, x) (by simp))
  · have e : (fun i => intS [.u8] (N i)) = fun i => [SV.si .u8 ((N i).getD 0 0)] := by
      funext i
      have := hN i
      match hn : N i, this with
      | [x], _ => rfl
    have := hk ρ
    rw [e] at this
    exact this
theorem open_u16s {v : Value} {d : DataW H} {p : List MemPlace} (hv : Value.okWide Try.prog W .any base 25 v) (h : DataW.Trod enc Try.prog W 0 (fun _ => true) true 25 v d p) :
    ∃ (a : Option Addr) (n cap : Nat) (f : Nat → Int), v = .slice a n cap ∧ n ≤ maxLen ∧ (∀ j, j < n → 0 ≤ f j ∧ f j < 65536) ∧ ∀ ρ : Env, HBok ρ W (.ro 1 n fun i => [.si .u16 (f i)]) (.sl a n cap 1) := by
  obtain ⟨a', n', cap', rfl⟩ := okWide_slice und25 hv
  obtain ⟨fuel, hf⟩ := h
  obtain ⟨a, n, cap, N, hcs, hm, hN, hw, hk⟩ := open_ro und25 lay26 cells26 (by decide) hf
  have hcs : [Value.slice a' n' cap'] = [.slice a n cap] := hcs
  refine ⟨a, n, cap, fun i => (N i).getD 0 0, (by injection hcs), hm, fun j hj => ?_, fun ρ => ?_⟩
  · have h1 := hN j
    have h2 := hw j hj
    match hn : N j, h1 with
    | [x], _ =>
      rw [hn] at h2
      show 0 ≤ (N j).getD 0 0 ∧ (N j).getD 0 0 < 65536
      rw [hn]
      exact wf_u16 (h2 (.u16, x) (by simp))
  · have e : (fun i => intS [.u16] (N i)) = fun i => [SV.si .u16 ((N i).getD 0 0)] := by
      funext i
      have := hN i
      match hn : N i, this with
      | [x], _ => rfl
    have := hk ρ
    rw [e] at this
    exact this
/-- A block, a slice of numbers, and more that holds no ids. -/
theorem opened_bo {f : Nat} {ct : Ct} (hk : COk Try.prog f ct) {a : Option Addr} {n cap : Nat} {rd : Nat → Rd} {mk l1 l2 c1 c2 : Int} (hb : ∀ ρ : Env, HBok ρ W (.ro 4 n fun i => rdC (rd i)) (.sl a n cap 4))
    {a' : Option Addr} {m cap' : Nat} {g : Nat → List SV} (hb' : ∀ ρ : Env, HBok ρ W (.ro 1 m g) (.sl a' m cap' 1)) {r : List SV} {vs : List Value} (hd : ∀ ρ, denL ρ r = some vs) {p : Prop}
    (hct : ct 2 (wA mk l1 l2 c1 c2 0 :: .sl 1 :: r) (findH [(0, .ro 4 n fun i => rdC (rd i)), (1, .ro 1 m g)]) = some ⟨some p, none, .sb true, []⟩) (hp : p) :
    Opened Try.prog f W (.agg #[.int .i64 mk, .int .i64 l1, .int .i64 l2, .int .i64 c1, .int .i64 c2, .slice a n cap] :: .slice a' m cap' :: vs) := by
  refine ⟨(fun j => if j = 0 then some (Nm.sl a n cap 4) else if j = 1 then some (Nm.sl a' m cap' 1) else none : Env), findH [(0, .ro 4 n fun i => rdC (rd i)), (1, .ro 1 m g)], wA mk l1 l2 c1 c2 0 :: .sl 1 :: r, 2, ct, some p, hk, ?_, ?_, ?_, ?_, ?_⟩
  · intro id hb2 hf
    by_cases h0 : id = 0
    · subst h0
      have hf : some (HB.ro 4 n fun i => rdC (rd i)) = some hb2 := hf
      cases hf
      exact ⟨_, rfl, hb _, rfl⟩
    · by_cases h1 : id = 1
      · subst h1
        have hf : some (HB.ro 1 m g) = some hb2 := hf
        cases hf
        exact ⟨_, rfl, hb' _, rfl⟩
      · have : findH [(0, HB.ro 4 n fun i => rdC (rd i)), (1, HB.ro 1 m g)] id = none := by simp [findH, Ne.symm h0, Ne.symm h1]
        rw [this] at hf; cases hf
  · intro j hj
    show (if j = 0 then _ else if j = 1 then _ else none) = none
    rw [if_neg (by omega), if_neg (by omega)]
  · refine denL_mk ?_ (denL_mk ?_ (hd _))
    · simp [wA, den, denL, Value.oneCell']
    · simp [den]
  · exact hct
  · exact hp
end
end Go.X.W
end
