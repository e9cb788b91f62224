/- How a grade is opened. -/
import Derived.Test.YtafggknckgmkaaaNB
import Derived.Test.YtafggknckgmkaaaMC
import Derived.OpenShut

section
set_option linter.unusedVariables false
set_option linter.unusedSimpArgs false
set_option linter.unusedSectionVars false
/- Grade: arguments opened. -/
set_option linter.unusedVariables false
set_option linter.unusedSimpArgs false
set_option linter.unusedSectionVars false
set_option maxRecDepth 100000
set_option maxHeartbeats 1600000
namespace Go.X.Gr
open Go Go.Proofs Go.X Go.ChangeShapes Go.WideShapes Go.ChangeAt Go.RowKit Go.Joins

/-- A struct's field. -/
def fld (P : Program) (t i : Nat) : Field := match P.underlying t with
  | some (.struct fs) => (match fs[i]? with
    | some f => f
    | none => ⟨ "", 0, 0, false, "", "", 0⟩)
  | _ => ⟨ "", 0, 0, false, "", "", 0⟩
theorem und27 : Try.prog.underlying 27 = some (.struct #[fld Try.prog 27 0, fld Try.prog 27 1, fld Try.prog 27 2]) := by kernel_rfl
theorem fld27 : ((fld Try.prog 27 0).type = 22 ∧ (fld Try.prog 27 0).offset = 0) ∧ ((fld Try.prog 27 1).type = 25 ∧ (fld Try.prog 27 1).offset = 1) ∧ ((fld Try.prog 27 2).type = 3 ∧ (fld Try.prog 27 2).offset = 11) :=
  ⟨⟨by kernel_rfl, by kernel_rfl⟩, ⟨by kernel_rfl, by kernel_rfl⟩, ⟨by kernel_rfl, by kernel_rfl⟩⟩
theorem und3 : Try.prog.underlying 3 = some (.int .i64) := by kernel_rfl
theorem und22 : Try.prog.underlying 22 = some (.slice 51) := by kernel_rfl
theorem lay3 : lay Try.prog 3 3 = some [.i64] := by kernel_rfl
theorem lay51 : lay Try.prog 4 51 = some [.i64, .i64] := by kernel_rfl
theorem lay24 : lay Try.prog 3 24 = some [.i64, .i64] := by kernel_rfl
theorem und25 : Try.prog.underlying 25 = some (.array 5 24) := by kernel_rfl
theorem cells24 : Try.prog.cellsOf 24 = 2 := by kernel_rfl
theorem cells3 : Try.prog.cellsOf 3 = 1 := by kernel_rfl
theorem cells22 : Try.prog.cellsOf 22 = 1 := by kernel_rfl
theorem cells25 : Try.prog.cellsOf 25 = 10 := by kernel_rfl
theorem cells27 : Try.prog.cellsOf 27 = 12 := by kernel_rfl
theorem cells51 : Try.prog.cellsOf 51 = 2 := by kernel_rfl
theorem own : ownKnob Try.prog.godebug = none := by kernel_rfl
theorem laidOut : laidOutB Try.prog = true := by kernel_rfl
section
variable {H : Type} {enc : TypeId × Value → H} {W : World} {base : Nat}
theorem open_lims {fuel : Nat} {cs : List Value} {x : DataW H × List MemPlace} (h : DataW.trod enc Try.prog W 0 (fun _ => true) true fuel 22 cs = some x) :
    ∃ (a : Option Addr) (n cap : Nat) (rd : Nat → Int × Int), cs = [.slice a n cap] ∧ n ≤ maxLen ∧ ∀ ρ : Env, HBok ρ W (.ro 2 n fun i => liC (rd i)) (.sl a n cap 2) := by
  obtain ⟨a, n, cap, N, rfl, hm, hN, _, hk⟩ := open_ro und22 lay51 cells51 (by decide) h
  refine ⟨a, n, cap, fun i => ((N i).getD 0 0, (N i).getD 1 0), rfl, hm, fun ρ => ?_⟩
  have e : (fun i => intS [.i64, .i64] (N i)) = fun i => liC ((N i).getD 0 0, (N i).getD 1 0) := by
    funext i
    have := hN i
    match hn : N i, this with
    | [x, y], _ => rfl
  have := hk ρ
  rw [e] at this
  exact this
theorem open_two {fuel : Nat} {c d : Value} {x : DataW H × List MemPlace} (h : DataW.trod enc Try.prog W 0 (fun _ => true) true fuel 24 [c, d] = some x) : ∃ lo hi : Int, c = .int .i64 lo ∧ d = .int .i64 hi := by
  obtain ⟨ns, q1, q2, q3⟩ := trod_lay 3 24 _ fuel _ _ lay24 h
  match ns, q1 with
  | [x, y], _ =>
    have q2 : [c, d] = [.int .i64 x, .int .i64 y] := q2
    cases q2
    exact ⟨x, y, rfl, rfl⟩
/-- The value of a grade. -/
def grW (a : Option Addr) (n cap : Nat) (g : Pts) : Value := .agg #[.slice a n cap, .int .i64 g.l0, .int .i64 g.h0, .int .i64 g.l1, .int .i64 g.h1, .int .i64 g.l2, .int .i64 g.h2, .int .i64 g.l3, .int .i64 g.h3, .int .i64 g.l4, .int .i64 g.h4, .int .i64 g.st]
theorem open_grade {v : Value} {d : DataW H} {p : List MemPlace} (hv : Value.okWide Try.prog W .any base 27 v) (h : DataW.Trod enc Try.prog W 0 (fun _ => true) true 27 v d p) :
    ∃ (a : Option Addr) (n cap : Nat) (rd : Nat → Int × Int) (g : Pts), v = grW a n cap g ∧ n ≤ maxLen ∧ ∀ ρ : Env, HBok ρ W (.ro 2 n fun i => liC (rd i)) (.sl a n cap 2) := by
  obtain ⟨⟨ht0, ho0⟩, ⟨ht1, ho1⟩, ht2, ho2⟩ := fld27
  obtain ⟨cs, rfl, hsz⟩ := okWide_struct und27 hv
  obtain ⟨fuel, hf⟩ := h
  obtain ⟨xs, m, _, _, hl, hlen, hfd⟩ := DataW.trod_struct und27 hf
  match xs, hlen with
  | [y0, y1, y2], _ =>
    have h0 := hfd 0 (fld Try.prog 27 0) rfl
    have h1 := hfd 1 (fld Try.prog 27 1) rfl
    have h2 := hfd 2 (fld Try.prog 27 2) rfl
    rw [ht0, ho0, cells22] at h0
    rw [ht1, ho1, cells25] at h1
    rw [ht2, ho2, cells3] at h2
    obtain ⟨l⟩ := cs
    have hsz : l.length = 12 := by simpa [cells27] using hsz
    match l, hsz with
    | [e0, e1, e2, e3, e4, e5, e6, e7, e8, e9, e10, e11], _ =>
      obtain ⟨a, n, cap, rd, f0, hm, hk⟩ := open_lims h0
      obtain ⟨n0, q1, q2, q3⟩ := trod_lay 3 3 _ _ _ _ lay3 h2
      obtain ⟨zs, m2, _, _, _, hz, hel⟩ := DataW.trod_array und25 h1
      match zs, hz with
      | [z0, z1, z2, z3, z4], _ =>
        have k0 := hel 0 (by decide)
        have k1 := hel 1 (by decide)
        have k2 := hel 2 (by decide)
        have k3 := hel 3 (by decide)
        have k4 := hel 4 (by decide)
        rw [cells24] at k0 k1 k2 k3 k4
        obtain ⟨l0, u0, a0, b0⟩ := open_two (c := e1) (d := e2) k0
        obtain ⟨l1, u1, a1, b1⟩ := open_two (c := e3) (d := e4) k1
        obtain ⟨l2, u2, a2, b2⟩ := open_two (c := e5) (d := e6) k2
        obtain ⟨l3, u3, a3, b3⟩ := open_two (c := e7) (d := e8) k3
        obtain ⟨l4, u4, a4, b4⟩ := open_two (c := e9) (d := e10) k4
        match n0, q1 with
        | [x], _ =>
          have f0 : [e0] = [.slice a n cap] := f0
          have q2 : [e11] = [.int .i64 x] := q2
          cases f0
          cases q2
          subst a0 b0 a1 b1 a2 b2 a3 b3 a4 b4
          exact ⟨a, n, cap, rd, ⟨l0, u0, l1, u1, l2, u2, l3, u3, l4, u4, x⟩, rfl, hm, hk⟩
theorem open_num {t : TypeId} {k : IntKind} (ht : Try.prog.underlying t = some (.int k)) {v : Value} {d : DataW H} {p : List MemPlace} (hv : Value.okWide Try.prog W .any base t v) (h : DataW.Trod enc Try.prog W 0 (fun _ => true) true t v d p) :
    ∃ x : Int, v = .int k x ∧ (Lit.int k x).wf = true := by
  obtain ⟨x, rfl, _, _, wx⟩ := open_int ht hv h
  exact ⟨x, rfl, wx⟩
/-- A grade, and more that holds no ids. -/
theorem opened_gr {f : Nat} {ct : Ct} (hk : COk Try.prog f ct) {a : Option Addr} {n cap : Nat} {rd : Nat → Int × Int} {g : Pts} (hb : ∀ ρ : Env, HBok ρ W (.ro 2 n fun i => liC (rd i)) (.sl a n cap 2))
    {r : List SV} {vs : List Value} (hd : ∀ ρ, denL ρ r = some vs) {p : Prop} (hct : ct 1 (.agg (grA 0 g) :: r) (findH [(0, .ro 2 n fun i => liC (rd i))]) = some ⟨some p, none, .sb true, []⟩) (hp : p) : Opened Try.prog f W (grW a n cap g :: vs) := by
  refine ⟨(fun j => if j = 0 then some (Nm.sl a n cap 2) else none : Env), findH [(0, .ro 2 n fun i => liC (rd i))], .agg (grA 0 g) :: r, 1, ct, some p, hk, ?_, ?_, ?_, hct, hp⟩
  · intro id hb' hf
    by_cases h0 : id = 0
    · subst h0
      have hf : some (HB.ro 2 n fun i => liC (rd i)) = some hb' := hf
      cases hf
      exact ⟨_, rfl, hb _, rfl⟩
    · have : findH [(0, HB.ro 2 n fun i => liC (rd i))] id = none := by simp [findH, Ne.symm h0]
      rw [this] at hf; cases hf
  · intro j hj
    show (if j = 0 then _ else none) = none
    rw [if_neg (by omega)]
  · refine denL_mk ?_ (hd _)
    simp [grA, grW, den, denL, Value.oneCell']
theorem lims_rd (n : Nat) (rd : Nat → Int × Int) : Lims n fun i => liC (rd i) := fun i _ => rfl
end
end Go.X.Gr
end
