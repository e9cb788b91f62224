/- How certificates are opened. -/
import Derived.Test.YtknjpbmkpjcgjaaOG
import Derived.Test.YtknjpbmkpjcgjaaMC
import Derived.OpenShut

section
set_option linter.unusedVariables false
set_option linter.unusedSimpArgs false
set_option linter.unusedSectionVars false
/- Pass: arguments opened. -/
set_option linter.unusedVariables false
set_option linter.unusedSimpArgs false
set_option linter.unusedSectionVars false
set_option maxRecDepth 100000
set_option maxHeartbeats 1600000
namespace Go.X.Ps
open Go Go.Proofs Go.X Go.ChangeShapes Go.WideShapes Go.ChangeAt Go.RowKit Go.Joins

/-- A struct's field. -/
def fld (P : Program) (t i : Nat) : Field := match P.underlying t with
  | some (.struct fs) => (match fs[i]? with
    | some f => f
    | none => ⟨ "", 0, 0, false, "", "", 0⟩)
  | _ => ⟨ "", 0, 0, false, "", "", 0⟩
theorem und24 : Try.prog.underlying 24 = some (.struct #[fld Try.prog 24 0, fld Try.prog 24 1, fld Try.prog 24 2]) := by kernel_rfl
theorem fld24 : ((fld Try.prog 24 0).type = 3 ∧ (fld Try.prog 24 0).offset = 0) ∧ ((fld Try.prog 24 1).type = 3 ∧ (fld Try.prog 24 1).offset = 1) ∧ ((fld Try.prog 24 2).type = 22 ∧ (fld Try.prog 24 2).offset = 2) :=
  ⟨⟨by kernel_rfl, by kernel_rfl⟩, ⟨by kernel_rfl, by kernel_rfl⟩, ⟨by kernel_rfl, by kernel_rfl⟩⟩
theorem und5 : Try.prog.underlying 5 = some (.int .u8) := by kernel_rfl
theorem und22 : Try.prog.underlying 22 = some (.slice 49) := by kernel_rfl
theorem lay3 : lay Try.prog 3 3 = some [.i64] := by kernel_rfl
theorem lay49 : lay Try.prog 4 49 = some [.i64, .i64, .i64, .i64, .i64] := by kernel_rfl
theorem cells3 : Try.prog.cellsOf 3 = 1 := by kernel_rfl
theorem cells22 : Try.prog.cellsOf 22 = 1 := by kernel_rfl
theorem cells24 : Try.prog.cellsOf 24 = 3 := by kernel_rfl
theorem cells49 : Try.prog.cellsOf 49 = 5 := by kernel_rfl
theorem own : ownKnob Try.prog.godebug = none := by kernel_rfl
theorem laidOut : laidOutB Try.prog = true := by kernel_rfl
theorem wf_u8 {x : Int} (h : (Lit.int .u8 x).wf = true) : 0 ≤ x ∧ x < 256 := by
  simp only [Lit.wf, IntKind.min, IntKind.max, IntKind.signed, IntKind.bits, Bool.and_eq_true, decide_eq_true_eq] at h; simp at h; omega
def ppL (l : List Int) : Pp := ⟨l.getD 0 0, l.getD 1 0, l.getD 2 0, l.getD 3 0, l.getD 4 0⟩
section
variable {H : Type} {enc : TypeId × Value → H} {W : World} {base : Nat}
theorem open_pps {fuel : Nat} {cs : List Value} {x : DataW H × List MemPlace} (h : DataW.trod enc Try.prog W 0 (fun _ => true) true fuel 22 cs = some x) :
    ∃ (a : Option Addr) (n cap : Nat) (rd : Nat → Pp), cs = [.slice a n cap] ∧ n ≤ maxLen ∧ ∀ ρ : Env, HBok ρ W (.ro 5 n fun i => ppC (rd i)) (.sl a n cap 5) := by
  obtain ⟨a, n, cap, N, rfl, hm, hN, _, hk⟩ := open_ro und22 lay49 cells49 (by decide) h
  refine ⟨a, n, cap, fun i => ppL (N i), rfl, hm, fun ρ => ?_⟩
  have e : (fun i => intS [.i64, .i64, .i64, .i64, .i64] (N i)) = fun i => ppC (ppL (N i)) := by
    funext i
    have := hN i
    match hn : N i, this with
    | [x, y, z, u, w], _ => rfl
  have := hk ρ
  rw [e] at this
  exact this
/-- The value of certificates. -/
def paW (a : Option Addr) (n cap : Nat) (it ag : Int) : Value := .agg #[.int .i64 it, .int .i64 ag, .slice a n cap]
theorem open_pass {v : Value} {d : DataW H} {p : List MemPlace} (hv : Value.okWide Try.prog W .any base 24 v) (h : DataW.Trod enc Try.prog W 0 (fun _ => true) true 24 v d p) :
    ∃ (a : Option Addr) (n cap : Nat) (rd : Nat → Pp) (it ag : Int), v = paW a n cap it ag ∧ n ≤ maxLen ∧ ∀ ρ : Env, HBok ρ W (.ro 5 n fun i => ppC (rd i)) (.sl a n cap 5) := by
  obtain ⟨⟨ht0, ho0⟩, ⟨ht1, ho1⟩, ht2, ho2⟩ := fld24
  obtain ⟨cs, rfl, hsz⟩ := okWide_struct und24 hv
  obtain ⟨fuel, hf⟩ := h
  obtain ⟨xs, m, _, _, hl, hlen, hfd⟩ := DataW.trod_struct und24 hf
  match xs, hlen with
  | [y0, y1, y2], _ =>
    have h0 := hfd 0 (fld Try.prog 24 0) rfl
    have h1 := hfd 1 (fld Try.prog 24 1) rfl
    have h2 := hfd 2 (fld Try.prog 24 2) rfl
    rw [ht0, ho0, cells3] at h0
    rw [ht1, ho1, cells3] at h1
    rw [ht2, ho2, cells22] at h2
    obtain ⟨l⟩ := cs
    have hsz : l.length = 3 := by simpa [cells24] using hsz
    match l, hsz with
    | [e0, e1, e2], _ =>
      obtain ⟨a, n, cap, rd, f0, hm, hk⟩ := open_pps h2
      obtain ⟨n0, q1, q2, q3⟩ := trod_lay 3 3 _ _ _ _ lay3 h0
      obtain ⟨n1, r1, r2, r3⟩ := trod_lay 3 3 _ _ _ _ lay3 h1
      match n0, q1, n1, r1 with
      | [x], _, [y], _ =>
        have f0 : [e2] = [.slice a n cap] := f0
        have q2 : [e0] = [.int .i64 x] := q2
        have r2 : [e1] = [.int .i64 y] := r2
        cases f0
        cases q2
        cases r2
        exact ⟨a, n, cap, rd, x, y, rfl, hm, hk⟩
theorem open_num {t : TypeId} {k : IntKind} (ht : Try.prog.underlying t = some (.int k)) {v : Value} {d : DataW H} {p : List MemPlace} (hv : Value.okWide Try.prog W .any base t v) (h : DataW.Trod enc Try.prog W 0 (fun _ => true) true t v d p) :
    ∃ x : Int, v = .int k x ∧ (Lit.int k x).wf = true := by
  obtain ⟨x, rfl, _, _, wx⟩ := open_int ht hv h
  exact ⟨x, rfl, wx⟩
/-- Certificates, and more that holds no ids. -/
theorem opened_ps {f : Nat} {ct : Ct} (hk : COk Try.prog f ct) {a : Option Addr} {n cap : Nat} {rd : Nat → Pp} {it ag : Int} (hb : ∀ ρ : Env, HBok ρ W (.ro 5 n fun i => ppC (rd i)) (.sl a n cap 5))
    {r : List SV} {vs : List Value} (hd : ∀ ρ, denL ρ r = some vs) {p : Prop} (hct : ct 1 (.agg (paA 0 it ag) :: r) (findH [(0, .ro 5 n fun i => ppC (rd i))]) = some ⟨some p, none, .sb true, []⟩) (hp : p) : Opened Try.prog f W (paW a n cap it ag :: vs) := by
  refine ⟨(fun j => if j = 0 then some (Nm.sl a n cap 5) else none : Env), findH [(0, .ro 5 n fun i => ppC (rd i))], .agg (paA 0 it ag) :: r, 1, ct, some p, hk, ?_, ?_, ?_, hct, hp⟩
  · intro id hb' hf
    by_cases h0 : id = 0
    · subst h0
      have hf : some (HB.ro 5 n fun i => ppC (rd i)) = some hb' := hf
      cases hf
      exact ⟨_, rfl, hb _, rfl⟩
    · have : findH [(0, HB.ro 5 n fun i => ppC (rd i))] id = none := by simp [findH, Ne.symm h0]
      rw [this] at hf; cases hf
  · intro j hj
    show (if j = 0 then _ else none) = none
    rw [if_neg (by omega)]
  · refine denL_mk ?_ (hd _)
    simp [paA, paW, den, denL, Value.oneCell']
end
end Go.X.Ps
end
