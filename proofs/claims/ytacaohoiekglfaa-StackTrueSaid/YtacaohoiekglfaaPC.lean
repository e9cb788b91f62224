/- StackTrue answers true for every set of blocks, all numbers and every list of remainders, and its arguments read as before; no conditions. -/
import Derived.Test.YtacaohoiekglfaaNE
import Derived.Test.YtacaohoiekglfaaNC
import Derived.Test.YtacaohoiekglfaaRows

section
set_option linter.unusedVariables false
set_option linter.unusedSimpArgs false
set_option linter.unusedSectionVars false
/- StackTrue answers true for every set of blocks and all numbers, and its arguments read as before; no conditions. -/
set_option linter.unusedVariables false
set_option linter.unusedSimpArgs false
set_option maxRecDepth 100000
set_option maxHeartbeats 1600000
namespace Go.X.S
open Go Go.Proofs Go.X Go.ChangeShapes Go.WideShapes Go.ChangeAt Go.RowKit

theorem und42 : Try.prog.underlying 42 = some (.slice 41) := by kernel_rfl
theorem lay41 : lay Try.prog 3 41 = some [.u16] := by kernel_rfl
theorem cells41 : Try.prog.cellsOf 41 = 1 := by kernel_rfl
theorem open_u16s {W : World} {base : Nat} {H : Type} {enc : TypeId × Value → H} {v : Value} {d : DataW H} {p : List MemPlace} (hv : Value.okWide Try.prog W .any base 42 v) (h : DataW.Trod enc Try.prog W 0 (fun _ => true) true 42 v d p) :
    ∃ (a : Option Addr) (n cap : Nat) (f : Nat → Int), v = .slice a n cap ∧ n ≤ maxLen ∧ (∀ j, j < n → 0 ≤ f j ∧ f j < 65536) ∧ ∀ ρ : Env, HBok ρ W (.ro 1 n fun i => [.si .u16 (f i)]) (.sl a n cap 1) := by
  obtain ⟨a', n', cap', rfl⟩ := okWide_slice und42 hv
  obtain ⟨fuel, hf⟩ := h
  obtain ⟨a, n, cap, N, hcs, hm, hN, hw, hk⟩ := open_ro und42 lay41 cells41 (by decide) hf
  have hcs : [Value.slice a' n' cap'] = [.slice a n cap] := hcs
  refine ⟨a, n, cap, fun i => (N i).getD 0 0, (by injection hcs), hm, fun j hj => ?_, fun ρ => ?_⟩
  · have h1 := hN j
    have h2 := hw j hj
    match hn : N j, h1 with
    | [x], _ =>
      rw [hn] at h2
      show 0 ≤ (N j).getD 0 0 ∧ (N j).getD 0 0 < 65536
      rw [hn]
      exact wf_u16 (h2 (.u16, x) (by simp))
  · have e : (fun i => intS [.u16] (N i)) = fun i => [SV.si .u16 ((N i).getD 0 0)] := by
      funext i
      have := hN i
      match hn : N i, this with
      | [x], _ => rfl
    have := hk ρ
    rw [e] at this
    exact this

theorem law5_row {W : World} {base : Nat} {H : Type} {enc : TypeId × Value → H} {args : Array Value} {ds : List (DataW H)} {p : List MemPlace} (hval : ∀ (j : Nat) t v, Try.f5.params[j]? = some t → args[j]? = some v → Value.okWide Try.prog W .any base t v)
    (hA : DataW.TrodAll enc Try.prog W 0 (fun _ => true) true Try.f5.params.toList args.toList ds p) : LawEnd Try.prog 5 W args.toList := by
  have e : Try.f5.params = #[26, 5, 41, 5, 42] := by kernel_rfl
  rw [e] at hval hA
  obtain ⟨v0, vs0, d0, ds0, p0, q0, hargs, rfl, rfl, h0, r0⟩ := trodAll_cons hA
  obtain ⟨v1, vs1, d1, ds1, p1, q1, rfl, rfl, rfl, h1, r1⟩ := trodAll_cons r0
  obtain ⟨v2, vs2, d2, ds2, p2, q2, rfl, rfl, rfl, h2, r2⟩ := trodAll_cons r1
  obtain ⟨v3, vs3, d3, ds3, p3, q3, rfl, rfl, rfl, h3, r3⟩ := trodAll_cons r2
  obtain ⟨v4, vs4, d4, ds4, p4, q4, rfl, rfl, rfl, h4, r4⟩ := trodAll_cons r3
  obtain ⟨rfl, rfl, rfl⟩ := trodAll_nil r4
  obtain rfl : args = #[v0, v1, v2, v3, v4] := by cases args; simp_all
  obtain ⟨a, n, cap, sp, lo, hi, rfl, hn, _, _, hb⟩ := open_stack (hval 0 26 v0 rfl rfl) h0
  obtain ⟨x1, rfl, w1⟩ := open_num und5 (hval 1 5 v1 rfl rfl) h1
  have b1 := wf_u8 w1
  obtain ⟨x2, rfl, w2⟩ := open_num und41 (hval 2 41 v2 rfl rfl) h2
  have b2 := wf_u16 w2
  obtain ⟨x3, rfl, w3⟩ := open_num und5 (hval 3 5 v3 rfl rfl) h3
  have b3 := wf_u8 w3
  obtain ⟨a4, m, cap4, f, rfl, hm, hf, hb4⟩ := open_u16s (hval 4 42 v4 rfl rfl) h4
  have hro : RoH (envH [(HB.ro 2 n fun i => spanC (sp i), Nm.sl a n cap 2), (HB.ro 1 m fun i => [.si .u16 (f i)], Nm.sl a4 m cap4 1)])
      (findH (numbH 0 [(HB.ro 2 n fun i => spanC (sp i), Nm.sl a n cap 2), (HB.ro 1 m fun i => [.si .u16 (f i)], Nm.sl a4 m cap4 1)])) W := by
    refine roH_of fun q hq => ?_
    rcases List.mem_cons.1 hq with rfl | hq
    · exact ⟨hb, rfl⟩
    · rcases List.mem_cons.1 hq with rfl | hq
      · exact ⟨hb4, rfl⟩
      · cases hq
  exact law5 b1 b2 b3 hf hm hro (fun j hj => envH_none _ j hj) rfl

theorem lifted5 (os : Os) (started : os.Started) (H : Type) (enc : TypeId × Value → H) :
    ReturnsInHanded {} Try.checked os 5 .any (Ytacaohoiekglfaa.Rows.stackTrueSpec.pre6 enc Try.prog Try.f5 Ytacaohoiekglfaa.Rows.stackTrueRow.domain false) (Ytacaohoiekglfaa.Rows.stackTrueSpec.post enc Try.prog Try.f5 false true false false) := by
  refine row_law (C := Try.checked) laidOut own started (by kernel_rfl) Try.func5 (tb := 4)
    (ChangeSpec.witness6 (enc := enc) (C := Try.checked) false ⟨#[], #[.agg #[.slice none 0 0, .int .i64 0, .int .i64 0], .int .u8 0, .int .u16 0, .int .u8 0, .slice none 0 0], []⟩ 8 (by kernel_rfl) (by kernel_rfl) (by kernel_rfl) (by kernel_rfl))
    rfl (by kernel_rfl) (by kernel_rfl) (by kernel_rfl) (fun ds hd => ?_) (fun W base args ds p hval hA => law5_row hval hA)
  match ds, hd with
  | [d0, d1, d2, d3, d4], _ => rfl

end Go.X.S

namespace Go.Proofs.Ytacaohoiekglfaa
open Go Go.Proofs
theorem stackTrue_proved : Rows.StackTrueSaid :=
  OpenClaim.holds_of_wide 5 Try.f5 rfl rfl rfl rfl rfl rfl rfl ⟨rfl, rfl, rfl, rfl, rfl⟩ rfl rfl rfl rfl rfl (by kernel_rfl) Try.func5 (by kernel_rfl)
    (of_decide_eq_true (by kernel_rfl)) (by unfold Func.isWrapper; rw [if_neg (of_decide_eq_false (by kernel_rfl))]; exact ⟨rfl, rfl⟩)
    (fun os st H enc _ => Go.X.S.lifted5 os st H enc)
#print axioms stackTrue_proved
end Go.Proofs.Ytacaohoiekglfaa
end
