/- TopWarmed answers true for all blocks, film, numbers, want, off and warmth, and its arguments read as before; no conditions. -/
import Derived.Test.YtipjgdkaocfapaaTWF
import Derived.Test.YtipjgdkaocfapaaRows

section
set_option linter.unusedVariables false
set_option linter.unusedSimpArgs false
set_option linter.unusedSectionVars false
/- TopWarmed answers true for all blocks, film, numbers, want, off and warmth, and its arguments read as before; no conditions. -/
set_option linter.unusedVariables false
set_option linter.unusedSimpArgs false
set_option maxRecDepth 100000
set_option maxHeartbeats 1600000
namespace Go.X.W
open Go Go.Proofs Go.X Go.ChangeShapes Go.WideShapes Go.ChangeAt Go.RowKit

def envS (l : List Nm) : Env := fun j => l[j]?
theorem envS_no {l : List Nm} (h : ∀ nm ∈ l, nm.owner = none) {j : Nat} {nm : Nm} {b : Nat} (h1 : envS l j = some nm) (h2 : nm.owner = some b) : False := by
  rw [h nm (List.mem_of_getElem? h1)] at h2; cases h2
theorem opened3 {W : World} {base : Nat} {H : Type} {enc : TypeId × Value → H} {args : Array Value} {ds : List (DataW H)} {p : List MemPlace} (hval : ∀ (j : Nat) t v, Try.f3.params[j]? = some t → args[j]? = some v → Value.okWide Try.prog W .any base t v)
    (hA : DataW.TrodAll enc Try.prog W 0 (fun _ => true) true Try.f3.params.toList args.toList ds p) : OpenedS Try.prog 3 W args.toList := by
  have e : Try.f3.params = #[22, 24, 25, 26, 5, 5, 5] := by kernel_rfl
  rw [e] at hval hA
  obtain ⟨v0, vs0, d0, ds0, p0, q0, hargs, rfl, rfl, h0, r0⟩ := trodAll_cons hA
  obtain ⟨v1, vs1, d1, ds1, p1, q1, rfl, rfl, rfl, h1, r1⟩ := trodAll_cons r0
  obtain ⟨v2, vs2, d2, ds2, p2, q2, rfl, rfl, rfl, h2, r2⟩ := trodAll_cons r1
  obtain ⟨v3, vs3, d3, ds3, p3, q3, rfl, rfl, rfl, h3, r3⟩ := trodAll_cons r2
  obtain ⟨v4, vs4, d4, ds4, p4, q4, rfl, rfl, rfl, h4, r4⟩ := trodAll_cons r3
  obtain ⟨v5, vs5, d5, ds5, p5, q5, rfl, rfl, rfl, h5, r5⟩ := trodAll_cons r4
  obtain ⟨v6, vs6, d6, ds6, p6, q6, rfl, rfl, rfl, h6, r6⟩ := trodAll_cons r5
  obtain ⟨rfl, rfl, rfl⟩ := trodAll_nil r6
  obtain rfl : args = #[v0, v1, v2, v3, v4, v5, v6] := by cases args; simp_all
  obtain ⟨a', n', cap', rfl⟩ := okWide_slice und22 (hval 0 22 v0 rfl rfl)
  obtain ⟨fuel, hf⟩ := h0
  obtain ⟨a, n, cap, g, ecs, hn, hg, hb⟩ := open_blocks hf
  have ecs : [Value.slice a' n' cap'] = [.slice a n cap] := ecs
  injection ecs with ecs
  rw [ecs]
  obtain ⟨lo, hi, rfl, _, _⟩ := open_span (hval 1 24 v1 rfl rfl) h1
  obtain ⟨b, m, capb, o, rfl, hm, ho, hb1⟩ := open_u16s (hval 2 25 v2 rfl rfl) h2
  obtain ⟨x3, rfl, w3⟩ := open_num und26 (hval 3 26 v3 rfl rfl) h3
  obtain ⟨x4, rfl, w4⟩ := open_num und5 (hval 4 5 v4 rfl rfl) h4
  obtain ⟨x5, rfl, w5⟩ := open_num und5 (hval 5 5 v5 rfl rfl) h5
  obtain ⟨x6, rfl, w6⟩ := open_num und5 (hval 6 5 v6 rfl rfl) h6
  obtain ⟨P', hP'⟩ : ∃ P' : Par, P' = ⟨x3, x4, x5, x6, n, g, m, o, lo, hi⟩ := ⟨_, rfl⟩
  have hno : ∀ b', ¬ Own (envS [.sl a n cap 6, .sl b m capb 1, .sl none 0 0 0]) (findH (H3 P')) b' := by
    rintro b' ⟨id, hb, nm, k1, k2, k3, k4⟩
    exact envS_no (by simp [Nm.owner]) k3 k4
  refine ⟨envS [.sl a n cap 6, .sl b m capb 1, .sl none 0 0 0], H3 P', A3 P', 3, ?_, hno, ?_, ?_, s3 fun hN => ?_⟩
  · refine ⟨fun id hb' hf => ?_, fun id id' x y nm nm' b' _ _ _ _ k1 _ k2 _ => ?_, fun _ _ _ _ _ b' _ _ _ _ => hno b', fun b' _ => hno b'⟩
    · by_cases e0 : id = 0
      · subst e0
        have hf : some (HB.ro 6 P'.N fun i => wbC (P'.g i)) = some hb' := hf
        cases hf
        exact ⟨_, rfl, by rw [hP']; exact hb _⟩
      by_cases e1 : id = 1
      · subst e1
        have hf : some (HB.ro 1 P'.m fun i => [.si .u16 (P'.o i)]) = some hb' := hf
        cases hf
        exact ⟨_, rfl, by rw [hP']; exact hb1 _⟩
      by_cases e2 : id = 2
      · subst e2
        have hf : some (HB.fam 4 (wbF P'.N P'.g)) = some hb' := hf
        cases hf
        refine ⟨_, rfl, rfl, ?_⟩
        rw [hP']
        rintro v k get ⟨i, hi, rfl, rfl, rfl⟩
        exact (hg i hi).2
      · have : findH (H3 P') id = none := by simp [H3, findH, Ne.symm e0, Ne.symm e1, Ne.symm e2]
        rw [this] at hf; cases hf
    · exact (envS_no (by simp [Nm.owner]) k1 k2).elim
  · intro j hj
    exact List.getElem?_eq_none hj
  · rw [hP']
    simp [A3, den, denL, Value.oneCell', envS]
  · rw [hP'] at hN ⊢
    exact ⟨hm, ho, hN, wf_u16 w3, wf_u8 w4, wf_u8 w5, wf_u8 w6, fun i hi => (hg i hi).1⟩

theorem lifted3 (os : Os) (started : os.Started) (H : Type) (enc : TypeId × Value → H) :
    ReturnsInHanded {} Try.checked os 3 .any (Ytipjgdkaocfapaa.Rows.topWarmedSpec.pre6 enc Try.prog Try.f3 Ytipjgdkaocfapaa.Rows.topWarmedRow.domain false) (Ytipjgdkaocfapaa.Rows.topWarmedSpec.post enc Try.prog Try.f3 false true false false) := by
  refine row_ofS (C := Try.checked) laidOut own started (by kernel_rfl) Try.func3 (tb := 4)
    (ChangeSpec.witness6 (enc := enc) (C := Try.checked) false ⟨#[], #[.slice none 0 0, .agg #[.int .i64 0, .int .i64 0], .slice none 0 0, .int .u16 0, .int .u8 0, .int .u8 0, .int .u8 0], []⟩ 8 (by kernel_rfl) (by kernel_rfl) (by kernel_rfl) (by kernel_rfl))
    rfl (by kernel_rfl) (by kernel_rfl) (by kernel_rfl) (fun ds hd => ?_) (fun W base args ds p hval hA => opened3 hval hA)
  match ds, hd with
  | [d0, d1, d2, d3, d4, d5, d6], _ => rfl

end Go.X.W

namespace Go.Proofs.Ytipjgdkaocfapaa
open Go Go.Proofs
theorem topWarmed_proved : Rows.TopWarmedSaid :=
  OpenClaim.holds_of_wide 3 Try.f3 rfl rfl rfl rfl rfl rfl rfl ⟨rfl, rfl, rfl, rfl, rfl⟩ rfl rfl rfl rfl rfl (by kernel_rfl) Try.func3 (by kernel_rfl)
    (of_decide_eq_true (by kernel_rfl)) (by unfold Func.isWrapper; rw [if_neg (of_decide_eq_false (by kernel_rfl))]; exact ⟨rfl, rfl⟩)
    (fun os st H enc _ => Go.X.W.lifted3 os st H enc)
#print axioms topWarmed_proved
end Go.Proofs.Ytipjgdkaocfapaa
end
