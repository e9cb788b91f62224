/- StackReads and StackLooks answer true; and how arguments are opened. -/
import Derived.Test.YtacaohoiekglfaaNB
import Derived.Test.YtacaohoiekglfaaMC

section
set_option linter.unusedVariables false
set_option linter.unusedSimpArgs false
set_option linter.unusedSectionVars false
/- Stack: StackReads answers true. -/
set_option linter.unusedVariables false
set_option linter.unusedSimpArgs false
set_option linter.unusedSectionVars false
set_option maxRecDepth 10000
set_option maxHeartbeats 1000000
namespace Go.X.S
open Go Go.Proofs Go.X

def c3 : Ct := stCt fun L _ _ r => match r with
  | [.si .i64 m, .agg [.si .i64 a, .si .i64 b]] => some (none, .sb true)
  | _ => none
theorem k3 {l : List (Nat × Ct)} (g0 : Good P T l) : COk P 3 c3 := by
  have g := g13 (g14 (g15 (g16 (g17 (g18 (g19 (g20 g0)))))))
  refine cok (C := tabC _) g.ok Try.func3 (c := code Try.f3) rfl fun fr args H out h hp => stWalk h hp fun n sp lo hi r p v Rv Rp hk hp hR => ?_
  split at hk
  · rename_i m a b
    cases hk
    refine ⟨Nat.le_of_ble_eq_true rfl, fun G hG => ?_⟩
    refine Chk.mk ⟨spans_sp _ _, rfl, trivial⟩ ?_
    refine Br.mk (fun h => ?_) (fun h => ?_)
    · exact hR _ _ rfl rfl
    · have h : decide ((40 : Int) < ((List.range n).map sp).length) = false := h
      have hl : ((List.range n).map sp).length ≤ 40 := by
        have := of_decide_eq_false h
        omega
      refine Chk.mk ⟨spans_sp _ _, rfl, hl⟩ ?_
      refine Chk.mk ⟨spans_sp _ _, rfl, hl⟩ ?_
      refine Chk.mk ⟨spans_sp _ _, rfl, hl⟩ ?_
      refine Chk.mk ⟨spans_sp _ _, rfl, hl⟩ ?_
      refine Chk.mk ⟨spans_sp _ _, rfl, hl⟩ ?_
      refine Chk.mk ⟨spans_sp _ _, rfl, hl⟩ ?_
      refine hR _ _ ?_ rfl
      show _ = true
      simp
  · cases hk
end Go.X.S
end

section
set_option linter.unusedVariables false
set_option linter.unusedSimpArgs false
set_option linter.unusedSectionVars false
/- Stack: StackLooks answers true. -/
set_option linter.unusedVariables false
set_option linter.unusedSimpArgs false
set_option linter.unusedSectionVars false
set_option maxRecDepth 10000
set_option maxHeartbeats 1000000
namespace Go.X.S
open Go Go.Proofs Go.X

def c4 : Ct := stCt fun L _ _ r => match r with
  | [.agg [.si .i64 a, .si .i64 b], .si .i64 len, .si .i64 c, .si .i64 d, .si .i64 e] => some (none, .sb true)
  | _ => none
theorem k4 {l : List (Nat × Ct)} (g0 : Good P T l) : COk P 4 c4 := by
  have g := g13 (g14 (g21 (g22 (g23 (g24 (g25 (g26 (g27 (g28 g0)))))))))
  refine cok (C := tabC _) g.ok Try.func4 (c := code Try.f4) rfl fun fr args H out h hp => stWalk h hp fun n sp lo hi r p v Rv Rp hk hp hR => ?_
  split at hk
  · rename_i a b len c d e
    cases hk
    refine ⟨Nat.le_of_ble_eq_true rfl, fun G hG => ?_⟩
    refine Chk.mk ⟨spans_sp _ _, rfl, trivial⟩ ?_
    refine Br.mk (fun h => ?_) (fun h => ?_)
    · exact hR _ _ rfl rfl
    · have h : decide ((40 : Int) < ((List.range n).map sp).length) = false := h
      have hl : ((List.range n).map sp).length ≤ 40 := by
        have := of_decide_eq_false h
        omega
      refine Chk.mk ⟨spans_sp _ _, rfl, hl⟩ ?_
      refine Chk.mk ⟨spans_sp _ _, rfl, hl⟩ ?_
      refine Chk.mk ⟨spans_sp _ _, rfl, hl⟩ ?_
      refine Chk.mk ⟨spans_sp _ _, rfl, hl⟩ ?_
      refine Chk.mk ⟨spans_sp _ _, rfl, hl⟩ ?_
      refine Chk.mk ⟨spans_sp _ _, rfl, hl⟩ ?_
      refine Chk.mk ⟨spans_sp _ _, rfl, hl⟩ ?_
      refine Chk.mk ⟨spans_sp _ _, rfl, hl⟩ ?_
      refine hR _ _ ?_ rfl
      show _ = true
      simp
  · cases hk
end Go.X.S
end

section
set_option linter.unusedVariables false
set_option linter.unusedSimpArgs false
set_option linter.unusedSectionVars false
/- Stack: arguments opened. -/
set_option linter.unusedVariables false
set_option linter.unusedSimpArgs false
set_option linter.unusedSectionVars false
set_option maxRecDepth 100000
set_option maxHeartbeats 1600000
namespace Go.X.S
open Go Go.Proofs Go.X Go.ChangeShapes Go.WideShapes Go.ChangeAt Go.RowKit Go.Joins

/-- A struct's field. -/
def fld (P : Program) (t i : Nat) : Field := match P.underlying t with
  | some (.struct fs) => (match fs[i]? with
    | some f => f
    | none => ⟨ "", 0, 0, false, "", "", 0⟩)
  | _ => ⟨ "", 0, 0, false, "", "", 0⟩
theorem und24 : Try.prog.underlying 24 = some (.struct #[fld Try.prog 24 0, fld Try.prog 24 1]) := by kernel_rfl
theorem und26 : Try.prog.underlying 26 = some (.struct #[fld Try.prog 26 0, fld Try.prog 26 1]) := by kernel_rfl
theorem fld26 : (fld Try.prog 26 0).type = 22 ∧ (fld Try.prog 26 0).offset = 0 ∧ (fld Try.prog 26 1).type = 24 ∧ (fld Try.prog 26 1).offset = 1 := ⟨by kernel_rfl, by kernel_rfl, by kernel_rfl, by kernel_rfl⟩
theorem und3 : Try.prog.underlying 3 = some (.int .i64) := by kernel_rfl
theorem und5 : Try.prog.underlying 5 = some (.int .u8) := by kernel_rfl
theorem und41 : Try.prog.underlying 41 = some (.int .u16) := by kernel_rfl
theorem wf_u8 {x : Int} (h : (Lit.int .u8 x).wf = true) : 0 ≤ x ∧ x < 256 := by
  simp only [Lit.wf, IntKind.min, IntKind.max, IntKind.signed, IntKind.bits, Bool.and_eq_true, decide_eq_true_eq] at h; simp at h; omega
theorem wf_u16 {x : Int} (h : (Lit.int .u16 x).wf = true) : 0 ≤ x ∧ x < 65536 := by
  simp only [Lit.wf, IntKind.min, IntKind.max, IntKind.signed, IntKind.bits, Bool.and_eq_true, decide_eq_true_eq] at h; simp at h; omega
theorem und22 : Try.prog.underlying 22 = some (.slice 24) := by kernel_rfl
theorem lay24 : lay Try.prog 3 24 = some [.i64, .i64] := by kernel_rfl
theorem cells24 : Try.prog.cellsOf 24 = 2 := by kernel_rfl
theorem cells26 : Try.prog.cellsOf 26 = 3 := by kernel_rfl
theorem cells22 : Try.prog.cellsOf 22 = 1 := by kernel_rfl
theorem own : ownKnob Try.prog.godebug = none := by kernel_rfl
theorem laidOut : laidOutB Try.prog = true := by kernel_rfl

section
variable {H : Type} {enc : TypeId × Value → H} {W : World} {base : Nat}

theorem open_spans {t : TypeId} {fuel : Nat} {cs : List Value} {x : DataW H × List MemPlace} (h : DataW.trod enc Try.prog W 0 (fun _ => true) true fuel 22 cs = some x) :
    ∃ (a : Option Addr) (n cap : Nat) (sp : Nat → Span), cs = [.slice a n cap] ∧ n ≤ maxLen ∧ ∀ ρ : Env, HBok ρ W (.ro 2 n fun i => spanC (sp i)) (.sl a n cap 2) := by
  obtain ⟨a, n, cap, N, rfl, hm, hN, _, hk⟩ := open_ro und22 lay24 cells24 (by decide) h
  refine ⟨a, n, cap, fun i => ((N i).getD 0 0, (N i).getD 1 0), rfl, hm, fun ρ => ?_⟩
  have e : (fun i => intS [.i64, .i64] (N i)) = fun i => spanC ((N i).getD 0 0, (N i).getD 1 0) := by
    funext i
    have := hN i
    match hn : N i, this with
    | [x, y], _ => rfl
  have := hk ρ
  rw [e] at this
  exact this

theorem open_span {v : Value} {d : DataW H} {p : List MemPlace} (hv : Value.okWide Try.prog W .any base 24 v) (h : DataW.Trod enc Try.prog W 0 (fun _ => true) true 24 v d p) :
    ∃ lo hi : Int, v = .agg #[.int .i64 lo, .int .i64 hi] ∧ (Lit.int .i64 lo).wf = true ∧ (Lit.int .i64 hi).wf = true := by
  obtain ⟨cs, rfl, hsz⟩ := okWide_struct und24 hv
  obtain ⟨fuel, hf⟩ := h
  obtain ⟨ns, q1, q2, q3⟩ := trod_lay 3 24 _ fuel _ _ lay24 hf
  match ns, q1 with
  | [x, y], _ =>
    refine ⟨x, y, ?_, q3 (.i64, x) (by simp), q3 (.i64, y) (by simp)⟩
    have q2 : cs.toList = [.int .i64 x, .int .i64 y] := q2
    congr 1
    exact Array.toList_inj.1 (by rw [q2])

theorem open_stack {v : Value} {d : DataW H} {p : List MemPlace} (hv : Value.okWide Try.prog W .any base 26 v) (h : DataW.Trod enc Try.prog W 0 (fun _ => true) true 26 v d p) :
    ∃ (a : Option Addr) (n cap : Nat) (sp : Nat → Span) (lo hi : Int), v = .agg #[.slice a n cap, .int .i64 lo, .int .i64 hi] ∧ n ≤ maxLen ∧ (Lit.int .i64 lo).wf = true ∧ (Lit.int .i64 hi).wf = true ∧
      ∀ ρ : Env, HBok ρ W (.ro 2 n fun i => spanC (sp i)) (.sl a n cap 2) := by
  obtain ⟨ht0, ho0, ht1, ho1⟩ := fld26
  obtain ⟨cs, rfl, hsz⟩ := okWide_struct und26 hv
  obtain ⟨fuel, hf⟩ := h
  obtain ⟨y0, y1, m, _, hl, h0, h1⟩ := trod_struct2 und26 hf
  rw [ht0, ho0, cells22] at h0
  rw [ht1, ho1, cells24] at h1
  obtain ⟨l⟩ := cs
  have hsz : l.length = 3 := by simpa [cells26] using hsz
  match l, hsz with
  | [c0, c1, c2], _ =>
    obtain ⟨a, n, cap, sp, e0, hm, hk⟩ := open_spans (t := 22) h0
    obtain ⟨ns, q1, q2, q3⟩ := trod_lay 3 24 _ _ _ _ lay24 h1
    match ns, q1 with
    | [x, y], _ =>
      have e0 : [c0] = [.slice a n cap] := e0
      have q2 : [c1, c2] = [.int .i64 x, .int .i64 y] := q2
      cases e0
      cases q2
      exact ⟨a, n, cap, sp, x, y, rfl, hm, q3 (.i64, x) (by simp), q3 (.i64, y) (by simp), hk⟩

theorem open_num {t : TypeId} {k : IntKind} (ht : Try.prog.underlying t = some (.int k)) {v : Value} {d : DataW H} {p : List MemPlace} (hv : Value.okWide Try.prog W .any base t v) (h : DataW.Trod enc Try.prog W 0 (fun _ => true) true t v d p) :
    ∃ x : Int, v = .int k x ∧ (Lit.int k x).wf = true := by
  obtain ⟨x, rfl, _, _, wx⟩ := open_int ht hv h
  exact ⟨x, rfl, wx⟩

/-- A set of blocks, and more that holds no ids. -/
theorem opened_st {f : Nat} {k : List Span → Int → Int → List SV → Option (Option Prop × SV)} (hk : COk Try.prog f (stCt k)) {a : Option Addr} {n cap : Nat} {sp : Nat → Span} {lo hi : Int}
    (hb : ∀ ρ : Env, HBok ρ W (.ro 2 n fun i => spanC (sp i)) (.sl a n cap 2)) {r : List SV} {vs : List Value} (hr : knL 0 [] r = true) (hd : ∀ ρ, denL ρ r = some vs) {p : Option Prop}
    (hkk : k ((List.range n).map sp) lo hi r = some (p, .sb true)) (hp : PreH p) : Opened Try.prog f W (.agg #[.slice a n cap, .int .i64 lo, .int .i64 hi] :: vs) := by
  refine ⟨(fun j => if j = 0 then some (Nm.sl a n cap 2) else none : Env), findH [(0, .ro 2 n fun i => spanC (sp i))], .agg [.sl 0, .si .i64 lo, .si .i64 hi] :: r, 1, stCt k, some (Spans n (fun i => spanC (sp i)) ∧ knL 0 [] r = true ∧ PreH p), hk, ?_, ?_, ?_, ?_, ?_⟩
  · intro id hb' hf
    by_cases h0 : id = 0
    · subst h0
      have hf : some (HB.ro 2 n fun i => spanC (sp i)) = some hb' := hf
      cases hf
      exact ⟨_, rfl, hb _, rfl⟩
    · have : findH [(0, HB.ro 2 n fun i => spanC (sp i))] id = none := by simp [findH, Ne.symm h0]
      rw [this] at hf; cases hf
  · intro j hj
    show (if j = 0 then _ else none) = none
    rw [if_neg (by omega)]
  · refine denL_mk ?_ (hd _)
    simp [den, denL, Value.oneCell']
  · have e : k (spanL n fun i => spanC (sp i)) lo hi r = some (p, .sb true) := hkk
    have e2 : sliceOf 2 (findH [(0, HB.ro 2 n fun i => spanC (sp i))]) 0 = some (n, fun i => spanC (sp i)) := rfl
    simp only [stCt, e2, e]
  · exact ⟨spans_sp _ _, hr, hp⟩
end

end Go.X.S
end
