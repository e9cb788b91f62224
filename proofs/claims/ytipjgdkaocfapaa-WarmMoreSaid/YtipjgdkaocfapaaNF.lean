/- The walk of WarmReads, and how arguments are opened. -/
import Derived.Test.YtipjgdkaocfapaaNE
import Derived.Test.YtipjgdkaocfapaaMC

section
set_option linter.unusedVariables false
set_option linter.unusedSimpArgs false
set_option linter.unusedSectionVars false
/- Warm: WarmReads answers true. -/
set_option linter.unusedVariables false
set_option linter.unusedSimpArgs false
set_option maxRecDepth 10000
set_option maxHeartbeats 4000000
namespace Go.X.W
open Go Go.Proofs Go.X

def c4 : Ct := wmCt fun B r => match r with
  | [.si .i64 q, .agg [.si .i64 lo, .si .i64 hi]] => some (none, .sb true)
  | _ => none
theorem k4 {l : List (Nat × Ct)} (g0 : Good P T l) : COk P 4 c4 := by
  have g := g23 (g24 (g19 (g25 (g26 (g27 (g28 (g29 (g30 (g31 good0)))))))))
  refine cok (C := tabC _) g.ok Try.func4 (c := code Try.f4) rfl fun fr args H out h hp => wmWalk h hp fun mk l1 l2 c1 c2 n rd r p v Rv Rp hk hp hR => ?_
  split at hk
  · rename_i q lo hi
    cases hk
    refine ⟨Nat.le_of_ble_eq_true rfl, fun G hG => ?_⟩
    refine Chk.mk ⟨rds_rd _ _, rfl, trivial⟩ ?_
    refine Br.mk (fun h => ?_) (fun h => ?_)
    · exact hR _ _ rfl rfl
    have h : decide ((40 : Int) < max (((rdL n fun i => rdC (rd i)).length : Nat) : Int) 0) = false := h
    have h : ¬ (40 : Int) < max (((rdL n fun i => rdC (rd i)).length : Nat) : Int) 0 := of_decide_eq_false h
    have hl : (rdL n fun i => rdC (rd i)).length ≤ 40 := by omega
    refine Chk.mk ⟨rds_rd _ _, rfl, trivial⟩ ?_
    refine Chk.mk ⟨rds_rd _ _, rfl, trivial⟩ ?_
    refine Chk.mk ⟨rds_rd _ _, rfl, trivial⟩ ?_
    refine Chk.mk ⟨rds_rd _ _, rfl, trivial⟩ ?_
    refine Chk.mk ⟨rds_rd _ _, rfl, hl⟩ ?_
    refine Chk.mk ⟨rds_rd _ _, rfl, hl⟩ ?_
    refine Chk.mk ⟨rds_rd _ _, rfl, trivial⟩ ?_
    refine Chk.mk ⟨rds_rd _ _, rfl, trivial⟩ ?_
    refine hR _ _ ?_ rfl
    show (_ : Bool) = true
    simp
  · cases hk
theorem g4 {l : List (Nat × Ct)} (g : Good P T l) : Good P T ((4, c4) :: l) := g.add (k4 g) (wmCt_mono _) (body_of Try.func4 (c := code Try.f4) rfl (by decide))
end Go.X.W
end

section
set_option linter.unusedVariables false
set_option linter.unusedSimpArgs false
set_option linter.unusedSectionVars false
/- Warm: arguments opened. -/
set_option linter.unusedVariables false
set_option linter.unusedSimpArgs false
set_option linter.unusedSectionVars false
set_option maxRecDepth 100000
set_option maxHeartbeats 1600000
namespace Go.X.W
open Go Go.Proofs Go.X Go.ChangeShapes Go.WideShapes Go.ChangeAt Go.RowKit Go.Joins

/-- A struct's field. -/
def fld (P : Program) (t i : Nat) : Field := match P.underlying t with
  | some (.struct fs) => (match fs[i]? with
    | some f => f
    | none => ⟨ "", 0, 0, false, "", "", 0⟩)
  | _ => ⟨ "", 0, 0, false, "", "", 0⟩
theorem und24 : Try.prog.underlying 24 = some (.struct #[fld Try.prog 24 0, fld Try.prog 24 1]) := by kernel_rfl
theorem und36 : Try.prog.underlying 36 = some (.struct #[fld Try.prog 36 0, fld Try.prog 36 1, fld Try.prog 36 2, fld Try.prog 36 3]) := by kernel_rfl
theorem fld36 : ((fld Try.prog 36 0).type = 3 ∧ (fld Try.prog 36 0).offset = 0) ∧ ((fld Try.prog 36 1).type = 24 ∧ (fld Try.prog 36 1).offset = 1) ∧ ((fld Try.prog 36 2).type = 24 ∧ (fld Try.prog 36 2).offset = 3) ∧ ((fld Try.prog 36 3).type = 34 ∧ (fld Try.prog 36 3).offset = 5) :=
  ⟨⟨by kernel_rfl, by kernel_rfl⟩, ⟨by kernel_rfl, by kernel_rfl⟩, ⟨by kernel_rfl, by kernel_rfl⟩, ⟨by kernel_rfl, by kernel_rfl⟩⟩
theorem und3 : Try.prog.underlying 3 = some (.int .i64) := by kernel_rfl
theorem und34 : Try.prog.underlying 34 = some (.slice 41) := by kernel_rfl
theorem lay3 : lay Try.prog 3 3 = some [.i64] := by kernel_rfl
theorem lay24 : lay Try.prog 3 24 = some [.i64, .i64] := by kernel_rfl
theorem lay41 : lay Try.prog 4 41 = some [.i64, .i64, .i64, .i64] := by kernel_rfl
theorem cells3 : Try.prog.cellsOf 3 = 1 := by kernel_rfl
theorem cells24 : Try.prog.cellsOf 24 = 2 := by kernel_rfl
theorem cells34 : Try.prog.cellsOf 34 = 1 := by kernel_rfl
theorem cells36 : Try.prog.cellsOf 36 = 6 := by kernel_rfl
theorem cells41 : Try.prog.cellsOf 41 = 4 := by kernel_rfl
theorem own : ownKnob Try.prog.godebug = none := by kernel_rfl
theorem laidOut : laidOutB Try.prog = true := by kernel_rfl

section
variable {H : Type} {enc : TypeId × Value → H} {W : World} {base : Nat}

theorem open_rds {fuel : Nat} {cs : List Value} {x : DataW H × List MemPlace} (h : DataW.trod enc Try.prog W 0 (fun _ => true) true fuel 34 cs = some x) :
    ∃ (a : Option Addr) (n cap : Nat) (rd : Nat → Rd), cs = [.slice a n cap] ∧ n ≤ maxLen ∧ ∀ ρ : Env, HBok ρ W (.ro 4 n fun i => rdC (rd i)) (.sl a n cap 4) := by
  obtain ⟨a, n, cap, N, rfl, hm, hN, _, hk⟩ := open_ro und34 lay41 cells41 (by decide) h
  refine ⟨a, n, cap, fun i => ((N i).getD 0 0, (N i).getD 1 0, (N i).getD 2 0, (N i).getD 3 0), rfl, hm, fun ρ => ?_⟩
  have e : (fun i => intS [.i64, .i64, .i64, .i64] (N i)) = fun i => rdC ((N i).getD 0 0, (N i).getD 1 0, (N i).getD 2 0, (N i).getD 3 0) := by
    funext i
    have := hN i
    match hn : N i, this with
    | [x, y, z, u], _ => rfl
  have := hk ρ
  rw [e] at this
  exact this

theorem open_span {v : Value} {d : DataW H} {p : List MemPlace} (hv : Value.okWide Try.prog W .any base 24 v) (h : DataW.Trod enc Try.prog W 0 (fun _ => true) true 24 v d p) :
    ∃ lo hi : Int, v = .agg #[.int .i64 lo, .int .i64 hi] ∧ (Lit.int .i64 lo).wf = true ∧ (Lit.int .i64 hi).wf = true := by
  obtain ⟨cs, rfl, hsz⟩ := okWide_struct und24 hv
  obtain ⟨fuel, hf⟩ := h
  obtain ⟨ns, q1, q2, q3⟩ := trod_lay 3 24 _ fuel _ _ lay24 hf
  match ns, q1 with
  | [x, y], _ =>
    refine ⟨x, y, ?_, q3 (.i64, x) (by simp), q3 (.i64, y) (by simp)⟩
    have q2 : cs.toList = [.int .i64 x, .int .i64 y] := q2
    congr 1
    exact Array.toList_inj.1 (by rw [q2])

theorem open_warm {v : Value} {d : DataW H} {p : List MemPlace} (hv : Value.okWide Try.prog W .any base 36 v) (h : DataW.Trod enc Try.prog W 0 (fun _ => true) true 36 v d p) :
    ∃ (a : Option Addr) (n cap : Nat) (rd : Nat → Rd) (mk l1 l2 c1 c2 : Int), v = .agg #[.int .i64 mk, .int .i64 l1, .int .i64 l2, .int .i64 c1, .int .i64 c2, .slice a n cap] ∧ n ≤ maxLen ∧
      ∀ ρ : Env, HBok ρ W (.ro 4 n fun i => rdC (rd i)) (.sl a n cap 4) := by
  obtain ⟨⟨ht0, ho0⟩, ⟨ht1, ho1⟩, ⟨ht2, ho2⟩, ht3, ho3⟩ := fld36
  obtain ⟨cs, rfl, hsz⟩ := okWide_struct und36 hv
  obtain ⟨fuel, hf⟩ := h
  obtain ⟨xs, m, _, _, hl, hlen, hfd⟩ := DataW.trod_struct und36 hf
  match xs, hlen with
  | [y0, y1, y2, y3], _ =>
    have h0 := hfd 0 (fld Try.prog 36 0) rfl
    have h1 := hfd 1 (fld Try.prog 36 1) rfl
    have h2 := hfd 2 (fld Try.prog 36 2) rfl
    have h3 := hfd 3 (fld Try.prog 36 3) rfl
    rw [ht0, ho0, cells3] at h0
    rw [ht1, ho1, cells24] at h1
    rw [ht2, ho2, cells24] at h2
    rw [ht3, ho3, cells34] at h3
    obtain ⟨l⟩ := cs
    have hsz : l.length = 6 := by simpa [cells36] using hsz
    match l, hsz with
    | [e0, e1, e2, e3, e4, e5], _ =>
      obtain ⟨a, n, cap, rd, f3, hm, hk⟩ := open_rds h3
      obtain ⟨n0, q1, q2, q3⟩ := trod_lay 3 3 _ _ _ _ lay3 h0
      obtain ⟨n1, r1, r2, r3⟩ := trod_lay 3 24 _ _ _ _ lay24 h1
      obtain ⟨n2, s1, s2, s3⟩ := trod_lay 3 24 _ _ _ _ lay24 h2
      match n0, q1, n1, r1, n2, s1 with
      | [x], _, [y, z], _, [u, w], _ =>
        have f3 : [e5] = [.slice a n cap] := f3
        have q2 : [e0] = [.int .i64 x] := q2
        have r2 : [e1, e2] = [.int .i64 y, .int .i64 z] := r2
        have s2 : [e3, e4] = [.int .i64 u, .int .i64 w] := s2
        cases f3
        cases q2
        cases r2
        cases s2
        exact ⟨a, n, cap, rd, x, y, z, u, w, rfl, hm, hk⟩

theorem open_num {t : TypeId} {k : IntKind} (ht : Try.prog.underlying t = some (.int k)) {v : Value} {d : DataW H} {p : List MemPlace} (hv : Value.okWide Try.prog W .any base t v) (h : DataW.Trod enc Try.prog W 0 (fun _ => true) true t v d p) :
    ∃ x : Int, v = .int k x ∧ (Lit.int k x).wf = true := by
  obtain ⟨x, rfl, _, _, wx⟩ := open_int ht hv h
  exact ⟨x, rfl, wx⟩

/-- A block, and more that holds no ids. -/
theorem opened_wm {f : Nat} {k : Blk → List SV → Option (Option Prop × SV)} (hk : COk Try.prog f (wmCt k)) {a : Option Addr} {n cap : Nat} {rd : Nat → Rd} {mk l1 l2 c1 c2 : Int}
    (hb : ∀ ρ : Env, HBok ρ W (.ro 4 n fun i => rdC (rd i)) (.sl a n cap 4)) {r : List SV} {vs : List Value} (hr : knL 0 [] r = true) (hd : ∀ ρ, denL ρ r = some vs) {p : Option Prop}
    (hkk : k ⟨mk, l1, l2, c1, c2, (List.range n).map rd⟩ r = some (p, .sb true)) (hp : PreH p) : Opened Try.prog f W (.agg #[.int .i64 mk, .int .i64 l1, .int .i64 l2, .int .i64 c1, .int .i64 c2, .slice a n cap] :: vs) := by
  refine ⟨(fun j => if j = 0 then some (Nm.sl a n cap 4) else none : Env), findH [(0, .ro 4 n fun i => rdC (rd i))], wA mk l1 l2 c1 c2 0 :: r, 1, wmCt k, some (Rds n (fun i => rdC (rd i)) ∧ knL 0 [] r = true ∧ PreH p), hk, ?_, ?_, ?_, ?_, ?_⟩
  · intro id hb' hf
    by_cases h0 : id = 0
    · subst h0
      have hf : some (HB.ro 4 n fun i => rdC (rd i)) = some hb' := hf
      cases hf
      exact ⟨_, rfl, hb _, rfl⟩
    · have : findH [(0, HB.ro 4 n fun i => rdC (rd i))] id = none := by simp [findH, Ne.symm h0]
      rw [this] at hf; cases hf
  · intro j hj
    show (if j = 0 then _ else none) = none
    rw [if_neg (by omega)]
  · refine denL_mk ?_ (hd _)
    simp [wA, den, denL, Value.oneCell']
  · have e : k ⟨mk, l1, l2, c1, c2, rdL n fun i => rdC (rd i)⟩ r = some (p, .sb true) := hkk
    have e2 : sliceOf 4 (findH [(0, HB.ro 4 n fun i => rdC (rd i))]) 0 = some (n, fun i => rdC (rd i)) := rfl
    simp only [wmCt, wA, e2, e]
  · exact ⟨rds_rd _ _, hr, hp⟩
end

end Go.X.W
end
