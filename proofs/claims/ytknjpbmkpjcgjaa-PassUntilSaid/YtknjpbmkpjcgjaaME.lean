/- Branches and orders that come together; deferred closures; what a range over a function yields to. -/
import Derived.Test.YtknjpbmkpjcgjaaMD

section
set_option linter.unusedVariables false
set_option linter.unusedSimpArgs false
set_option linter.unusedSectionVars false
/- Branches, and orders of a region, that come together again. -/
set_option linter.unusedVariables false
set_option linter.unusedSimpArgs false
set_option maxRecDepth 10000
namespace Go.X
open Go

theorem any_weaken {X : Cx} {st st' : St} {K : Ex → St → Prop} {ops : Array Oper} {fuel : Nat} {listed : Array Bool} (n0 : Nat) (s : Nat → Nat) (hn : ∀ j, n0 ≤ j → X.G.ρ j = none) (h : WeakR n0 s st st') (hk : AnyS X ops fuel listed st' K) : AnyS X ops fuel listed st K :=
  ⟨fun ρ a w hm => hk.h _ a w (hm.ren h hn)⟩
/-- Several operations are ready: by whichever order they run, the same state is reached, and what follows is looked at once. -/
theorem any_fork {X : Cx} {st : St} {K : Ex → St → Prop} {ops : Array Oper} {fuel : Nat} {listed : Array Bool} (rs : List Nat) (stC : St) (fuel' : Nat) (listed' : Array Bool) (hX : X.Ok) (hr : Region.ready .any ops listed = rs) (hne : rs ≠ [])
    (hb : ∀ K : Ex → St → Prop, AnyS X ops fuel' listed' stC K → stepsK X ops fuel listed st K rs) (h : AnyS X ops fuel' listed' stC K) : AnyS X ops (fuel + 1) listed st K :=
  any_step rs hX hr hne (hb K h)
/-- Two branches that come to the same code, and to states that say no less than a third one. -/
theorem br_join {p : Bool} {a b : Prop} {X : Cx} {c : Code} {st1 st2 : St} {K : Ex → St → Prop} (hX : X.Ok) (n0 : Nat) (hn : ∀ j, n0 ≤ j → X.G.ρ j = none) (stC : St) (s1 s2 : Nat → Nat) (ha : p = true → SemC X c st1 K → a) (hb : p = false → SemC X c st2 K → b)
    (w1 : p = true → WeakR n0 s1 st1 stC) (w2 : p = false → WeakR n0 s2 st2 stC) (h : exec X c stC K) : Br p a b :=
  ⟨fun hp => ha hp (weaken hX n0 s1 hn (w1 hp) h), fun hp => hb hp (weaken hX n0 s2 hn (w2 hp) h)⟩
end Go.X
end

section
set_option linter.unusedVariables false
set_option linter.unusedSimpArgs false
set_option linter.unusedSectionVars false
/- Branches that come together at an operation. -/
set_option linter.unusedVariables false
set_option linter.unusedSimpArgs false
set_option maxRecDepth 10000
namespace Go.X
open Go

theorem br_joinF {p : Bool} {a b : Prop} {X : Cx} {ops : List Oper} {Q : Exit → Act → World → Prop} {Kn : St → Prop} {Kp : List PanicEntry → St → Prop} {i : Nat} {o : Oper} {r : List Oper} {st1 st2 : St} (n0 : Nat) (hn : ∀ j, n0 ≤ j → X.G.ρ j = none) (stC : St) (s1 s2 : Nat → Nat)
    (ha : p = true → FbO X ops Q Kn Kp i o r st1 → a) (hb : p = false → FbO X ops Q Kn Kp i o r st2 → b)
    (w1 : p = true → WeakR n0 s1 st1 stC) (w2 : p = false → WeakR n0 s2 st2 stC) (h : FbO X ops Q Kn Kp i o r stC) : Br p a b :=
  ⟨fun hp => ha hp ⟨fun ρ a w hm => h.h _ a w (hm.ren (w1 hp) hn)⟩, fun hp => hb hp ⟨fun ρ a w hm => h.h _ a w (hm.ren (w2 hp) hn)⟩⟩
end Go.X
end

section
set_option linter.unusedVariables false
set_option linter.unusedSimpArgs false
set_option linter.unusedSectionVars false
/- Deferred closures that call recover, and hand what it gives to a function. -/
set_option linter.unusedVariables false
set_option linter.unusedSimpArgs false
set_option maxRecDepth 10000
namespace Go.X
open Go

/-- The first operation of a region is recover; the others are as ever. -/
theorem wpSIn_recover {F : Fence} {n : Nat} {P : Program} {Q : Exit → Act → List Frame → World → Prop} {a : Act} {cs cs' : List Frame} {w : World} {id : Nat} {ops : Array Oper} {o1 : Oper} {v : Value} (hro : F.round = none)
    (h0 : ops[0]? = some o1) (hg : o1.guard = none) (hab : ∀ f, o1.about P w a.eval = some f → F.fn f) (hrun : (execOp a.eval o1).run P w = .ok .recover w)
    (hrec : (match recoverD cs with
      | some (v', cs'') => v' = v ∧ cs'' = cs'
      | none => v = .nilIface ∧ cs' = cs))
    (h : wpOpsIn F n P ops (fun e a' w' => Q e a' cs' w') (List.range' 1 (ops.size - 1)) (a.put o1.dst v) w) : (Code.region id ops false).wpSIn F n P Q a cs w := by
  intro b k hb hr hF hroom
  have hsz : 0 < ops.size := (Array.getElem?_eq_some_iff.1 h0).1
  have hrange : List.range ops.size = 0 :: List.range' 1 (ops.size - 1) := by
    obtain ⟨m, hm⟩ : ∃ m, ops.size = m + 1 := ⟨ops.size - 1, by omega⟩
    rw [hm, List.range_eq_range', List.range'_succ]
    simp
  have hlen : cs'.length = cs.length := by
    split at hrec
    · rename_i e1
      obtain ⟨_, rfl⟩ := hrec
      exact recoverD_length e1
    · rw [hrec.2]
  obtain ⟨e, a', w', hq, harr⟩ := wp_opsIn _ _ _ h b k cs' (hr.trans hro.symm) hF (hlen ▸ hroom)
  refine ⟨e, a', cs', w', hlen, hq, .of_steps (.one (fenced_calm hF hroom rfl) stepR_region) ?_⟩
  rw [hrange]
  have hi0 : (lone (b.atR a (.inRegion ops (0 :: List.range' 1 (ops.size - 1)) :: k)) cs w).fenced P F := fenced_oper hF hroom h0 hab
  refine .of_steps (.one hi0 (step_lone_go ?_)) harr
  have hw : Region.wanted o1 (yielded ops a.tmps) = true := by simp [Region.wanted, hg]
  have hgo := stepGR_op (P := P) (b := b) (k := k) (cs := cs) (w := w) (rest := List.range' 1 (ops.size - 1)) h0 hw
  rw [hr, Oper.semAt_none] at hgo
  have hfin : ∀ v, (b.atR a (.inRegion ops (0 :: List.range' 1 (ops.size - 1)) :: k)).finish v = b.atR (a.put o1.dst v) (.inRegion ops (List.range' 1 (ops.size - 1)) :: k) := by
    intro v; rw [Frame.finish_atR, h0]; rfl
  have hk : (b.atR a (.inRegion ops (0 :: List.range' 1 (ops.size - 1)) :: k)).kind = .deferred := hb
  have htr := tryRecover_deferred hk cs
  split at hrec
  · rename_i e1
    obtain ⟨rfl, rfl⟩ := hrec
    rw [hgo, ← hfin]
    simp only [Frame.atR, hr] at htr ⊢
    simp [stepG.apply, hrun, htr, e1]
  · rename_i e1
    obtain ⟨rfl, rfl⟩ := hrec
    rw [hgo, ← hfin]
    simp only [Frame.atR, hr] at htr ⊢
    simp [stepG.apply, hrun, htr, e1]

/-- What a deferred closure does: nothing, or it lays the refusal's error. -/
structure AnswerC (P : Program) (n : Nat) (V : IntKind → Int → Value) (tErr : Nat) : Prop where
  body : Body P n
  ret : ∀ (w : World) (b : Nat) (x : Value), x.oneCell' = true → w.heap[b]? = some (.cells #[x] tErr (0, 0)) → CallsDIn Fence.wide 0 P n #[.pointer (some ⟨b, 0, none⟩)] .returning w fun e u' w' =>
    (∃ v, e = .returned v) ∧ u' = .returning ∧ w.heap.size ≤ w'.heap.size ∧ (∀ c, c < w.heap.size → w'.heap[c]? = w.heap[c]?) ∧ Str w w'
  pan : ∀ (w : World) (b : Nat) (x : Value) (k : IntKind) (m : Int), x.oneCell' = true → w.heap[b]? = some (.cells #[x] tErr (0, 0)) → CallsDIn Fence.wide 0 P n #[.pointer (some ⟨b, 0, none⟩)] (.panicking [{ v := V k m, recovered := false }]) w fun e u' w' =>
    (∃ v, e = .returned v) ∧ u' = .panicking [{ v := V k m, recovered := true }] ∧ w.heap.size ≤ w'.heap.size ∧ (∀ c, c < w.heap.size → c ≠ b → w'.heap[c]? = w.heap[c]?) ∧ w'.heap[b]? = some (.cells #[.int k m] tErr (0, 0)) ∧ Str w w'

/-- The operations behind recover, and the code behind their region. -/
def restX (X : Cx) (ops : List Oper) (Q : Exit → Act → World → Prop) (rest : Code) (K : Ex → St → Prop) (st : St) : Prop :=
  execL X ops Q (fun st => endRegion st (fun st => exec X rest st K)) (fun _ _ => False) 1 (match ops with
    | [] => []
    | _ :: r => r) st

section
variable {P : Program} {T : Tab} {C : Nat → Option Ct}
theorem answerC_of (hX : ∀ G r nt, (⟨P, T, C, G, r, nt⟩ : Cx).Ok) {n tErr : Nat} {V : IntKind → Int → Value} {Vs : IntKind → Int → SV} (hV : ∀ ρ k m, den ρ (Vs k m) = some (V k m)) {fn : Func} {id : Nat} {ops : Array Oper} {d1 : Nat}
    (hf : P.funcs[n]? = some fn) (hb : fn.body = some (.region id ops false)) (hn : (fn.name == "runtime.NumGoroutine") = false) (hres : fn.results = #[]) {o1 : Oper} {c : Call} (h0 : ops[0]? = some o1) (h1 : o1.op = .call c) (hc : c.callee = .builtin .recover)
    (hg1 : o1.guard = none) (hd1 : o1.dst = some d1) (hd10 : d1 ≠ 0) (hl1 : d1 < fn.ntmps)
    (he1 : ∀ (x : Value) (G : Base) (Q : Exit → Act → World → Prop), (∀ j, 1 ≤ j → G.ρ j = none) → Cont ⟨P, T, C, G, none, fn.ntmps⟩ Q (fun st => endRegion st (fun st => exec ⟨P, T, C, G, none, fn.ntmps⟩ .skip st (Fin ⟨P, T, C, G, none, fn.ntmps⟩ [] (fun _ st => findH st.H 0 = some (.cells tErr [.sv x])) (fun _ _ => False)))) (fun _ _ => False) →
      restX ⟨P, T, C, G, none, fn.ntmps⟩ ops.toList Q .skip (Fin ⟨P, T, C, G, none, fn.ntmps⟩ [] (fun _ st => findH st.H 0 = some (.cells tErr [.sv x])) (fun _ _ => False)) ⟨[(0, ⟨[], .sp 0 0⟩), (d1, ⟨[], .sv .nilIface⟩)], [], [(0, .cells tErr [.sv x])], 1, []⟩)
    (he2 : ∀ (x : Value) (k : IntKind) (m : Int) (G : Base) (Q : Exit → Act → World → Prop), (∀ j, 1 ≤ j → G.ρ j = none) → Cont ⟨P, T, C, G, none, fn.ntmps⟩ Q (fun st => endRegion st (fun st => exec ⟨P, T, C, G, none, fn.ntmps⟩ .skip st (Fin ⟨P, T, C, G, none, fn.ntmps⟩ [] (fun _ st => findH st.H 0 = some (.cells tErr [.si k m])) (fun _ _ => False)))) (fun _ _ => False) →
      restX ⟨P, T, C, G, none, fn.ntmps⟩ ops.toList Q .skip (Fin ⟨P, T, C, G, none, fn.ntmps⟩ [] (fun _ st => findH st.H 0 = some (.cells tErr [.si k m])) (fun _ _ => False)) ⟨[(0, ⟨[], .sp 0 0⟩), (d1, ⟨[], Vs k m⟩)], [], [(0, .cells tErr [.sv x])], 1, []⟩) :
    AnswerC P n V tErr := by
  have hrun1 : ∀ (a : Act) (w : World), (execOp a.eval o1).run P w = .ok .recover w := by
    intro a w
    simp only [execOp, h1, resolve, hc]
    rfl
  have key : ∀ (w : World) (b : Nat) (x : Value) (u : FrameMode) (v : Value) (u' : FrameMode) (y good : SV), x.oneCell' = true → w.heap[b]? = some (.cells #[x] tErr (0, 0)) → (∀ ρ, den ρ y = some v) →
      (∀ (c₀ : Frame) (cs : List Frame), c₀.mode = u → (match recoverD (c₀ :: cs) with
        | some (v', cs') => v' = v ∧ cs' = { c₀ with mode := u' } :: cs
        | none => v = .nilIface ∧ u' = u)) →
      (∀ (G : Base) (Q : Exit → Act → World → Prop), (∀ j, 1 ≤ j → G.ρ j = none) → Cont ⟨P, T, C, G, none, fn.ntmps⟩ Q (fun st => endRegion st (fun st => exec ⟨P, T, C, G, none, fn.ntmps⟩ .skip st (Fin ⟨P, T, C, G, none, fn.ntmps⟩ [] (fun _ st => findH st.H 0 = some (.cells tErr [good])) (fun _ _ => False)))) (fun _ _ => False) →
        restX ⟨P, T, C, G, none, fn.ntmps⟩ ops.toList Q .skip (Fin ⟨P, T, C, G, none, fn.ntmps⟩ [] (fun _ st => findH st.H 0 = some (.cells tErr [good])) (fun _ _ => False)) ⟨[(0, ⟨[], .sp 0 0⟩), (d1, ⟨[], y⟩)], [], [(0, .cells tErr [.sv x])], 1, []⟩) →
      CallsDIn Fence.wide 0 P n #[.pointer (some ⟨b, 0, none⟩)] u w fun e u₂ w' => (∃ v, e = .returned v) ∧ u₂ = u' ∧ w.heap.size ≤ w'.heap.size ∧ (∀ c, c < w.heap.size → c ≠ b → w'.heap[c]? = w.heap[c]?) ∧ Str w w' ∧ ∃ ρ z, den ρ good = some z ∧ w'.heap[b]? = some (.cells #[z] tErr (0, 0)) := by
    intro w b x u v u' y good hx hbw hy hrec he
    refine callsDIn_of_wpSIn hf hb trivial (fun c₀ cs hcm => ?_)
    let a0 : Act := { tmps := #[.pointer (some ⟨b, 0, none⟩)] ++ Array.replicate (fn.ntmps - 1) undef, defers := [] }
    have hsz : a0.tmps.size = fn.ntmps := by simp [a0]; omega
    have h00 : a0.tmps[0]? = some (.pointer (some ⟨b, 0, none⟩)) := by simp [a0, Array.getElem?_append]
    refine wpSIn_recover (cs' := { c₀ with mode := u' } :: cs) (v := v) rfl h0 hg1 (fun f _ => trivial) (hrun1 _ _) ?_ ?_
    · have := hrec c₀ cs hcm
      revert this
      cases recoverD (c₀ :: cs) with
      | some p => obtain ⟨v', cs'⟩ := p; exact fun h => h
      | none => exact fun h => ⟨h.1, by rw [h.2, ← hcm]⟩
    rw [hd1]
    let a1 : Act := a0.put (some d1) v
    let ρ : Env := fun j => if j = 0 then some (.blk b) else none
    let H : List (Nat × HB) := [(0, .cells tErr [.sv x])]
    have hblt : b < w.heap.size := by
      rcases Nat.lt_or_ge b w.heap.size with h | h
      · exact h
      · rw [Array.getElem?_eq_none h] at hbw; cases hbw
    have hkey : ∀ {i : Nat} {x₁ : HB}, findH H i = some x₁ → i = 0 := by
      intro i x₁ hf
      by_cases hid : i = 0
      · exact hid
      · have : findH H i = none := by simp [H, findH, Ne.symm hid]
        rw [this] at hf; cases hf
    have hH : HM ρ (findH H) w := {
      ok := fun id hb' hf => by
        have hid := hkey hf
        subst hid
        have hf : some (HB.cells tErr [.sv x]) = some hb' := hf
        cases hf
        exact ⟨.blk b, rfl, [x], by simp [denL, den, hx], by simp [hx], hbw⟩
      sep := fun i j x₁ y₁ n₁ n₂ b₁ f1 f2 _ _ _ _ _ _ => by rw [hkey f1, hkey f2]
      ro := fun id size n get nm b₁ hf => by
        have hid := hkey hf
        subst hid
        cases hf
      fam := fun b₁ ⟨id, size, C, v, n, get, hf, _⟩ => by
        have hid := hkey hf
        subst hid
        cases hf }
    let X : Cx := ⟨P, T, C, ⟨w, Own ρ (findH H), ρ, Fz (findH H)⟩, none, fn.ntmps⟩
    have hm : Mod X ρ ⟨[(0, ⟨[], .sp 0 0⟩), (d1, ⟨[], y⟩)], [], H, 1, []⟩ a1 w := {
      fm := fun s e hf => by
        have hf : findF [(0, ⟨[], .sp 0 0⟩), (d1, ⟨[], y⟩)] s = some e := hf
        by_cases h1 : (0 : Nat) = s
        · subst h1
          rw [findF_cons_self] at hf; cases hf
          exact ⟨fun _ => ⟨_, (by simp [a1, Act.put, Array.getElem?_setIfInBounds, hd10, h00]), rfl⟩, fun hn => absurd (fun x hx => by cases hx) hn⟩
        · rw [findF_cons_ne _ _ h1] at hf
          by_cases h2 : d1 = s
          · subst h2
            rw [findF_cons_self] at hf; cases hf
            exact ⟨fun _ => ⟨_, (by simp [a1, Act.put, Array.getElem?_setIfInBounds, hsz, hl1]), hy ρ⟩, fun hn => absurd (fun x hx => by cases hx) hn⟩
          · rw [findF_cons_ne _ _ h2] at hf; cases hf
      gs := fun s e hf x hx => by
        have hf : findF [(0, ⟨[], .sp 0 0⟩), (d1, ⟨[], y⟩)] s = some e := hf
        by_cases h1 : (0 : Nat) = s
        · subst h1; rw [findF_cons_self] at hf; cases hf; cases hx
        · rw [findF_cons_ne _ _ h1] at hf
          by_cases h2 : d1 = s
          · subst h2; rw [findF_cons_self] at hf; cases hf; cases hx
          · rw [findF_cons_ne _ _ h2] at hf; cases hf
      df := trivial
      hm := hH
      kp := { str := Str.refl _, size := Nat.le_refl _, same := fun _ _ _ => rfl, own := fun b h => .inl h, ext := Ext.refl ρ, fz := fun b h => .inr (.inr h) }
      nx := fun j hj => by
        have hj : 1 ≤ j := hj
        show (if j = 0 then some (Nm.blk b) else none) = none
        rw [if_neg (by omega)]
      sz := by show (a0.put (some d1) v).tmps.size = fn.ntmps; simp [Act.put, hsz] }
    have hfin : ∀ (e : Ex) (a' : Act) (w' : World) (st' : St) (ρ' : Env), Mod X ρ' st' a' w' → Fin X [] (fun _ st => findH st.H 0 = some (.cells tErr [good])) (fun _ _ => False) e st' →
        bodyPostS P fn c₀ cs (fun e u₂ w' => (∃ v, e = .returned v) ∧ u₂ = u' ∧ w.heap.size ≤ w'.heap.size ∧ (∀ c, c < w.heap.size → c ≠ b → w'.heap[c]? = w.heap[c]?) ∧ Str w w' ∧ ∃ ρ z, den ρ good = some z ∧ w'.heap[b]? = some (.cells #[z] tErr (0, 0))) e.to a' ({ c₀ with mode := u' } :: cs) w' := by
      intro e a' w' st' ρ' hm' hk
      have hgo : (match resAll X st' [], st'.D with
          | some l, [] => fSVL l fun l' => findH st'.H 0 = some (.cells tErr [good])
          | _, _ => False) → a'.defers = [] ∧ ∃ u₁, { c₀ with mode := u' } :: cs = { c₀ with mode := u₁ } :: cs ∧ ∃ v, (results fn a'.tmps).run P w' = .ok v w' ∧ ((∃ v', Ending.returned v = .returned v') ∧ u₁ = u' ∧ w.heap.size ≤ w'.heap.size ∧ (∀ c, c < w.heap.size → c ≠ b → w'.heap[c]? = w.heap[c]?) ∧ Str w w' ∧ ∃ ρ z, den ρ good = some z ∧ w'.heap[b]? = some (.cells #[z] tErr (0, 0))) := by
        intro hk
        split at hk
        · rename_i l e1 e2
          rw [fSVL_eq] at hk
          refine ⟨DefOk_nil (by rw [← e2]; exact hm'.df), u', rfl, .tuple #[], ?_, ⟨_, rfl⟩, rfl, ?_⟩
          · rw [results_eq, hres]
            simp
          · obtain ⟨nm, k1, k2⟩ := hm'.hm.ok _ _ hk
            have hb0 : ρ' 0 = some (.blk b) := hm'.kp.ext 0 _ rfl
            rw [hb0] at k1; cases k1
            obtain ⟨us, d1, _, d2⟩ := k2
            obtain ⟨z, us', q1, q2, rfl⟩ := denL_cons d1
            simp only [denL, Option.some.injEq] at q2
            subst q2
            refine ⟨hm'.kp.size, fun c hc hcb => hm'.kp.same c hc ?_, hm'.kp.str, ρ', z, q1, d2⟩
            rintro ⟨id, hb', nm', p1, _, p3, p4⟩
            have p3 : (if id = 0 then some (Nm.blk b) else none) = some nm' := p3
            split at p3
            · cases p3
              simp only [Nm.owner, Option.some.injEq] at p4
              exact hcb p4.symm
            · cases p3
        · exact hk.elim
      cases e with
      | normal => exact hgo hk
      | ret => exact hgo hk
      | panic ch =>
        simp only [Fin] at hk
        split at hk
        · exact hk.elim
        · exact hk.elim
      | exit n => exact hk.elim
    have hcont : Cont X (fun e a' w' => bodyPostS P fn c₀ cs (fun e u₂ w' => (∃ v, e = .returned v) ∧ u₂ = u' ∧ w.heap.size ≤ w'.heap.size ∧ (∀ c, c < w.heap.size → c ≠ b → w'.heap[c]? = w.heap[c]?) ∧ Str w w' ∧ ∃ ρ z, den ρ good = some z ∧ w'.heap[b]? = some (.cells #[z] tErr (0, 0))) e a' ({ c₀ with mode := u' } :: cs) w')
        (fun st => endRegion st (fun st => exec X .skip st (Fin X [] (fun _ st => findH st.H 0 = some (.cells tErr [good])) (fun _ _ => False)))) (fun _ _ => False) := {
      k := fun ρ' st' a' w' hm' hk => by
        unfold endRegion at hk
        split at hk <;> exact hfin .normal a' w' _ ρ' hm' hk
      p := fun ch ρ' st' a' w' hm' hk => hk.elim }
    have hx := he ⟨w, Own ρ (findH H), ρ, Fz (findH H)⟩ _ (fun j hj => by
      show (if j = 0 then some (Nm.blk b) else none) = none
      rw [if_neg (by omega)]) hcont
    have hl := execL_ok (hX ⟨w, Own ρ (findH H), ρ, Fz (findH H)⟩ none fn.ntmps) hcont.k hcont.p _ 1 ρ _ a1 w ?_ hx hm
    · have e1 : (match ops.toList with
        | [] => []
        | _ :: r => r).length = ops.size - 1 := by
        obtain ⟨l⟩ := ops
        cases l <;> simp
      rw [e1] at hl
      exact hl
    · cases h : ops.toList <;> simp [h]
  exact {
    body := body_of hf hb hn
    ret := fun w b x hx hbw => by
      refine (key w b x .returning .nilIface .returning (.sv .nilIface) (.sv x) hx hbw (fun ρ => rfl) (fun c₀ cs hcm => by
        simp [recoverD, hcm]) (he1 x)).mono ?_
      rintro e u' w' ⟨h1, h2, h3, h4, hst, ρ, z, h5, h6⟩
      refine ⟨h1, h2, h3, fun c hc => ?_, hst⟩
      by_cases hcb : c = b
      · subst hcb
        rw [h6, hbw]
        simp only [den, hx, if_true, Option.some.injEq] at h5
        rw [h5]
      · exact h4 c hc hcb
    pan := fun w b x k m hx hbw => by
      refine (key w b x _ (V k m) (.panicking [{ v := V k m, recovered := true }]) (Vs k m) (.si k m) hx hbw (fun ρ => hV ρ k m) (fun c₀ cs hcm => by
        simp [recoverD, hcm]) (he2 x k m)).mono ?_
      rintro e u' w' ⟨h1, h2, h3, h4, hst, ρ, z, h5, h6⟩
      refine ⟨h1, h2, h3, h4, ?_, hst⟩
      simp only [den, Option.some.injEq] at h5
      rw [h6, h5] }
end
end Go.X
end

section
set_option linter.unusedVariables false
set_option linter.unusedSimpArgs false
set_option linter.unusedSectionVars false
/- Functions whose answer is a deferred closure; they may hold ranges over functions. -/
set_option linter.unusedVariables false
set_option linter.unusedSimpArgs false
set_option maxRecDepth 10000
namespace Go.X
open Go
section
variable {X : Cx} {st : St} {ρ : Env} {a : Act} {w : World}

/-- A deferred closure that holds one pointer. -/
theorem fb_deferC (n id : Nat) {ops : List Oper} {i : Nat} {o : Oper} {r : List Oper} {Q : Exit → Act → World → Prop} {K : St → Prop} {Kp : List PanicEntry → St → Prop} {c : Call} {x : Operand} (hX : X.Ok) (hr : X.r = none)
    (hC : Cont X Q K Kp) (hi : ops.drop i = o :: r) (hc : o.op = .defer c) (hg : o.guard = none) (hd : o.dst = none) (hcl : c.callee = .value x) (hca : c.args = #[]) (h1 : ev (findF st.F) [] x = some (.fn (.func n) [] [.sp id 0]))
    (h : stK st fun F gs H nx D => execL X ops Q K Kp (i + 1) r ⟨F, gs, H, nx, (1000000, [.si .i64 n, .sp id 0]) :: D⟩) : FbO X ops Q K Kp i o r st := by
  refine ⟨fun ρ a w hm => ?_⟩
  rw [stK_eq] at h
  have hs : GPsat a [] := fun x hx => by cases hx
  have e1 := ev_ok hm.fm hs h1
  have ho : ops[i]? = some o := by
    have := congrArg (fun l => l[0]?) hi
    simpa using this
  have hd' : ops.drop (i + 1) = r := by
    have := congrArg List.tail hi
    simpa using this
  simp only [den] at e1
  cases hl : denL ρ [.sp id 0] with
  | none => rw [hl] at e1; simp [denL] at e1
  | some us =>
    rw [hl] at e1
    simp only [denL, Option.some.injEq] at e1
    obtain ⟨v, vs, g1, g2, rfl⟩ := denL_cons hl
    simp only [denL, Option.some.injEq] at g2
    subst g2
    rw [List.range'_succ]
    refine wpOps_cons (by simpa using ho) (fun _ => ?_) (fun hw => by rw [guard_none hg] at hw; cases hw)
    refine ⟨fun f _ => FW_fn X.r f, ?_⟩
    have hrun : (o.semAt (FW X.r).round a.eval).run X.P w = .ok (.defer { target := .fn (.func n) #[v], args := #[] }) w := by
      rw [FW_round, hr, Oper.semAt_none]
      simp only [execOp, hc, resolve, hcl, hca, ← e1]
      simp [Deferred.ofValue, Result.andThen]
    rw [hrun]
    show wpOpsIn _ _ _ _ _ _ (({ a with defers := _ :: a.defers } : Act).put o.dst undef) w
    rw [hd]
    obtain ⟨F, gs, H, nx, D⟩ := st
    refine execL_ok hX hC.k hC.p r (i + 1) ρ _ _ w hd' h ?_
    exact {
      fm := hm.fm
      gs := hm.gs
      df := ⟨⟨[.int .i64 n, v], denL_mk rfl (denL_mk g1 rfl), by simp [mkDef]⟩, hm.df⟩
      hm := hm.hm
      kp := hm.kp
      nx := hm.nx
      sz := hm.sz }

/-- The marks of ranges over functions that lie before a deferred closure are taken away. -/
def killC : List SDef → List (Nat × HB) → Option (List (Nat × HB) × List SDef)
  | [], H => some (H, [])
  | (f, args) :: r, H => match args with
    | [.sp id 0] => (match Nat.beq f 1000000, findH H id with
      | true, some .dfr => killC r ((id, .dead) :: H)
      | _, _ => none)
    | _ => some (H, (f, args) :: r)
theorem leavesC {P : Program} {fn : Func} {R : Ending → World → Prop} {u : FrameMode} (hu : u ≠ .run) {F : List (Nat × FE)} {gs : List Nat} {nx : Nat} {H' : List (Nat × HB)} {D' : List SDef} : ∀ {D : List SDef} {H : List (Nat × HB)} {a : Act} {w : World},
    killC D H = some (H', D') → Mod X ρ ⟨F, gs, H, nx, D⟩ a w → (∀ a' w'', a'.tmps = a.tmps → Mod X ρ ⟨F, gs, H', nx, D'⟩ a' w'' → LeavesInM Fence.wide 0 P fn a.tmps R a'.defers u w'') →
    LeavesInM Fence.wide 0 P fn a.tmps R a.defers u w
  | [], H, a, w, hk, hm, hfin => by
    simp only [killC] at hk; cases hk
    exact hfin a w rfl hm
  | (f, args) :: r, H, a, w, hk, hm, hfin => by
    simp only [killC] at hk
    split at hk
    · rename_i id
      split at hk
      · rename_i e1 e2
        have hdf := hm.df
        cases hds : a.defers with
        | nil => rw [hds] at hdf; exact hdf.elim
        | cons d ds =>
          rw [hds] at hdf
          obtain ⟨⟨vals, h1, h2⟩, h3⟩ := hdf
          obtain ⟨v, vs, g1, g2, rfl⟩ := denL_cons h1
          simp only [denL, Option.some.injEq] at g2
          subst g2
          obtain ⟨b, hb, rfl⟩ := den_sp g1
          have hd : d = { target := .collected b, args := #[] } := by rw [h2]; simp only [mkDef, e1]
          obtain ⟨nm, k1, k2⟩ := hm.hm.ok _ _ e2
          rw [hb] at k1; cases k1
          refine ⟨hu, .inl ⟨b, _, by rw [hd], run_takeDeferred (P := P) k2, ?_⟩⟩
          have hm1 := hm.killAt (w' := w.putObj b (.deferred none)) e2 rfl hb rfl World.putObj_size (fun k hk => World.putObj_heap_other hk)
          have hm2 : Mod X ρ ⟨F, gs, (id, .dead) :: H, nx, r⟩ { a with defers := ds } (w.putObj b (.deferred none)) := {
            fm := hm1.fm, gs := hm1.gs, df := h3, hm := hm1.hm, kp := hm1.kp, nx := hm1.nx, sz := hm1.sz }
          exact leavesC hu (a := { a with defers := ds }) hk hm2 (fun a' w'' q1 q3 => hfin a' w'' q1 q3)
      · cases hk
    · cases hk
      exact hfin a w rfl hm

def isRefC (tRef : Nat) (ch : List PanicEntry) (K : IntKind → Int → Prop) : Prop :=
  match ch with
  | [⟨.iface t (.agg ⟨[.int k m]⟩), false, false⟩] => (match Nat.beq t tRef with
    | true => K k m
    | false => False)
  | _ => False
def errOfC (n tErr : Nat) (st : St) (K : Nat → Prop) : Prop :=
  match st.D with
  | [(f, [.si .i64 m, .sp id 0])] => (match Nat.beq m.toNat n, Nat.beq f 1000000, findH st.H id with
    | true, true, some (.cells t [_]) => (match Nat.beq t tErr with
      | true => K id
      | false => False)
    | _, _, _ => False)
  | _ => False
def refV (tRef : Nat) (k : IntKind) (m : Int) : Value := .iface tRef (.agg #[.int k m])

/-- The ends of a body with a deferred closure. -/
def FinC (X : Cx) (n tRef tErr : Nat) (rs : List ResultVar) (Rv : SV → St → Prop) : Ex → St → Prop
  | .normal, st => errOfC n tErr st fun _ => (match resAll X st rs with
    | some l => fSVL l fun l' => Rv (resV l') st
    | none => False)
  | .ret, st => errOfC n tErr st fun _ => (match resAll X st rs with
    | some l => fSVL l fun l' => Rv (resV l') st
    | none => False)
  | .panic ch, st => errOfC n tErr st fun id => isRefC tRef ch fun k m => (match st with
    | ⟨F, gs, H, nx, D⟩ => (match resAll X ⟨F, gs, (id, .cells tErr [.si k m]) :: H, nx, D⟩ rs with
      | some l => fSVL l fun l' => Rv (resV l') ⟨F, gs, (id, .cells tErr [.si k m]) :: H, nx, D⟩
      | none => False))
  | .exit _, _ => False
def FinCM (X : Cx) (n tRef tErr : Nat) (rs : List ResultVar) (Rv : SV → St → Prop) (e : Ex) (st : St) : Prop :=
  match killC st.D st.H with
  | some (H', D') => FinC X n tRef tErr rs Rv e ⟨st.F, st.gs, H', st.nx, D'⟩
  | none => False

theorem errOfC_ok {n tErr : Nat} {K : Nat → Prop} (h : errOfC n tErr st K) : ∃ id m x, m.toNat = n ∧ st.D = [(1000000, [.si .i64 m, .sp id 0])] ∧ findH st.H id = some (.cells tErr [x]) ∧ K id := by
  unfold errOfC at h
  split at h
  · rename_i f m id e1
    split at h
    · rename_i t x e2 e0 e3
      split at h
      · rename_i e4
        have h1 : f = 1000000 := by simpa using e0
        have h2 : t = tErr := by simpa using e4
        subst h1; subst h2
        exact ⟨id, m, x, by simpa using e2, e1, e3, h⟩
      · exact h.elim
    · exact h.elim
  · exact h.elim
theorem isRefC_ok {tRef : Nat} {ch : List PanicEntry} {K : IntKind → Int → Prop} (h : isRefC tRef ch K) : ∃ k m, ch = [{ v := refV tRef k m, recovered := false }] ∧ K k m := by
  unfold isRefC at h
  split at h
  · rename_i t k m
    split at h
    · rename_i e
      have h1 : t = tRef := by simpa using e
      subst h1
      exact ⟨k, m, rfl, h⟩
    · exact h.elim
  · exact h.elim
/-- The deferred closure's argument. -/
theorem def_argC (hm : Mod X ρ st a w) {n tErr id : Nat} {m : Int} {x : SV} (hmn : m.toNat = n) (hD : st.D = [(1000000, [.si .i64 m, .sp id 0])]) (hf : findH st.H id = some (.cells tErr [x])) :
    ∃ (b : Nat) (u : Value), a.defers = [{ target := .fn (.func n) #[.pointer (some ⟨b, 0, none⟩)], args := #[] }] ∧ ρ id = some (.blk b) ∧ u.oneCell' = true ∧ w.heap[b]? = some (.cells #[u] tErr (0, 0)) := by
  have hdf := hm.df
  rw [hD] at hdf
  cases hds : a.defers with
  | nil => rw [hds] at hdf; exact hdf.elim
  | cons d ds =>
    rw [hds] at hdf
    obtain ⟨⟨vals, h1, h2⟩, h3⟩ := hdf
    have h3 := DefOk_nil h3
    subst h3
    obtain ⟨v, vs, g1, g2, rfl⟩ := denL_cons h1
    simp only [den, Option.some.injEq] at g1
    subst g1
    obtain ⟨v, vs, g1, g3, rfl⟩ := denL_cons g2
    simp only [denL, Option.some.injEq] at g3
    subst g3
    obtain ⟨b, hb, rfl⟩ := den_sp g1
    obtain ⟨nm, k1, k2⟩ := hm.hm.ok _ _ hf
    rw [hb] at k1; cases k1
    obtain ⟨us, d1, d0, d2⟩ := k2
    obtain ⟨u, us', q1, q2, rfl⟩ := denL_cons d1
    simp only [denL, Option.some.injEq] at q2
    subst q2
    exact ⟨b, u, by rw [h2]; simp [mkDef, hmn], hb, by simpa using d0, d2⟩

/-- From a body with a deferred closure to its call. -/
theorem calls_of_execC (hX : X.Ok) (hr : X.r = none) {n tRef tErr : Nat} (hA : AnswerC X.P n (refV tRef) tErr) {f : Nat} {fn : Func} {c : Code} (hf : X.P.funcs[f]? = some fn) (hb : fn.body = some c) (hnt : fn.ntmps = X.nt)
    {args : List SV} {vals : List Value} {H : List (Nat × HB)} {nx : Nat} (hd : denL ρ args = some vals) (hlen : args.length ≤ X.nt) (hH : HM ρ (findH H) w)
    (hG : X.G = ⟨w, Own ρ (findH H), ρ, Fz (findH H)⟩) (hnx : ∀ j, nx ≤ j → ρ j = none) {Rv : SV → St → Prop}
    (h : exec X c (start args H nx) (FinCM X n tRef tErr fn.results.toList Rv)) : Calls X.P f vals.toArray w (CEnd X Rv fun _ _ => False) := by
  refine (callsIn_wide (n := 0)).1 ?_
  have hm := start_mod (X := X) hd hlen hH hG hnx
  have hw := exec_ok hX c _ _ h ρ _ w hm
  rw [hr] at hw
  refine callsIn_of_wp_marks (F := Fence.wide) hf hb trivial (wpIn_mono (by rw [hnt]; exact hw) ?_)
  rintro e a₀ w₀ ⟨x, st₀, ρ', rfl, hm₀, hk₀⟩
  unfold FinCM at hk₀
  split at hk₀
  case h_2 => exact hk₀.elim
  rename_i H' D' hkD
  have hgo : ∀ u, u ≠ FrameMode.run → (∀ a' w'', a'.tmps = a₀.tmps → Mod X ρ' ⟨st₀.F, st₀.gs, H', st₀.nx, D'⟩ a' w'' → LeavesInM Fence.wide 0 X.P fn a₀.tmps (CEnd X Rv fun _ _ => False) a'.defers u w'') →
      LeavesInM Fence.wide 0 X.P fn a₀.tmps (CEnd X Rv fun _ _ => False) a₀.defers u w₀ := fun u hu hf => leavesC (X := X) (F := st₀.F) (gs := st₀.gs) (nx := st₀.nx) hu hkD (by cases st₀; exact hm₀) hf
  obtain ⟨st', hst₀⟩ : ∃ st' : St, (⟨st₀.F, st₀.gs, H', st₀.nx, D'⟩ : St) = st' := ⟨_, rfl⟩
  rw [hst₀] at hk₀
  have hk := hk₀
  have hret : (errOfC n tErr st' fun _ => (match resAll X st' fn.results.toList with
      | some l => fSVL l fun l' => Rv (resV l') st'
      | none => False)) → LeavesInM Fence.wide 0 X.P fn a₀.tmps (CEnd X Rv fun _ _ => False) a₀.defers .returning w₀ := by
    intro hk
    refine hgo _ (by intro h; cases h) fun a' w' hat hm' => ?_
    rw [hst₀] at hm'
    rw [← hat]
    obtain ⟨id, q, y, hq, hD, hfi, hk⟩ := errOfC_ok hk
    obtain ⟨b, u, g1, g2, g0, g3⟩ := def_argC hm' hq hD hfi
    rw [g1]
    refine ⟨(by intro h; cases h), .inr ⟨(by intro h; cases h), _, _, _, _, rfl, hA.body _ _, (fun g _ => trivial), ?_⟩⟩
    refine (hA.ret w' b u g0 g3).mono ?_
    rintro e u' w₂ ⟨⟨v, rfl⟩, rfl, hs, hk2, hst⟩
    have hm₂ : Mod X ρ' st' a' w₂ := { hm' with hm := hm'.hm.world hs hk2, kp := hm'.kp.world hs hk2 hst }
    split at hk
    · rename_i l e1
      rw [fSVL_eq] at hk
      obtain ⟨u, h1, h2⟩ := results_ok hX hm₂ e1
      exact ⟨u, h1, .inl ⟨_, st', ρ', u, rfl, h2, hm₂.mh, hk⟩⟩
    · exact hk.elim
  cases x with
  | normal => exact hret hk
  | ret => exact hret hk
  | panic ch =>
    obtain ⟨id, q, y, hq, hD, hfi, hk⟩ := errOfC_ok hk
    obtain ⟨k, m, rfl, hkk⟩ := isRefC_ok hk
    refine hgo _ (by intro h; cases h) fun a' w' hat hm' => ?_
    rw [hst₀] at hm'
    rw [← hat]
    obtain ⟨b, u, g1, g2, g0, g3⟩ := def_argC hm' hq hD hfi
    rw [g1]
    refine ⟨(by intro h; cases h), .inr ⟨(by intro h; cases h), _, _, _, _, rfl, hA.body _ _, (fun g _ => trivial), ?_⟩⟩
    refine (hA.pan w' b u k m g0 g3).mono ?_
    rintro e u' w₂ ⟨⟨v, rfl⟩, rfl, hs, hk2, hk3, hst⟩
    obtain ⟨F, gs, H, nx, D⟩ := st'
    have hm₂ : Mod X ρ' ⟨F, gs, (id, .cells tErr [.si k m]) :: H, nx, D⟩ a' w₂ := {
      fm := hm'.fm
      gs := hm'.gs
      df := hm'.df
      hm := hm'.hm.put hfi rfl g2 rfl hs hk2 (by exact ⟨[.int k m], by simp [denL, den], by simp [Value.oneCell'], hk3⟩) rfl (fun _ _ _ h => by cases h)
      kp := hm'.kp.put hfi rfl g2 rfl hs hk2 hst
      nx := hm'.nx
      sz := hm'.sz }
    simp only at hkk
    split at hkk
    · rename_i l e1
      rw [fSVL_eq] at hkk
      obtain ⟨u, h1, h2⟩ := results_ok hX hm₂ e1
      exact ⟨u, h1, .inl ⟨_, _, ρ', u, rfl, h2, hm₂.mh, hkk⟩⟩
    · exact hkk.elim
  | exit n => exact hk.elim

/-- What a contract of a function with a deferred closure rests on. -/
def WalkCM (P : Program) (T : Tab) (C : Nat → Option Ct) (n tRef tErr : Nat) (fn : Func) (c : Code) (H : LH) (args : List SV) (fr : Nat) (out : COut) : Prop :=
  ∃ (ps : List (Nat × HB)) (args₀ : List SV) (H₀ : List (Nat × HB)) (n₀ : Nat) (K : List Nat), args = renL (sigP ps) args₀ ∧ knL ps.length [] args₀ = true ∧ args₀.length ≤ fn.ntmps ∧ Hand H ps ∧ H₀ = numb 0 ps ∧ n₀ = ps.length ∧
    ∀ G : Base, (∀ j, n₀ ≤ j → G.ρ j = none) → exec ⟨P, T, C, G, none, fn.ntmps⟩ c (start args₀ H₀ n₀) (FinCM ⟨P, T, C, G, none, fn.ntmps⟩ n tRef tErr fn.results.toList
      (fun v st => (out.pan = none ∨ ∃ ch, out.pan = some (false, ch)) ∧ EndOk ps K fr out v st))

theorem cokCM {P : Program} {T : Tab} {C : Nat → Option Ct} (hX : ∀ G r nt, (⟨P, T, C, G, r, nt⟩ : Cx).Ok) {n tRef tErr : Nat} (hA : AnswerC P n (refV tRef) tErr) {f : Nat} {fn : Func} {c : Code} (hf : P.funcs[f]? = some fn) (hb : fn.body = some c) {ct : Ct}
    (h : ∀ fr args H out, ct fr args H = some out → PreH out.pre → WalkCM P T C n tRef tErr fn c H args fr out) : COk P f ct :=
  cokC (nt := fn.ntmps) fun fr args H out h1 h2 => by
    obtain ⟨ps, args₀, H₀, n₀, K, h1, h2, h3, h4, h5, h6, hex⟩ := h fr args H out h1 h2
    refine ⟨ps, args₀, H₀, n₀, K, h1, h2, h3, h4, h5, h6, fun ρ w vals hd hm hnx => ?_⟩
    exact (calls_of_execC (X := ⟨P, T, C, ⟨w, Own ρ (findH H₀), ρ, Fz (findH H₀)⟩, none, fn.ntmps⟩) (hX _ _ _) rfl hA hf hb rfl hd h3 hm rfl hnx (hex _ hnx)).mono fun e w' he => he.mono (fun _ _ h => h) (fun _ _ h => h.elim)
end
end Go.X
end

section
set_option linter.unusedVariables false
set_option linter.unusedSimpArgs false
set_option linter.unusedSectionVars false
/- Fields without size; calls that end in one of several states. -/
set_option linter.unusedVariables false
set_option linter.unusedSimpArgs false
set_option maxRecDepth 10000
namespace Go.X
open Go
section
variable {X : Cx} {st : St}

/-- The address of a field without size, at the begin of a struct: some pointer. -/
theorem fb_field0 (id : Nat) {ops : List Oper} {i : Nat} {o : Oper} {r : List Oper} {Q : Exit → Act → World → Prop} {K : St → Prop} {Kp : List PanicEntry → St → Prop} {t f d : Nat} {x : Operand} {ti tf : TI} {fs : Array Field} {fd : Field} {U : Nat} {cs : List SV} {bb : Nat}
    (hX : X.Ok) (hC : Cont X Q K Kp) (hi : ops.drop i = o :: r) (hc : o.op = .fieldAddr t x f) (hg : o.guard = none) (hp : putN st.gs X.nt o.dst = false) (hdst : o.dst = some d)
    (ht : X.T t = some ti) (hd : ti.desc = .struct fs) (hf : fs.toList[f]? = some fd) (htf : X.T fd.type = some tf) (hs : tf.size = 0) (ho : fd.offset = 0) (hb0 : fd.byteOffset = 0)
    (h1 : ev (findF st.F) [] x = some (.sp id 0)) (h2 : findH st.H id = some (.cells U cs)) (hsz : X.P.cellsOf U ≠ 0) (hbc : byteOfCell X.P X.P.depth U 0 = some bb)
    (h : ∀ ad : Addr, stK st fun F gs H nx D => execL X ops Q K Kp (i + 1) r ⟨(d, ⟨[], .sv (.pointer (some ad))⟩) :: F, gs, H, nx, D⟩) : FbO X ops Q K Kp i o r st := by
  refine fb_sem hX hC hi (by rw [hc]; intro c h; cases h) hg fun ρ a w hm => ?_
  have hss : GPsat a [] := fun x hx => by cases hx
  have e1 := ev_ok hm.fm hss h1
  obtain ⟨b, hb, e1⟩ := den_sp e1
  obtain ⟨nm, k1, k2⟩ := hm.hm.ok _ _ h2
  rw [hb] at k1; cases k1
  obtain ⟨us, d1, d0, d2⟩ := k2
  have hf' : fs[f]? = some fd := by simpa using hf
  have hsh : w.shape? b = some (U, us.length) := by simp [World.shape?, d2]
  have hvw : (viewAt b).run X.P w = .ok none w := by simp [viewAt, hsh, d2, Result.andThen]
  have hrun : (Instr.fieldAt t (.pointer (some ⟨b, 0, none⟩)) f).run X.P w = .ok (.pointer (some ⟨b, 0, none⟩)) w := by
    simp [Instr.fieldAt, run_und hX.tab ht, Result.andThen, hd, hf', Instr.sureAddr, fieldPlace, run_size hX.tab htf, hs, partAt, byteOf, noView, ho, hb0, d2, hsz, hbc, hsh, hvw]
  refine ⟨.pointer (some ⟨b, 0, none⟩), w, ρ, _, .inl ?_, hm.put (d := o.dst) (s := .sv (.pointer (some ⟨b, 0, none⟩))) hp (by simp [den, Value.oneCell']), ?_⟩
  · simp only [execOp, hc, e1]; exact run_v hrun
  · have h := h ⟨b, 0, none⟩
    rw [stK_eq] at h; rw [hdst]; exact h
/-- What has no size is loaded from any pointer. -/
theorem fb_load0 (ad : Addr) {ops : List Oper} {i : Nat} {o : Oper} {r : List Oper} {Q : Exit → Act → World → Prop} {K : St → Prop} {Kp : List PanicEntry → St → Prop} {t d : Nat} {x : Operand} {ti : TI}
    (hX : X.Ok) (hC : Cont X Q K Kp) (hi : ops.drop i = o :: r) (hc : o.op = .load t x) (hg : o.guard = none) (hp : putN st.gs X.nt o.dst = false) (hdst : o.dst = some d)
    (ht : X.T t = some ti) (ha : aggD ti.desc = true) (hs : ti.size = 0)
    (h1 : ev (findF st.F) [] x = some (.sv (.pointer (some ad))))
    (h : stK st fun F gs H nx D => execL X ops Q K Kp (i + 1) r ⟨(d, ⟨[], .agg []⟩) :: F, gs, H, nx, D⟩) : FbO X ops Q K Kp i o r st := by
  refine fb_sem hX hC hi (by rw [hc]; intro c h; cases h) hg fun ρ a w hm => ?_
  have hss : GPsat a [] := fun x hx => by cases hx
  have e1 := ev_ok hm.fm hss h1
  simp only [den, Value.oneCell', if_true, Option.some.injEq] at e1
  have hrun : (Instr.loadAt t (.pointer (some ad))).run X.P w = .ok (.agg #[]) w := by
    simp [Instr.loadAt, Instr.sureAddr, loadVar, run_isAgg hX.tab ht, ha, run_size hX.tab ht, hs, loadCells, loadCellsFrom, Result.andThen]
  refine ⟨.agg #[], w, ρ, _, .inl ?_, hm.put (d := o.dst) (s := .agg []) hp (by simp [den, denL]), ?_⟩
  · simp only [execOp, hc, ← e1]; exact run_v hrun
  · rw [stK_eq] at h; rw [hdst]; exact h
end

/-- The end of a round, in the one state. -/
def roundE (lid n0 : Nat) (v' : Bool) (H' : List (Nat × HB)) (nx' : Nat) : Ex → St → Prop
  | .normal, st => isLoopAt (findH st.H) lid .busy fun nt fn ps a b db Fl pd => ∃ s, EndR n0 (.sb true) ((lid, .loop Fl nt fn ps a b db .ready none) :: st.H) st.nx (.sb v') H' nx' s
  | .ret, st => isLoopAt (findH st.H) lid .busy fun nt fn ps a b db Fl pd => ∃ s, EndR n0 (.sb false) ((lid, .loop Fl nt fn ps a b db .done (some .ret)) :: st.H) st.nx (.sb v') H' nx' s
  | .exit n, st => isLoopAt (findH st.H) lid .busy fun nt fn ps a b db Fl pd => ∃ s, EndR n0 (.sb false) ((lid, .loop Fl nt fn ps a b db .done (some (.exit n))) :: st.H) st.nx (.sb v') H' nx' s
  | .panic _, _ => False

/-- A call of yield comes to one state. -/
def YieldOk (P : Program) (T : Tab) (C : Nat → Option Ct) (lid : Nat) (args : List SV) (H : List (Nat × HB)) (nx : Nat) (v : Bool) (H' : List (Nat × HB)) (nx' : Nat) : Prop :=
  ∀ (G : Base) (rr : Option Nat) (nt : Nat) (ops : List Oper) (i : Nat) (o : Oper) (r : List Oper) (Q : Exit → Act → World → Prop) (K : St → Prop) (Kp : List PanicEntry → St → Prop) (c : Call) (g : Operand) (F : List (Nat × FE)) (gs : List Nat) (D : List SDef),
    Cont ⟨P, T, C, G, rr, nt⟩ Q K Kp → ops.drop i = o :: r → o.op = .call c → c.callee = .value g → o.guard = none → putN gs nt o.dst = false → ev (findF F) [] g = some (.fy lid) → argsOf (findF F) [] c.args.toList = some args →
    putSt ⟨F, gs, H, nx, D⟩ o.dst (.sb v) H' nx' (execL ⟨P, T, C, G, rr, nt⟩ ops Q K Kp (i + 1) r) → FbO ⟨P, T, C, G, rr, nt⟩ ops Q K Kp i o r ⟨F, gs, H, nx, D⟩

theorem yield_to {P : Program} {T : Tab} {C : Nat → Option Ct} (lid : Nat) {args : List SV} {H : List (Nat × HB)} {nx : Nat} {v' : Bool} {H' : List (Nat × HB)} {nx' : Nat} {Fl l' : List (Nat × SV)} {nt fn db : Nat} {ps : List Nat} {asg bo : Code} {pd : Option Code}
    (hX : ∀ G r nt, (⟨P, T, C, G, r, nt⟩ : Cx).Ok) (h3 : findH H lid = some (.loop Fl nt fn ps asg bo db .ready pd)) (h4 : putArgs ps args Fl = some l') (hps : ∀ p ∈ ps, p < nt)
    (hex0 : ∀ (G : Base) (r : Option Nat), (∀ j, nx ≤ j → G.ρ j = none) → exec ⟨P, T, C, G, r, nt⟩ asg ⟨feOf l', [], H, nx, []⟩ (bodyK ⟨P, T, C, G, r, nt⟩ lid bo (roundE lid nx v' H' nx'))) : YieldOk P T C lid args H nx v' H' nx' := by
  intro G0 rr0 nt0 ops i o r Q K Kp c g F gs D hC hi hc hcl hg hp h1 h2 hk0
  obtain ⟨X, hXe⟩ : ∃ X : Cx, (⟨P, T, C, G0, rr0, nt0⟩ : Cx) = X := ⟨_, rfl⟩
  obtain ⟨st, hst⟩ : ∃ st : St, (⟨F, gs, H, nx, D⟩ : St) = st := ⟨_, rfl⟩
  have hX0 : X.Ok := hXe ▸ hX _ _ _
  have hXP : X.P = P := by rw [← hXe]
  have hXT : X.T = T := by rw [← hXe]
  have hXC : X.C = C := by rw [← hXe]
  have hnt0 : X.nt = nt0 := by rw [← hXe]
  have hsF : st.F = F := by rw [← hst]
  have hsH : st.H = H := by rw [← hst]
  have hsn : st.nx = nx := by rw [← hst]
  have hsg : st.gs = gs := by rw [← hst]
  have hsD : st.D = D := by rw [← hst]
  rw [hXe] at hC hk0 ⊢
  rw [hst] at hk0 ⊢
  subst hXP hXT hXC
  rw [← hnt0] at hp
  subst hsF hsH hsn hsg hsD
  refine ⟨fun ρ a w hm => ?_⟩
  have hs : GPsat a [] := fun x hx => by cases hx
  have e1 := ev_ok hm.fm hs h1
  have e2 := argsOf_ok hm.fm hs h2
  obtain ⟨nm, hn, hok⟩ := hm.hm.ok _ _ h3
  cases nm <;> simp only [HBok] at hok
  rename_i lb
  obtain ⟨tmps, dnm, k3, k4, k5, k6⟩ := hok
  simp only [den, hn, Option.some.injEq] at e1
  obtain ⟨hsz, hfv⟩ := putArgs_ok (ρ := ρ) (tmps := tmps) h4 e2 (fun p hp' => by rw [k5]; exact hps p hp') k6
  have hlen : (c.args.toList.map a.eval).length = ps.length := by
    have : ∀ (ps : List Nat) (xs : List SV) (l l' : List (Nat × SV)), putArgs ps xs l = some l' → xs.length = ps.length := by
      intro ps
      induction ps with
      | nil => intro xs l l' h; cases xs with | nil => rfl | cons _ _ => simp [putArgs] at h
      | cons p ps ih => intro xs l l' h; cases xs with | nil => simp [putArgs] at h | cons x xs => simp only [putArgs] at h; simp [ih _ _ _ h]
    rw [denL_len e2, this _ _ _ _ h4]
  have hrun : (execOp a.eval o).run X.P w = .ok (.round lb fn ((ps.zip (c.args.toList.map a.eval)).foldl (fun (t : Array Value) (x : Nat × Value) => t.setIfInBounds x.1 x.2) tmps) asg bo) w := by
    have hres : (resolve a.eval c o.type).run X.P w = .ok { target := .fn (.yield lb) #[], args := c.args.map a.eval } w := by
      simp only [resolve, hcl, ← e1]
      simp [Deferred.ofValue]
    have hy := run_yield (P := X.P) (l := lb) (args := c.args.map a.eval) k4 (by simpa using hlen)
    simp only [execOp, hc, Sem.run_bind, hres, Result.andThen, invoke]
    rw [hy]
    congr 2
    simp only []
    rw [← Array.foldl_toList]
    simp [Array.toList_zip]
  have ho : ops[i]? = some o := by
    have := congrArg (fun l => l[0]?) hi
    simpa using this
  have hd' : ops.drop (i + 1) = r := by
    have := congrArg List.tail hi
    simpa using this
  rw [List.range'_succ]
  refine wpOps_cons (by simpa using ho) (fun _ => ?_) (fun hw => by rw [guard_none hg] at hw; cases hw)
  refine ⟨(fun f _ => FW_fn X.r f), ?_⟩
  have hsem : (o.semAt (FW X.r).round a.eval).run X.P w = (execOp a.eval o).run X.P w := by
    rw [FW_round]
    cases hr : X.r with
    | none => rw [Oper.semAt_none]
    | some l0 => simp only [Oper.semAt, hc]
  rw [hsem, hrun, Oper.uponIn_round]
  refine ⟨(fun h => by rw [FW_depth] at h; cases h), ?_⟩
  -- the round
  have hex := hex0 ⟨w, Own ρ (findH st.H), ρ, Fz (findH st.H)⟩ (some lb) hm.nx
  have hm0 : Mod ⟨X.P, X.T, X.C, ⟨w, Own ρ (findH st.H), ρ, Fz (findH st.H)⟩, some lb, nt⟩ ρ ⟨feOf l', [], st.H, st.nx, []⟩ { tmps := (ps.zip (c.args.toList.map a.eval)).foldl (fun (t : Array Value) (x : Nat × Value) => t.setIfInBounds x.1 x.2) tmps, defers := [] } w := {
    fm := fun t e hf => by
      obtain ⟨g1, g2⟩ := feOf_find hf
      refine ⟨fun _ => hfv t _ g2, fun hng => absurd (show GPsat _ e.gp by rw [g1]; intro x hx; cases hx) hng⟩
    gs := fun t e hf x hx => by rw [(feOf_find hf).1] at hx; cases hx
    df := trivial
    hm := hm.hm
    kp := ⟨Str.refl _, Nat.le_refl _, fun _ _ _ => rfl, fun b ho => .inl ho, Ext.refl _, fun b hz => .inr (.inr hz)⟩
    nx := hm.nx
    sz := by rw [hsz, k5] }
  have hw := exec_ok (hX _ _ _) asg _ _ hex ρ _ w hm0
  refine roundIn_of_wpIn (F := FW X.r) (FW_fn _ _) (wpIn_mono hw ?_)
  rintro e a₁ w₁ ⟨x, st1, ρ1, rfl, hm1, hk⟩
  cases x with
  | normal =>
    obtain ⟨Fl1, nt1, fn1, ps1, a1, b1, db1, pd1, hf1, hex1⟩ := isLoopAt_ok hk
    have hl1 : ρ1 lid = some (.blk lb) := hm1.kp.ext _ _ hn
    obtain ⟨r1, hr1, hst1, hmod1⟩ := hm1.reloop hl1 hf1
    refine ⟨_, run_beginRound (P := X.P) hr1 hst1, ?_⟩
    have hpd : r1.pending = pd1 := by
      obtain ⟨nm, j1, j2⟩ := hm1.hm.ok _ _ hf1
      rw [hl1] at j1; cases j1
      obtain ⟨tm, dn, _, j4, _⟩ := j2
      rw [hr1] at j4; cases j4; rfl
    have hm1b := hmod1 .busy pd1
    have he : ({ r1 with state := LoopState.busy, pending := pd1 } : Loop) = { r1 with state := LoopState.busy } := by rw [← hpd]
    rw [he] at hm1b
    refine wpIn_mono (exec_ok (hX _ _ _) bo _ _ hex1 ρ1 a₁ _ hm1b) ?_
    rintro e a₂ w₂ ⟨x, st2, ρ2, rfl, hm2, hk2⟩
    have fin : ∀ (jump : Option Code) (nt2 fn2 : Nat) (ps2 : List Nat) (a2 b2 : Code) (db2 : Nat) (Fl2 : List (Nat × SV)) (pd2 : Option Code), findH st2.H lid = some (.loop Fl2 nt2 fn2 ps2 a2 b2 db2 .busy pd2) →
        (∃ s, EndR st.nx (.sb jump.isNone) ((lid, .loop Fl2 nt2 fn2 ps2 a2 b2 db2 (if jump.isNone then .ready else .done) jump) :: st2.H) st2.nx (.sb v') H' nx' s) →
        ∃ v w', (Instr.endRound lb jump).run X.P w₂ = .ok v w' ∧ wpOpsIn (FW X.r) 0 X.P ops.toArray Q (List.range' (i + 1) r.length) (a.put o.dst v) w' := by
      intro jump nt2 fn2 ps2 a2 b2 db2 Fl2 pd2 hf2 hk3
      obtain ⟨s, hs3⟩ := hk3
      have hl2 : ρ2 lid = some (.blk lb) := hm2.kp.ext _ _ hn
      obtain ⟨r2, hr2, hst2, hmod2⟩ := hm2.reloop hl2 hf2
      have hm3 := hmod2 (if jump.isNone then .ready else .done) jump
      refine ⟨_, _, run_endRound (P := X.P) jump hr2, ?_⟩
      have hjv : jump.isNone = v' := by
        have := hs3.v
        simpa [SVeq, renSV] using this
      have hm3' : Mod ⟨X.P, X.T, X.C, ⟨w, Own ρ (findH st.H), ρ, Fz (findH st.H)⟩, some lb, 0⟩ ρ2 ⟨[], [], (lid, .loop Fl2 nt2 fn2 ps2 a2 b2 db2 (if jump.isNone then .ready else .done) jump) :: st2.H, st2.nx, []⟩ { tmps := #[], defers := [] } (w₂.putObj lb (.loop { r2 with state := (if jump.isNone then .ready else .done), pending := jump })) := {
        fm := fun t e hf => by cases hf
        gs := fun t e hf => by cases hf
        df := trivial
        hm := hm3.hm
        kp := hm3.kp
        nx := hm3.nx
        sz := rfl }
      have hm5 := hm3'.ren (n0 := st.nx) (s := s) (st' := ⟨[], [], H', nx', []⟩) ⟨trivial, hs3.H, hs3.inj, hs3.fix, hs3.ge, rfl, trivial⟩ hm.nx
      have hm4 := (hm.call (H' := H') (nx' := nx') hm5.hm hm5.kp hm5.nx).put (d := o.dst) (s := .sb jump.isNone) hp rfl
      rw [hjv] at hm4 ⊢
      cases hdst : o.dst with
      | none => rw [hdst] at hm4 hk0; exact execL_ok hX0 hC.k hC.p r (i + 1) _ _ _ _ hd' hk0 hm4
      | some d => rw [hdst] at hm4 hk0; exact execL_ok hX0 hC.k hC.p r (i + 1) _ _ _ _ hd' hk0 hm4
    cases x with
    | normal =>
      obtain ⟨Fl2, nt2, fn2, ps2, a2, b2, db2, pd2, hf2, hk3⟩ := isLoopAt_ok hk2
      exact fin none _ _ _ _ _ _ _ _ hf2 hk3
    | ret =>
      obtain ⟨Fl2, nt2, fn2, ps2, a2, b2, db2, pd2, hf2, hk3⟩ := isLoopAt_ok hk2
      exact fin (some .ret) _ _ _ _ _ _ _ _ hf2 hk3
    | exit n =>
      obtain ⟨Fl2, nt2, fn2, ps2, a2, b2, db2, pd2, hf2, hk3⟩ := isLoopAt_ok hk2
      exact fin (some (.exit n)) _ _ _ _ _ _ _ _ hf2 hk3
    | panic ch => exact hk2.elim
  | ret => exact hk.elim
  | exit n => exact hk.elim
  | panic ch => exact hk.elim

/-- A call that comes to one of several states. -/
theorem callS_toE {ι : Type} {P : Program} {T : Tab} {C : Nat → Option Ct} (hX : ∀ G r nt, (⟨P, T, C, G, r, nt⟩ : Cx).Ok) {n : Nat} {fn : Func} {c : Code} (hf : P.funcs[n]? = some fn) (hb : fn.body = some c) {l : List SV} (hlen : l.length ≤ fn.ntmps)
    {H : List (Nat × HB)} {nx : Nat} {Rv : SV → List (Nat × HB) → Nat → Prop} {Rp : List PanicEntry → List (Nat × HB) → Nat → Prop} (v' : ι → SV) (H' : ι → List (Nat × HB)) (nx' : Nat)
    (h : ∀ G : Base, (∀ j, nx ≤ j → G.ρ j = none) → exec ⟨P, T, C, G, none, fn.ntmps⟩ c (start l H nx) (Fin ⟨P, T, C, G, none, fn.ntmps⟩ fn.results.toList (fun v st => ∃ x s, EndR nx v st.H st.nx (v' x) (H' x) nx' s) (fun _ _ => False)))
    (hk : ∀ x, Rv (v' x) (H' x) nx') : CallS P n l H nx Rv Rp := by
  intro ρ w vals hm hnx hd
  refine (callS_exec hX hf hb hlen (Rv := fun v H₁ nx₁ => ∃ x s, EndR nx v H₁ nx₁ (v' x) (H' x) nx' s) (Rp := fun _ _ _ => False) h ρ w vals hm hnx hd).mono ?_
  rintro e w' (⟨v, H₁, nx₁, ρ₁, u, rfl, h1, h2, h3, h4, x, s, hs⟩ | ⟨_, _, _, _, _, _, _, _, hF⟩)
  · have hm1 : Mod ⟨P, T, C, ⟨w, Own ρ (findH H), ρ, Fz (findH H)⟩, none, 0⟩ ρ₁ ⟨[], [], H₁, nx₁, []⟩ { tmps := #[], defers := [] } w' := {
      fm := fun t e hf => by cases hf
      gs := fun t e hf => by cases hf
      df := trivial
      hm := h2
      kp := h3
      nx := h4
      sz := rfl }
    have hm2 := hm1.ren (n0 := nx) (s := s) (st' := ⟨[], [], H' x, nx', []⟩) ⟨trivial, hs.H, hs.inj, hs.fix, hs.ge, rfl, trivial⟩ hnx
    exact .inl ⟨v' x, H' x, nx', _, u, rfl, by rw [den_envR _ hs.vi, ← SVeq_eq _ _ hs.v]; exact h1, hm2.hm, hm2.kp, hm2.nx, hk x⟩
  · exact hF.elim

/-- A call after which the caller goes on with whatever holds of it. -/
theorem callS_mono {P : Program} {n : Nat} {l : List SV} {H : List (Nat × HB)} {nx : Nat} {Rv Rv' : SV → List (Nat × HB) → Nat → Prop} {Rp Rp' : List PanicEntry → List (Nat × HB) → Nat → Prop} (h : CallS P n l H nx Rv Rp) (h1 : ∀ v H' nx', Rv v H' nx' → Rv' v H' nx')
    (h2 : ∀ ch H' nx', Rp ch H' nx' → Rp' ch H' nx') : CallS P n l H nx Rv' Rp' := by
  intro ρ w vals hm hnx hd
  refine (h ρ w vals hm hnx hd).mono ?_
  rintro e w' (⟨v, H', nx', ρ', u, rfl, k1, k2, k3, k4, k5⟩ | ⟨ch, H', nx', ρ', rfl, k2, k3, k4, k5⟩)
  · exact .inl ⟨v, H', nx', ρ', u, rfl, k1, k2, k3, k4, h1 _ _ _ k5⟩
  · exact .inr ⟨ch, H', nx', ρ', rfl, k2, k3, k4, h2 _ _ _ k5⟩

end Go.X
end
