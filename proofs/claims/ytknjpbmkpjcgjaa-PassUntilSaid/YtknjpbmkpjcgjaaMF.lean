/- Calls with some pieces of the heap alone; the greatest of three numbers; orders that come to what is not known. -/
import Derived.Test.YtknjpbmkpjcgjaaME

section
set_option linter.unusedVariables false
set_option linter.unusedSimpArgs false
set_option linter.unusedSectionVars false
/- Calls that are run through with some pieces of the heap alone. -/
set_option linter.unusedVariables false
set_option linter.unusedSimpArgs false
set_option maxRecDepth 10000
namespace Go.X
open Go

/-- Each piece of A has one in H' that stands for it. -/
def coverL (H' : List (Nat × HB)) : List (Nat × HB) → Bool
  | [] => true
  | (t, _) :: r => match findH H' t with
    | some _ => coverL H' r
    | none => false
theorem coverL_find {H' : List (Nat × HB)} : ∀ {A : List (Nat × HB)}, coverL H' A = true → ∀ t x, findH A t = some x → ∃ y, findH H' t = some y
  | (a, y) :: r, h, t, x, hf => by
    simp only [coverL] at h
    split at h
    · rename_i z hz
      by_cases e : a = t
      · subst e; exact ⟨z, hz⟩
      · rw [findH_skip e] at hf
        exact coverL_find h t x hf
    · cases h
/-- What is read only was so before. -/
def roSame (A : List (Nat × HB)) : List (Nat × HB) → Prop
  | [] => True
  | (t, .ro s n g) :: r => (match findH A t with
    | some (.ro _ m _) => n = m
    | _ => False) ∧ roSame A r
  | _ :: r => roSame A r
theorem roSame_find {A : List (Nat × HB)} : ∀ {H' : List (Nat × HB)}, roSame A H' → ∀ t s n g, findH H' t = some (.ro s n g) → ∃ s' g', findH A t = some (.ro s' n g')
  | (a, y) :: r, h, t, s, n, g, hf => by
    by_cases e : a = t
    · subst e
      rw [findH_cons, updL_self] at hf
      cases hf
      simp only [roSame] at h
      obtain ⟨h, _⟩ := h
      split at h
      · rename_i s2 m g2 hz
        subst h
        exact ⟨_, _, hz⟩
      · exact h.elim
    · rw [findH_skip e] at hf
      refine roSame_find (H' := r) ?_ t s n g hf
      cases y with
      | ro s2 n2 g2 => exact h.2
      | _ => exact h
/-- All that is in A is in H. -/
def subL (H : List (Nat × HB)) : List (Nat × HB) → Prop
  | [] => True
  | (t, x) :: r => findH H t = some x ∧ subL H r
theorem subL_find {H : List (Nat × HB)} : ∀ {A : List (Nat × HB)}, subL H A → ∀ t x, findH A t = some x → findH H t = some x
  | (a, y) :: r, h, t, x, hf => by
    by_cases e : a = t
    · subst e
      rw [findH_cons, updL_self] at hf
      cases hf
      exact h.1
    · rw [findH_skip e] at hf
      exact subL_find h.2 t x hf
theorem callS_on {P : Program} {n : Nat} {l : List SV} {H : List (Nat × HB)} {nx : Nat} {Rv : SV → List (Nat × HB) → Nat → Prop} {Rp : List PanicEntry → List (Nat × HB) → Nat → Prop} (A : List (Nat × HB)) (hA : subL H A)
    (h : CallS P n l A nx (fun v H' nx' => (coverL H' A = true ∧ roSame A H') ∧ Rv v (H' ++ H) nx') (fun ch H' nx' => (coverL H' A = true ∧ roSame A H') ∧ Rp ch (H' ++ H) nx')) : CallS P n l H nx Rv Rp := by
  intro ρ w vals hm hnx hd
  have hsub := subL_find hA
  have hmA : HM ρ (findH A) w := {
    ok := fun id hb hf => hm.ok id hb (hsub _ _ hf)
    sep := fun i j x y n₁ n₂ b h1 h2 => hm.sep i j x y n₁ n₂ b (hsub _ _ h1) (hsub _ _ h2)
    ro := fun j size m get nm b hf hpos hr hb hO => by
      refine hm.ro j size m get nm b (hsub _ _ hf) hpos hr hb ?_
      obtain ⟨id, x, nm', h1, h2, h3, h4⟩ := hO
      exact ⟨id, x, nm', hsub _ _ h1, h2, h3, h4⟩
    fam := fun b hz ho => by
      refine hm.fam b (hz.sub fun id size C h => hsub _ _ h) ?_
      obtain ⟨id, x, nm', h1, h2, h3, h4⟩ := ho
      exact ⟨id, x, nm', hsub _ _ h1, h2, h3, h4⟩ }
  have hownA : ∀ b, Own ρ (findH A) b → Own ρ (findH H) b := fun b ⟨id, x, nm', h1, h2, h3, h4⟩ => ⟨id, x, nm', hsub _ _ h1, h2, h3, h4⟩
  have hRown : ∀ t x nm b, findH A t = none → findH H t = some x → x.live = true → ρ t = some nm → nm.owner = some b → ¬ Own ρ (findH A) b := by
    intro t x nm b h0 h1 hl h2 h3 ⟨id, y, nm', g1, g2, g3, g4⟩
    have := hm.sep id t y x nm' nm b (hsub _ _ g1) h1 g2 hl g3 h2 g4 h3
    subst this
    rw [h0] at g1
    cases g1
  have back : ∀ {H' : List (Nat × HB)} {ρ' : Env} {w' : World}, coverL H' A = true → roSame A H' → HM ρ' (findH H') w' → Keep ⟨w, Own ρ (findH A), ρ, Fz (findH A)⟩ ρ' (findH H') w' →
      HM ρ' (findH (H' ++ H)) w' ∧ Keep ⟨w, Own ρ (findH H), ρ, Fz (findH H)⟩ ρ' (findH (H' ++ H)) w' := by
    intro H' ρ' w' hcov hro hm' hk'
    have cases' : ∀ t x, findH (H' ++ H) t = some x → findH H' t = some x ∨ findH H' t = none ∧ findH A t = none ∧ findH H t = some x := by
      intro t x hx
      rw [findH_app] at hx
      split at hx
      · rename_i e; cases hx; exact .inl e
      · rename_i e
        refine .inr ⟨e, ?_, hx⟩
        cases e2 : findH A t with
        | none => rfl
        | some y =>
          obtain ⟨z, hz⟩ := coverL_find hcov t y e2
          rw [e] at hz; cases hz
    have ownNew : ∀ b, Own ρ' (findH H') b → Own ρ (findH A) b ∨ w.heap.size ≤ b := fun b hO => hk'.own b hO
    -- where a piece that was left lies
    have hmk : ∀ t x, findH A t = none → findH H t = some x → ∃ nm, ρ t = some nm ∧ ρ' t = some nm ∧ HBok ρ w x nm := by
      intro t x h0 hx
      obtain ⟨nm, h1, h2⟩ := hm.ok _ _ hx
      exact ⟨nm, h1, hk'.ext _ _ h1, h2⟩
    have hlt : ∀ t x nm b, findH H t = some x → x.live = true → ρ t = some nm → nm.owner = some b → b < w.heap.size := fun t x nm b h1 h2 h3 h4 => hm.lt ⟨t, x, nm, h1, h2, h3, h4⟩
    have hrolt : ∀ t size m get nm b, findH H t = some (.ro size m get) → 0 < m → ρ t = some nm → roBlock nm = some b → b < w.heap.size := by
      intro t size m get nm b h1 hpos h3 h4
      obtain ⟨nm2, k1, k2⟩ := hm.ok t _ h1
      rw [h3] at k1; cases k1
      cases nm <;> simp only [HBok] at k2
      rename_i a n' c' s'
      obtain ⟨_, _, _, k3⟩ := k2
      obtain ⟨ad, rfl, klt, k4⟩ := k3 hpos
      simp only [roBlock, Option.some.injEq] at h4
      subst h4
      exact klt
    refine ⟨?_, ?_⟩
    · exact {
        ok := fun id hb hf => by
          rcases cases' id hb hf with h1 | ⟨_, h0, h1⟩
          · exact hm'.ok id hb h1
          · obtain ⟨nm, q1, q2, q3⟩ := hmk id hb h0 h1
            refine ⟨nm, q2, HBok_ext hk'.ext (HBok_world hk'.size ?_ ?_ ?_ q3)⟩
            · intro hl b hb'
              exact hk'.same b (hlt id hb nm b h1 hl q1 hb') (hRown id hb nm b h0 h1 hl q1 hb')
            · intro size m get b e hpos hr
              subst e
              exact hk'.same b (hrolt id size m get nm b h1 hpos q1 hr) (fun hO => hm.ro id size m get nm b h1 hpos q1 hr (hownA b hO))
            · intro size C v m get b e hc hpos hr
              subst e
              have hz : Fz (findH H) b := ⟨id, size, C, v, m, get, h1, hc, hpos, hr⟩
              exact hk'.same b (hm.fz_lt hz) (fun hO => hm.fam b hz (hownA b hO))
        sep := fun i j x y n₁ n₂ b h1 h2 l1 l2 r1 r2 o1 o2 => by
          rcases cases' i x h1 with h1 | ⟨_, z1, h1⟩ <;> rcases cases' j y h2 with h2 | ⟨_, z2, h2⟩
          · exact hm'.sep i j x y n₁ n₂ b h1 h2 l1 l2 r1 r2 o1 o2
          · obtain ⟨nm, q1, q2, q3⟩ := hmk j y z2 h2
            rw [q2] at r2; cases r2
            have k1 := hRown j y _ b z2 h2 l2 q1 o2
            have k2 := hlt j y _ b h2 l2 q1 o2
            rcases ownNew _ ⟨i, x, n₁, h1, l1, r1, o1⟩ with h | h
            · exact absurd h k1
            · omega
          · obtain ⟨nm, q1, q2, q3⟩ := hmk i x z1 h1
            rw [q2] at r1; cases r1
            have k1 := hRown i x _ b z1 h1 l1 q1 o1
            have k2 := hlt i x _ b h1 l1 q1 o1
            rcases ownNew _ ⟨j, y, n₂, h2, l2, r2, o2⟩ with h | h
            · exact absurd h k1
            · omega
          · obtain ⟨nm, q1, q2, q3⟩ := hmk i x z1 h1
            obtain ⟨nm', p1, p2, p3⟩ := hmk j y z2 h2
            rw [q2] at r1; cases r1
            rw [p2] at r2; cases r2
            exact hm.sep i j x y _ _ b h1 h2 l1 l2 q1 p1 o1 o2
        ro := fun j size m get nm b hf hpos hr hb hO => by
          obtain ⟨id, x, nm', g1, g2, g3, g4⟩ := hO
          rcases cases' j _ hf with h1 | ⟨_, z1, h1⟩
          · rcases cases' id x g1 with g1 | ⟨_, z2, g1⟩
            · exact hm'.ro j size m get nm b h1 hpos hr hb ⟨id, x, nm', g1, g2, g3, g4⟩
            · obtain ⟨nm2, q1, q2, q3⟩ := hmk id x z2 g1
              rw [q2] at g3; cases g3
              obtain ⟨s', g', e⟩ := roSame_find hro j size m get h1
              obtain ⟨nm3, p1, p2⟩ := hm.ok j _ (hsub _ _ e)
              have p3 := hk'.ext _ _ p1
              rw [hr] at p3; cases p3
              exact hm.ro j s' m g' nm b (hsub _ _ e) hpos p1 hb ⟨id, x, _, g1, g2, q1, g4⟩
          · obtain ⟨nm2, q1, q2, q3⟩ := hmk j _ z1 h1
            rw [hr] at q2; cases q2
            rcases cases' id x g1 with g1 | ⟨_, z2, g1⟩
            · rcases ownNew b ⟨id, x, nm', g1, g2, g3, g4⟩ with h | h
              · exact hm.ro j size m get nm b h1 hpos q1 hb (hownA b h)
              · have := hrolt j size m get nm b h1 hpos q1 hb
                omega
            · obtain ⟨nm3, p1, p2, p3⟩ := hmk id x z2 g1
              rw [p2] at g3; cases g3
              exact hm.ro j size m get nm b h1 hpos q1 hb ⟨id, x, _, g1, g2, p1, g4⟩
        fam := fun b hz hO => by
          obtain ⟨id, x, nm', g1, g2, g3, g4⟩ := hO
          obtain ⟨j, size, C, v, m, get, hf, hc, hpos, hb⟩ := hz
          rcases cases' j _ hf with h1 | ⟨_, z1, h1⟩
          · rcases cases' id x g1 with g1 | ⟨_, z2, g1⟩
            · exact hm'.fam b ⟨j, size, C, v, m, get, h1, hc, hpos, hb⟩ ⟨id, x, nm', g1, g2, g3, g4⟩
            · obtain ⟨nm2, q1, q2, q3⟩ := hmk id x z2 g1
              rw [q2] at g3; cases g3
              rcases hk'.fz b ⟨j, size, C, v, m, get, h1, hc, hpos, hb⟩ with h | h | h
              · exact hRown id x _ b z2 g1 g2 q1 g4 h
              · have := hlt id x _ b g1 g2 q1 g4
                have h : w.heap.size ≤ b := h
                omega
              · exact hm.fam b (h.sub fun id size C h => hsub _ _ h) ⟨id, x, _, g1, g2, q1, g4⟩
          · have hz : Fz (findH H) b := ⟨j, size, C, v, m, get, h1, hc, hpos, hb⟩
            rcases cases' id x g1 with g1 | ⟨_, z2, g1⟩
            · rcases ownNew b ⟨id, x, nm', g1, g2, g3, g4⟩ with h | h
              · exact hm.fam b hz (hownA b h)
              · have := hm.fz_lt hz
                omega
            · obtain ⟨nm3, p1, p2, p3⟩ := hmk id x z2 g1
              rw [p2] at g3; cases g3
              exact hm.fam b hz ⟨id, x, _, g1, g2, p1, g4⟩ }
    · exact {
        str := hk'.str
        size := hk'.size
        same := fun b hb hnM => hk'.same b hb (fun h => hnM (hownA b h))
        own := fun b ⟨id, x, nm', g1, g2, g3, g4⟩ => by
          rcases cases' id x g1 with g1 | ⟨_, z1, g1⟩
          · rcases ownNew b ⟨id, x, nm', g1, g2, g3, g4⟩ with h | h
            · exact .inl (hownA b h)
            · exact .inr h
          · obtain ⟨nm, q1, q2, q3⟩ := hmk id x z1 g1
            rw [q2] at g3; cases g3
            exact .inl ⟨id, x, _, g1, g2, q1, g4⟩
        ext := hk'.ext
        fz := fun b hz => by
          obtain ⟨j, size, C, v, m, get, hf, hc, hpos, hb⟩ := hz
          rcases cases' j _ hf with h1 | ⟨_, z1, h1⟩
          · exact (hk'.fz b ⟨j, size, C, v, m, get, h1, hc, hpos, hb⟩).imp (hownA b) (Or.imp id fun h => h.sub fun id size C h => hsub _ _ h)
          · exact .inr (.inr ⟨j, size, C, v, m, get, h1, hc, hpos, hb⟩) }
  refine (h ρ w vals hmA hnx hd).mono ?_
  rintro e w' (⟨v, H', nx', ρ', u, rfl, h1, h2, h3, h4, ⟨h0, h00⟩, h5⟩ | ⟨ch, H', nx', ρ', rfl, h2, h3, h4, ⟨h0, h00⟩, h5⟩)
  · obtain ⟨b1, b2⟩ := back h0 h00 h2 h3
    exact .inl ⟨v, _, nx', ρ', u, rfl, h1, b1, b2, h4, h5⟩
  · obtain ⟨b1, b2⟩ := back h0 h00 h2 h3
    exact .inr ⟨ch, _, nx', ρ', rfl, b1, b2, h4, h5⟩
end Go.X
end

section
set_option linter.unusedVariables false
set_option linter.unusedSimpArgs false
set_option linter.unusedSectionVars false
/- The greatest of three numbers; orders that come to what is not known. -/
set_option linter.unusedVariables false
set_option linter.unusedSimpArgs false
set_option maxRecDepth 10000
namespace Go.X
open Go
theorem fb_max3 {X : Cx} {st : St} {ops : List Oper} {i : Nat} {o : Oper} {r : List Oper} {Q : Exit → Act → World → Prop} {Kn : St → Prop} {Kp : List PanicEntry → St → Prop}
    {x y z : Operand} {c : Call} {d : Nat} {k k2 k3 : IntKind} {p q s : Int} (hX : X.Ok) (hC : Cont X Q Kn Kp) (hi : ops.drop i = o :: r)
    (hc : o.op = .call c) (hcl : c.callee = .builtin .max) (hca : c.args = #[x, y, z]) (hg : o.guard = none) (hdst : o.dst = some d) (hp : putN st.gs X.nt (some d) = false)
    (h1 : ev (findF st.F) [] x = some (.si k p)) (h2 : ev (findF st.F) [] y = some (.si k2 q)) (h3 : ev (findF st.F) [] z = some (.si k3 s)) (hk2 : k2 = k) (hk3 : k3 = k)
    (h : stK st fun F gs H nx D => execL X ops Q Kn Kp (i + 1) r ⟨(d, ⟨[], .si k (max (max p q) s)⟩) :: F, gs, H, nx, D⟩) : FbO X ops Q Kn Kp i o r st := by
  subst hk2 hk3
  refine fb_sem hX hC hi (by rw [hc]; intro c h; cases h) hg fun ρ a w hm => ?_
  have hs : GPsat a [] := fun x hx => by cases hx
  have e1 := ev_ok hm.fm hs h1
  have e2 := ev_ok hm.fm hs h2
  have e3 := ev_ok hm.fm hs h3
  simp only [den, Option.some.injEq] at e1 e2 e3
  rw [stK_eq] at h
  refine ⟨.int k3 (max (max p q) s), w, ρ, _, .inl ?_, hm.put (d := o.dst) (s := .si k3 (max (max p q) s)) (by rw [hdst]; exact hp) rfl, by rw [hdst]; exact h⟩
  have hargs : c.args.map a.eval = #[a.eval x, a.eval y, a.eval z] := by rw [hca]; simp
  obtain ⟨cs, hres⟩ : ∃ cs : Array Bool, ∀ w, (resolve a.eval c o.type).run X.P w = .ok { target := .builtin .max c.argTypes o.type cs, args := #[a.eval x, a.eval y, a.eval z] } w :=
    ⟨_, fun w => by simp only [resolve, hcl, hargs]; rfl⟩
  simp only [execOp, hc, Sem.run_bind, hres]
  simp only [Result.andThen, invoke, builtin]
  refine run_v ?_
  have hpq : max p q = if q > p then q else p := by
    split <;> omega
  rw [← e1, ← e2, ← e3, ← intKind_max, hpq]
  simp only [Builtin.max_]
  rfl
/-- Several operations are ready, and one of them comes to what is not known: by whichever order they run, a state of one kind is reached. -/
theorem any_forkE {X : Cx} {st : St} {K : Ex → St → Prop} {ops : Array Oper} {fuel : Nat} {listed : Array Bool} {ι : Type} (rs : List Nat) (stC : ι → St) (fuel' : Nat) (listed' : Array Bool) (hX : X.Ok) (hr : Region.ready .any ops listed = rs) (hne : rs ≠ [])
    (hb : ∀ K : Ex → St → Prop, (∀ x, AnyS X ops fuel' listed' (stC x) K) → stepsK X ops fuel listed st K rs) (h : ∀ x, AnyS X ops fuel' listed' (stC x) K) : AnyS X ops (fuel + 1) listed st K :=
  any_step rs hX hr hne (hb K h)
end Go.X
end
