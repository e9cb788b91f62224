/- Orders that come together under weaker premises, calls whose values go on, slices of frozen pieces. -/
import Derived.Test.YtknjpbmkpjcgjaaMI
import Derived.Test.YtknjpbmkpjcgjaaMD

section
set_option linter.unusedVariables false
set_option linter.unusedSimpArgs false
set_option linter.unusedSectionVars false
/- Operations that wrap; slices that are compared with nil. -/
set_option linter.unusedVariables false
set_option linter.unusedSimpArgs false
set_option maxRecDepth 10000
namespace Go.X
open Go
section
variable {X : Cx} {st : St}

/-- A difference that may wrap. -/
theorem fb_wrapSub (k : IntKind) (p q : Int) {ops : List Oper} {i : Nat} {o : Oper} {r : List Oper} {Q : Exit → Act → World → Prop} {K : St → Prop} {Kp : List PanicEntry → St → Prop} {t t' d : Nat} {x y : Operand}
    (hX : X.Ok) (hC : Cont X Q K Kp) (hi : ops.drop i = o :: r) (hc : o.op = .binOp .sub t x y t') (hg : o.guard = none) (hp : putN st.gs X.nt o.dst = false) (hdst : o.dst = some d)
    (h1 : ev (findF st.F) [] x = some (.sv (.int k p))) (h2 : ev (findF st.F) [] y = some (.si k q))
    (h : stK st fun F gs H nx D => execL X ops Q K Kp (i + 1) r ⟨(d, ⟨[], .si k (k.wrap (p - q))⟩) :: F, gs, H, nx, D⟩) : FbO X ops Q K Kp i o r st := by
  refine fb_sem hX hC hi (by rw [hc]; intro c h; cases h) hg fun ρ a w hm => ?_
  have hss : GPsat a [] := fun x hx => by cases hx
  have e1 := ev_ok hm.fm hss h1
  have e2 := ev_ok hm.fm hss h2
  simp only [den, Value.oneCell', if_true, Option.some.injEq] at e1 e2
  have hrun : (do eqGuard .sub t x y (a.eval x) (a.eval y); binOp .sub t (a.eval x) (a.eval y) : Sem Value).run X.P w = .ok (.int k (k.wrap (p - q))) w := by
    rw [← e1, ← e2, Sem.run_bind, eqGuard_int]
    simp [binOp, Op.intArith, Result.andThen]
  refine ⟨_, w, ρ, _, .inl ?_, hm.put (d := o.dst) (s := .si k (k.wrap (p - q))) hp rfl, ?_⟩
  · simp only [execOp, hc]; exact run_v hrun
  · rw [stK_eq] at h; rw [hdst]; exact h

/-- Is a slice that is read nil? If it has elements, no. -/
theorem fb_eqNil (id sz n : Nat) (get : Nat → List SV) {ops : List Oper} {i : Nat} {o : Oper} {r : List Oper} {Q : Exit → Act → World → Prop} {K : St → Prop} {Kp : List PanicEntry → St → Prop} {t t' d e : Nat} {x : Operand} {ti : TI}
    (hX : X.Ok) (hC : Cont X Q K Kp) (hi : ops.drop i = o :: r) (hc : o.op = .binOp .eql t x (.const (.slice none 0 0)) t') (hg : o.guard = none) (hp : putN st.gs X.nt o.dst = false) (hdst : o.dst = some d)
    (ht : X.T t = some ti) (hd : ti.desc = .slice e)
    (h1 : ev (findF st.F) [] x = some (.sl id)) (h2 : findH st.H id = some (.ro sz n get))
    (h : ∀ b : Bool, (0 < n → b = false) → stK st fun F gs H nx D => execL X ops Q K Kp (i + 1) r ⟨(d, ⟨[], .sb b⟩) :: F, gs, H, nx, D⟩) : FbO X ops Q K Kp i o r st := by
  refine fb_sem hX hC hi (by rw [hc]; intro c h; cases h) hg fun ρ a w hm => ?_
  have hss : GPsat a [] := fun x hx => by cases hx
  have e1 := ev_ok hm.fm hss h1
  obtain ⟨nm, k1, k2⟩ := hm.hm.ok _ _ h2
  cases nm with
  | sl ad n' cp s' =>
    obtain ⟨rfl, -, -, k3⟩ := k2
    simp only [den, k1, Option.some.injEq] at e1
    have hq : ∀ w : World, (Op.equalIn 10000 t (.slice ad n' cp) (.slice none 0 0)).run X.P w = .ok ad.isNone w := by
      intro w
      rw [show (10000 : Nat) = 9999 + 1 from rfl, Op.equalIn]
      simp only [Sem.run_bind, run_und hX.tab ht, Result.andThen_ok, hd]
      cases ad <;> simp only [Sem.run_pure] <;> rfl
    have hrun : (do eqGuard .eql t x (.const (.slice none 0 0)) (a.eval x) (a.eval (.const (.slice none 0 0))); binOp .eql t (a.eval x) (a.eval (.const (.slice none 0 0))) : Sem Value).run X.P w = .ok (.bool ad.isNone) w := by
      rw [← e1, Sem.run_bind]
      simp [eqGuard, binOp, Op.equal, Op.maxDepth, Act.eval, hq, Result.andThen]
    refine ⟨_, w, ρ, _, .inl ?_, hm.put (d := o.dst) (s := .sb ad.isNone) hp rfl, ?_⟩
    · simp only [execOp, hc]; exact run_v hrun
    · have h := h ad.isNone (fun hn => by obtain ⟨_, rfl, _⟩ := k3 hn; rfl)
      rw [stK_eq] at h; rw [hdst]; exact h
  | _ => exact k2.elim
end
end Go.X
end

section
set_option linter.unusedVariables false
set_option linter.unusedSimpArgs false
set_option linter.unusedSectionVars false
/- Slices that are told of, or nil, are looked at. -/
set_option linter.unusedVariables false
set_option linter.unusedSimpArgs false
set_option maxRecDepth 10000
namespace Go.X
open Go
section
variable {X : Cx} {ρ : Env} {st : St} {a : Act} {w : World}
/-- A new id for nil, to be read. -/
theorem Mod.nilRo (hm : Mod X ρ st a w) (s : Nat) (get : Nat → List SV) : Mod X (upd ρ st.nx (.sl none 0 0 s)) { st with H := (st.nx, .ro s 0 get) :: st.H, nx := st.nx + 1 } a w := by
  have hf : ρ st.nx = none := hm.nx _ (Nat.le_refl _)
  exact {
    fm := hm.fm.ext (Ext.upd _ hf)
    gs := hm.gs
    df := hm.df.ext (Ext.upd _ hf)
    hm := {
      ok := fun j hb hj => by
        rw [findH_cons] at hj
        by_cases e : st.nx = j
        · subst e; rw [updL_self] at hj; cases hj
          exact ⟨_, upd_self _ _ _, rfl, rfl, Nat.le_refl _, fun h => absurd h (Nat.lt_irrefl _)⟩
        · rw [updL_ne _ _ e] at hj
          obtain ⟨nm, h1, h2⟩ := hm.hm.ok j hb hj
          exact ⟨nm, by rw [upd_ne _ _ (Ne.symm e)]; exact h1, HBok_ext (Ext.upd _ hf) h2⟩
      sep := fun i j x y n₁ n₂ b h1 h2 l1 l2 r1 r2 o1 o2 => by
        rw [findH_cons] at h1 h2
        by_cases e1 : st.nx = i
        · subst e1; rw [upd_self] at r1; cases r1; cases o1
        · by_cases e2 : st.nx = j
          · subst e2; rw [upd_self] at r2; cases r2; cases o2
          · rw [updL_ne _ _ e1] at h1; rw [updL_ne _ _ e2] at h2
            rw [upd_ne _ _ (Ne.symm e1)] at r1; rw [upd_ne _ _ (Ne.symm e2)] at r2
            exact hm.hm.sep i j x y n₁ n₂ b h1 h2 l1 l2 r1 r2 o1 o2
      ro := fun j size n get' nm b hj hn hr hb ho => by
        rw [findH_cons] at hj
        by_cases e : st.nx = j
        · subst e; rw [updL_self] at hj; cases hj; omega
        · rw [updL_ne _ _ e] at hj
          rw [upd_ne _ _ (Ne.symm e)] at hr
          rcases Own.cons hf ho with h | h
          · cases h
          · exact hm.hm.ro j size n get' nm b hj hn hr hb h
      fam := fun b hz ho => by
        rw [findH_cons] at hz
        rcases Own.cons hf ho with h | h
        · cases h
        · exact hm.hm.fam b (hz.upd fun s C h => by cases h) h }
    kp := {
      str := hm.kp.str
      size := hm.kp.size
      same := hm.kp.same
      own := fun b ho => by
        rcases Own.cons hf ho with h | h
        · cases h
        · exact hm.kp.own b h
      ext := hm.kp.ext.trans (Ext.upd _ hf)
      fz := fun b hz => hm.kp.fz b (by rw [findH_cons] at hz; exact hz.upd fun s C h => by cases h) }
    nx := fun j hj => by
      have : st.nx + 1 ≤ j := hj
      rw [upd_ne _ _ (by omega)]; exact hm.nx j (by omega)
    sz := hm.sz }
/-- A slice that is told of, or nil. -/
def toldV (C : Value → Nat → (Nat → List SV) → Prop) (v : Value) (n : Nat) (get : Nat → List SV) : Prop :=
  (v = .slice none 0 0 ∧ n = 0) ∨ ∃ ad c, v = .slice (some ad) n c ∧ C v n get
/-- A slice that is told of, or nil, is looked at: the slot d says u. -/
def lookK (fid d : Nat) (v : Value) (n : Nat) (get : Nat → List SV) (u : SV) (st : St) (Kst : St → Prop) : Prop :=
  match findH st.H fid, findF st.F d with
  | some (.fam size C), some ⟨[], x⟩ => toldV C v n get ∧ frzSV st.nx v u = x ∧
      natF (st.nx + 1) fun nx' => Kst ⟨(d, ⟨[], u⟩) :: st.F, st.gs, (st.nx, .ro size n get) :: st.H, nx', st.D⟩
  | _, _ => False
theorem look_ok {fid d n : Nat} {v : Value} {get : Nat → List SV} {u : SV} {Kst : St → Prop} (h : lookK fid d v n get u st Kst) (hm : Mod X ρ st a w) : ∃ ρ' st', Mod X ρ' st' a w ∧ Kst st' := by
  unfold lookK at h
  split at h
  · rename_i size C x e1 e2
    obtain ⟨hc, hu, h⟩ := h
    rw [natF_eq] at h
    rcases hc with ⟨rfl, rfl⟩ | ⟨ad, c, rfl, hc⟩
    · have hm' := hm.nilRo size get
      have hd : den (upd ρ st.nx (.sl none 0 0 size)) (.sl st.nx) = some (.slice none 0 0) := by simp [den, upd_self]
      exact ⟨_, _, hm'.reslot (u' := u) e2 (by rw [← hu, den_frz rfl hd]), h⟩
    · have hm' := hm.focus e1 hc
      have hd : den (upd ρ st.nx (.sl (some ad) n c size)) (.sl st.nx) = some (.slice (some ad) n c) := by simp [den, upd_self]
      exact ⟨_, _, hm'.reslot (u' := u) e2 (by rw [← hu, den_frz rfl hd]), h⟩
  · exact h.elim
theorem fb_look (fid d n : Nat) (v : Value) (get : Nat → List SV) (u : SV) {ops : List Oper} {i : Nat} {o : Oper} {r : List Oper} {Q : Exit → Act → World → Prop} {K : St → Prop} {Kp : List PanicEntry → St → Prop} (hX : X.Ok) (hC : Cont X Q K Kp) (hi : ops.drop i = o :: r)
    (h : lookK fid d v n get u st fun st => execL X ops Q K Kp i (o :: r) st) : FbO X ops Q K Kp i o r st :=
  ⟨fun ρ a w hm => let ⟨ρ', st', h1, h2⟩ := look_ok h hm; (fb_again hX hC hi h2).h ρ' a w h1⟩
/-- A slot that holds nil. -/
theorem fb_nilSlot (d T s : Nat) (get : Nat → List SV) {ops : List Oper} {i : Nat} {o : Oper} {r : List Oper} {Q : Exit → Act → World → Prop} {K : St → Prop} {Kp : List PanicEntry → St → Prop} (hX : X.Ok) (hC : Cont X Q K Kp) (hi : ops.drop i = o :: r)
    (h1 : findF st.F d = some ⟨[], .sv (.slice none 0 0)⟩)
    (h : stK st fun F gs H nx D => natF (nx + 1) fun nx' => execL X ops Q K Kp i (o :: r) ⟨(d, ⟨[], .sl nx⟩) :: F, gs, (nx, .vec T s 0 get) :: H, nx', D⟩) : FbO X ops Q K Kp i o r st :=
  ⟨fun ρ a w hm => by
    rw [stK_eq, natF_eq] at h
    have hm' := hm.nilNew T s get
    have hm2 := hm'.reslot (d := d) (u := .sv (.slice none 0 0)) (u' := .sl st.nx) h1 (by simp [den, upd_self, Value.oneCell'])
    exact (fb_again hX hC hi h).h _ a w hm2⟩
end
end Go.X
end

section
set_option linter.unusedVariables false
set_option linter.unusedSimpArgs false
set_option linter.unusedSectionVars false
/- Regions of any order: a part that is followed set by set (also in a round of a range over a function). -/
set_option linter.unusedVariables false
set_option linter.unusedSimpArgs false
set_option maxRecDepth 10000
set_option maxHeartbeats 4000000
namespace Go.X
open Go

/-- All of these slots are there. -/
def subF (F : List (Nat × FE)) : List (Nat × FE) → Prop
  | [] => True
  | (d, e) :: r => (findF F d = some e ∧ e.gp = []) ∧ subF F r
/-! Operations that only read, in whatever order: each of them is looked at once. -/
theorem findF_mem {A : List (Nat × FE)} : ∀ {L : List (Nat × FE)}, (∀ p ∈ L, findF A p.1 = some p.2) → ∀ {t : Nat} {e : FE}, (findF L t = some e → findF A t = some e ∧ (t, e) ∈ L) ∧ ((t, e) ∈ L → findF L t = some e)
  | [], _, t, e => ⟨fun h => (by cases h), fun h => (by cases h)⟩
  | (d, x) :: r, hc, t, e => by
    have ih := findF_mem (A := A) (L := r) (fun p hp => hc p (List.mem_cons_of_mem _ hp)) (t := t) (e := e)
    have h0 := hc (d, x) List.mem_cons_self
    simp only [findF]
    constructor
    · intro h
      split at h
      · rename_i hd
        cases h
        have : d = t := Nat.eq_of_beq_eq_true hd
        subst this
        exact ⟨h0, List.mem_cons_self⟩
      · obtain ⟨h1, h2⟩ := ih.1 h
        exact ⟨h1, List.mem_cons_of_mem _ h2⟩
    · intro h
      split
      · rename_i hd
        have : d = t := Nat.eq_of_beq_eq_true hd
        subst this
        have h1 := hc (d, e) h
        rw [h0] at h1
        exact h1
      · rename_i hd
        rcases List.mem_cons.1 h with h | h
        · cases h
          rw [Nat.beq_refl] at hd
          exact absurd rfl hd
        · exact ih.2 h
theorem mod_sub {X : Cx} {ρ : Env} {A F F' : List (Nat × FE)} {gs : List Nat} {H : List (Nat × HB)} {nx nx' : Nat} {D : List SDef} {a : Act} {w : World} (hA : ∀ p ∈ A, findF A p.1 = some p.2 ∧ p.2.gp = []) (h1 : ∀ p ∈ F, p ∈ A) (h2 : ∀ p ∈ F', p ∈ F) (hn : nx ≤ nx')
    (hm : Mod X ρ ⟨F, gs, H, nx, D⟩ a w) : Mod X ρ ⟨F', [], H, nx', D⟩ a w := by
  have key : ∀ t e, findF F' t = some e → findF F t = some e ∧ e.gp = [] := fun t e h => by
    have m := ((findF_mem (A := A) (L := F') fun p hp => (hA p (h1 p (h2 p hp))).1).1 h).2
    exact ⟨(findF_mem (A := A) (L := F) fun p hp => (hA p (h1 p hp)).1).2 (h2 _ m), (hA _ (h1 _ (h2 _ m))).2⟩
  exact {
    fm := fun t e h => hm.fm t e (key t e h).1
    gs := fun t e h x hx => by rw [(key t e h).2] at hx; cases hx
    df := hm.df
    hm := hm.hm
    kp := hm.kp
    nx := fun j hj => hm.nx j (Nat.le_trans hn hj)
    sz := hm.sz }
def allB : Nat → List (List Bool)
  | 0 => [[]]
  | n + 1 => (allB n).flatMap fun l => [false :: l, true :: l]
theorem mem_allB : ∀ (l : List Bool), l ∈ allB l.length
  | [] => List.mem_cons_self
  | b :: r => by
    refine List.mem_flatMap.2 ⟨r, mem_allB r, ?_⟩
    cases b <;> simp
def clB2 (anc : Nat → List Nat) (l : List Bool) : Bool := (List.range l.length).all fun i => !(l.getD i false) || (anc i).all fun j => l.getD j false
def slF (slots : Nat → List (Nat × FE)) (base : List (Nat × FE)) (l : List Bool) : List (Nat × FE) := ((List.range l.length).flatMap fun i => if l.getD i false = true then slots i else []) ++ base
theorem slF_mem {slots : Nat → List (Nat × FE)} {base : List (Nat × FE)} {l : List Bool} {p : Nat × FE} : p ∈ slF slots base l ↔ (∃ i, i < l.length ∧ l.getD i false = true ∧ p ∈ slots i) ∨ p ∈ base := by
  unfold slF
  rw [List.mem_append, List.mem_flatMap]
  constructor
  · rintro (⟨i, hi, hp⟩ | hp)
    · left
      split at hp
      · rename_i h
        exact ⟨i, List.mem_range.1 hi, h, hp⟩
      · cases hp
    · exact .inr hp
  · rintro (⟨i, hi, h, hp⟩ | hp)
    · exact .inl ⟨i, List.mem_range.2 hi, by rw [if_pos h]; exact hp⟩
    · exact .inr hp
def latX (ops : Array Oper) (m : Nat) (arr : List Bool → Array Bool) (opi : Nat → Nat) (ex : List Bool → Bool) (anc : Nat → List Nat) (l : List Bool) : Bool :=
  !clB2 anc l || (ex l || (let rs := Region.ready .any ops (arr l); !rs.isEmpty && rs.all fun o => (List.range m).any fun i => opi i == o && (!(l.getD i true) && ((anc i).all (fun j => l.getD j false) && (arr l).setIfInBounds o true == arr (l.set i true)))))
theorem any_latX {X : Cx} {ops : Array Oper} {K : Ex → St → Prop} (hX : X.Ok) (m : Nat) (arr : List Bool → Array Bool) (opi : Nat → Nat) (ex : List Bool → Bool) (slots : Nat → List (Nat × FE)) (base : List (Nat × FE)) (Hf : List Bool → List (Nat × HB)) (nxf : List Bool → Nat) (anc : Nat → List Nat) (rest : Nat)
    (hanc : ∀ i, i < m → ∀ j ∈ anc i, j < m) (hchk : ∀ l ∈ allB m, latX ops m arr opi ex anc l = true) (hA : subF (slF slots base (List.replicate m true)) (slF slots base (List.replicate m true)))
    (hst : ∀ i, i < m → ∀ l : List Bool, l.length = m → l.getD i true = false → (∀ j ∈ anc i, l.getD j false = true) → clB2 anc l = true → ∃ o, ops[opi i]? = some o ∧ o.guard = none ∧ ∀ (tail : List (Nat × FE)) (Q : Exit → Act → World → Prop) (Kn : St → Prop), Cont X Q Kn (fun _ _ => False) → Kn ⟨slots i ++ ((anc i).flatMap slots ++ (base ++ tail)), [], Hf (l.set i true), nxf (l.set i true), []⟩ →
      execL X [o] Q Kn (fun _ _ => False) 0 [o] ⟨(anc i).flatMap slots ++ (base ++ tail), [], Hf l, nxf l, []⟩)
    (hend : ∀ l : List Bool, l.length = m → ex l = true → AnyS X ops (l.count false + rest) (arr l) ⟨slF slots base l, [], Hf l, nxf l, []⟩ K) :
    ∀ l : List Bool, l.length = m → clB2 anc l = true → AnyS X ops (l.count false + rest) (arr l) ⟨slF slots base l, [], Hf l, nxf l, []⟩ K := by
  have hA' : ∀ p ∈ slF slots base (List.replicate m true), findF (slF slots base (List.replicate m true)) p.1 = some p.2 ∧ p.2.gp = [] := by
    generalize slF slots base (List.replicate m true) = A at hA
    have : ∀ L : List (Nat × FE), subF A L → ∀ p ∈ L, findF A p.1 = some p.2 ∧ p.2.gp = [] := by
      intro L
      induction L with
      | nil => intro _ p hp; cases hp
      | cons q r ih =>
        intro h p hp
        obtain ⟨d, e⟩ := q
        rcases List.mem_cons.1 hp with rfl | hp
        · exact h.1
        · exact ih h.2 p hp
    exact this A hA
  have hall : ∀ l : List Bool, l.length = m → ∀ p ∈ slF slots base l, p ∈ slF slots base (List.replicate m true) := by
    intro l hl p hp
    rcases slF_mem.1 hp with ⟨i, hi, _, h⟩ | h
    · refine slF_mem.2 (.inl ⟨i, by simpa [hl] using hi, ?_, h⟩)
      have : i < m := hl ▸ hi
      simp [List.getD, this]
    · exact slF_mem.2 (.inr h)
  have main : ∀ k, ∀ l : List Bool, l.length = m → clB2 anc l = true → l.count false = k → AnyS X ops (k + rest) (arr l) ⟨slF slots base l, [], Hf l, nxf l, []⟩ K := by
    intro k
    induction k with
    | zero =>
      intro l hl hcl hk
      have hc := hchk l (hl ▸ mem_allB l)
      cases he : ex l with
      | true => have := hend l hl he; rw [hk] at this; exact this
      | false =>
        unfold latX at hc
        rw [hcl, he] at hc
        simp only [Bool.not_true, Bool.false_or, Bool.and_eq_true, Bool.not_eq_true', List.all_eq_true, List.any_eq_true, beq_iff_eq] at hc
        obtain ⟨hne, hrs⟩ := hc
        cases hr : Region.ready .any ops (arr l) with
        | nil => rw [hr] at hne; cases hne
        | cons o r =>
          obtain ⟨i, him, -, hif, -⟩ := hrs o (by rw [hr]; exact List.mem_cons_self)
          have him : i < m := List.mem_range.1 him
          have hil : i < l.length := by omega
          have hli2 : l[i] = false := by
            rw [List.getD, List.getElem?_eq_getElem hil] at hif
            simpa using hif
          have : false ∈ l := hli2 ▸ List.getElem_mem hil
          have := List.count_pos_iff.2 this
          omega
    | succ k ih =>
      intro l hl hcl hk
      have hc := hchk l (hl ▸ mem_allB l)
      cases he : ex l with
      | true => have := hend l hl he; rw [hk] at this; exact this
      | false =>
      unfold latX at hc
      rw [hcl, he] at hc
      simp only [Bool.not_true, Bool.false_or, Bool.and_eq_true, Bool.not_eq_true', List.all_eq_true, List.any_eq_true, beq_iff_eq] at hc
      obtain ⟨hne, hrs⟩ := hc
      refine ⟨fun ρ a w hmod => ?_⟩
      rw [show k + 1 + rest = (k + rest) + 1 by omega]
      refine wpAnyIn_all (rs := Region.ready .any ops (arr l)) rfl (by intro h; rw [h] at hne; cases hne) fun oi hi => ?_
      obtain ⟨i, him, rfl, hif, hia, hset⟩ := hrs oi hi
      have him : i < m := List.mem_range.1 him
      have hil : i < l.length := by omega
      obtain ⟨o, ho, hg, hstep⟩ := hst i him l hl hif hia hcl
      rw [hset]
      have hlen : (l.set i true).length = m := by rw [List.length_set, hl]
      have hget : ∀ j, (l.set i true).getD j false = true ↔ j = i ∨ l.getD j false = true := by
        intro j
        simp only [List.getD, List.getElem?_set]
        by_cases e : i = j
        · subst e; simp [hil]
        · simp [e, Ne.symm e]
      have hcl' : clB2 anc (l.set i true) = true := by
        unfold clB2 at hcl ⊢
        rw [List.all_eq_true] at hcl ⊢
        intro j hj
        rw [List.length_set] at hj
        have h0 := hcl j hj
        cases hd : (l.set i true).getD j false with
        | false => rfl
        | true =>
          rw [Bool.not_true, Bool.false_or, List.all_eq_true]
          intro q hq
          refine (hget q).2 ?_
          rcases (hget j).1 hd with rfl | hd
          · exact .inr (hia q hq)
          · rw [hd] at h0
            rw [Bool.not_true, Bool.false_or, List.all_eq_true] at h0
            exact .inr (h0 q hq)
      have hcount : (l.set i true).count false = k := by
        have hli : l[i]? = some false := by
          have : l.getD i true = false := hif
          rw [List.getD, List.getElem?_eq_getElem hil] at this
          rw [List.getElem?_eq_getElem hil]
          simpa using this
        have hli2 : l[i] = false := by rw [List.getElem?_eq_getElem hil] at hli; simpa using hli
        have := List.count_set (a := true) (b := false) (l := l) (i := i) hil
        rw [hli2] at this
        simp at this
        omega
      have ihh := ih (l.set i true) hlen hcl' hcount
      have hmem : ∀ p ∈ (anc i).flatMap slots ++ (base ++ slF slots base l), p ∈ slF slots base l := by
        intro p hp
        rcases List.mem_append.1 hp with hp | hp
        · obtain ⟨j, hj, hp⟩ := List.mem_flatMap.1 hp
          exact slF_mem.2 (.inl ⟨j, hl ▸ hanc i him j hj, hia j hj, hp⟩)
        · rcases List.mem_append.1 hp with hp | hp
          · exact slF_mem.2 (.inr hp)
          · exact hp
      have hmod' := mod_sub (F' := (anc i).flatMap slots ++ (base ++ slF slots base l)) hA' (hall l hl) hmem (Nat.le_refl _) hmod
      refine stepsK_ok hX (l := [opi i]) (K := K) (st := ⟨(anc i).flatMap slots ++ (base ++ slF slots base l), [], Hf l, nxf l, []⟩) ⟨?_, trivial⟩ (opi i) (List.mem_singleton.2 rfl) ρ a w hmod' |> fun h => by rw [hset] at h; exact h
      have hnth : nth ops.toList (opi i) = some o := by rw [nth_eq, Array.getElem?_toList]; exact ho
      rw [hnth]
      show (match o.guard with
        | none => _
        | some _ => False)
      rw [hg]
      refine hstep _ _ _ cont_any ?_
      rw [hset]
      refine ⟨fun ρ a w hm2 => ?_⟩
      refine ihh.h ρ a w (mod_sub (F := slots i ++ ((anc i).flatMap slots ++ (base ++ slF slots base l))) (nx := nxf (l.set i true)) hA' ?_ ?_ (Nat.le_refl _) hm2)
      · intro p hp
        rcases List.mem_append.1 hp with hp | hp
        · refine slF_mem.2 (.inl ⟨i, by simpa using him, ?_, hp⟩)
          simp [List.getD, him]
        · exact hall l hl p (hmem p hp)
      · intro p hp
        rcases slF_mem.1 hp with ⟨j, hj, hd, hp2⟩ | hp2
        · rw [List.length_set] at hj
          rcases (hget j).1 hd with e | hd
          · exact List.mem_append_left _ (e ▸ hp2)
          · exact List.mem_append_right _ (List.mem_append_right _ (List.mem_append_right _ (slF_mem.2 (.inl ⟨j, hj, hd, hp2⟩))))
        · exact List.mem_append_right _ (List.mem_append_right _ (List.mem_append_left _ hp2))
  exact fun l hl hcl => main _ l hl hcl rfl
section
variable {X : Cx} {st : St}
/-- What an interface holds is not of the type that is asked for (a struct): zero, and false. -/
theorem fb_assertNo (t : Nat) (v z : SV) {ops : List Oper} {i : Nat} {o : Oper} {r : List Oper} {Q : Exit → Act → World → Prop} {K : St → Prop} {Kp : List PanicEntry → St → Prop} {xt asserted d : Nat} {x : Operand} {ti : TI}
    (hX : X.Ok) (hC : Cont X Q K Kp) (hi : ops.drop i = o :: r) (hc : o.op = .typeAssert x xt asserted true) (hg : o.guard = none) (hp : putN st.gs X.nt o.dst = false) (hdst : o.dst = some d)
    (ht : X.T asserted = some ti) (hni : ∀ m, ti.desc ≠ .interface m) (hne : Nat.beq t asserted = false) (hz : zeroS ti.zero = some z)
    (h1 : ev (findF st.F) [] x = some (.ifc t v))
    (h : stK st fun F gs H nx D => execL X ops Q K Kp (i + 1) r ⟨(d, ⟨[], .tup [z, .sb false]⟩) :: F, gs, H, nx, D⟩) : FbO X ops Q K Kp i o r st := by
  refine fb_sem hX hC hi (by rw [hc]; intro c h; cases h) hg fun ρ a w hm => ?_
  have hss : GPsat a [] := fun x hx => by cases hx
  have h1 := ev_ok hm.fm hss h1
  obtain ⟨u, hu, h1⟩ : ∃ u, den ρ v = some u ∧ a.eval x = .iface t u := by
    simp only [den] at h1
    split at h1
    · rename_i u hu; exact ⟨u, hu, (Option.some.inj h1).symm⟩
    · cases h1
  have e3 : ¬ t = asserted := fun he => by rw [he] at hne; simp at hne
  have hrun : (Instr.typeAssert (a.eval x) xt asserted true).run X.P w = .ok (.tuple #[ti.zero, .bool false]) w := by
    rw [h1]
    simp only [Instr.typeAssert, Sem.run_bind, run_und hX.tab ht, Result.andThen_ok]
    split
    · rename_i hm; exact absurd hm e3
    · simp [run_zero hX.tab ht, Result.andThen]
  refine ⟨.tuple #[ti.zero, .bool false], w, ρ, _, .inl ?_, hm.put (d := o.dst) (s := .tup [z, .sb false]) hp (by simp [den, denL, zeroS_den ρ hz]), ?_⟩
  · simp only [execOp, hc]; exact run_v hrun
  · rw [stK_eq] at h; rw [hdst]; exact h
end
end Go.X
end

section
set_option linter.unusedVariables false
set_option linter.unusedSimpArgs false
set_option linter.unusedSectionVars false
/- A cell that holds a slice that is told of is looked at. -/
set_option linter.unusedVariables false
set_option linter.unusedSimpArgs false
set_option maxRecDepth 10000
namespace Go.X
open Go
section
variable {X : Cx} {st : St}
theorem sem_lookCell (fid id Tc n size : Nat) (v : Value) (get : Nat → List SV) (cs cs' : List SV) {C : Value → Nat → (Nat → List SV) → Prop} {c : Code} {K : Ex → St → Prop} (h1 : findH st.H id = some (.cells Tc cs)) (h2 : findH st.H fid = some (.fam size C)) (hc : toldV C v n get) (hu : frzL st.nx v cs' = cs)
    (h : stK st fun F gs H nx D => natF (nx + 1) fun nx' => SemC X c ⟨F, gs, (id, .cells Tc cs') :: (nx, .ro size n get) :: H, nx', D⟩ K) : SemC X c st K := by
  intro ρ a w hm
  rw [stK_eq, natF_eq] at h
  have hid : id ≠ st.nx := fun e => by
    obtain ⟨nm, h2, _⟩ := hm.hm.ok _ _ h1
    rw [hm.nx id (by omega)] at h2; cases h2
  obtain ⟨nm, h3, h4⟩ := hm.hm.ok _ _ h1
  have key : ∀ ρ', Ext ρ ρ' → Mod X ρ' { st with H := (st.nx, .ro size n get) :: st.H, nx := st.nx + 1 } a w → v.oneCell' = true → den ρ' (.sl st.nx) = some v → (∀ j, j ≠ st.nx → ρ' j = ρ j) → c.wpIn (FW X.r) 0 X.P (Qof X K) a w := by
    intro ρ' hx hm2 hv hd hs
    have h5 : findH ((st.nx, .ro size n get) :: st.H) id = some (.cells Tc cs) := by
      rw [findH_cons, updL_ne _ _ (Ne.symm hid)]; exact h1
    refine h _ a w (hm2.swap (hb' := .cells Tc cs') h5 rfl (nm := nm) (by rw [hs id hid]; exact h3) ?_ (fun _ _ _ h => by cases h))
    have h6 := HBok_ext hx h4
    cases nm <;> simp only [HBok] at h6 ⊢
    obtain ⟨vs, d1, d2, d3⟩ := h6
    exact ⟨vs, by rw [← denL_frz hv hd, hu]; exact d1, d2, d3⟩
  rcases hc with ⟨rfl, rfl⟩ | ⟨ad, k, rfl, hc⟩
  · exact key _ (Ext.upd _ (hm.nx _ (Nat.le_refl _))) (hm.nilRo size get) rfl (by simp [den, upd_self]) (fun j hj => upd_ne _ _ hj)
  · exact key _ (Ext.upd _ (hm.nx _ (Nat.le_refl _))) (hm.focus h2 hc) rfl (by simp [den, upd_self]) (fun j hj => upd_ne _ _ hj)
end
end Go.X
end

section
set_option linter.unusedVariables false
set_option linter.unusedSimpArgs false
set_option linter.unusedSectionVars false
/- Calls of functions with a range over a function, that come to a state. -/
set_option linter.unusedVariables false
set_option linter.unusedSimpArgs false
set_option maxRecDepth 10000
namespace Go.X
open Go
theorem callS_toEM {ι : Type} {P : Program} {T : Tab} {C : Nat → Option Ct} (hX : ∀ G r nt, (⟨P, T, C, G, r, nt⟩ : Cx).Ok) {n : Nat} {fn : Func} {c : Code} (hf : P.funcs[n]? = some fn) (hb : fn.body = some c) {l : List SV} (hlen : l.length ≤ fn.ntmps)
    {H : List (Nat × HB)} {nx : Nat} {Rv : SV → List (Nat × HB) → Nat → Prop} {Rp : List PanicEntry → List (Nat × HB) → Nat → Prop} (v' : ι → SV) (H' : ι → List (Nat × HB)) (nx' : Nat)
    (h : ∀ G : Base, (∀ j, nx ≤ j → G.ρ j = none) → exec ⟨P, T, C, G, none, fn.ntmps⟩ c (start l H nx) (FinM ⟨P, T, C, G, none, fn.ntmps⟩ fn.results.toList (fun v st => ∃ x s, EndR nx v st.H st.nx (v' x) (H' x) nx' s) (fun _ _ => False)))
    (hk : ∀ x, Rv (v' x) (H' x) nx') : CallS P n l H nx Rv Rp := by
  intro ρ w vals hm hnx hd
  refine (callS_execM hX hf hb hlen (Rv := fun v H₁ nx₁ => ∃ x s, EndR nx v H₁ nx₁ (v' x) (H' x) nx' s) (Rp := fun _ _ _ => False) h ρ w vals hm hnx hd).mono ?_
  rintro e w' (⟨v, H₁, nx₁, ρ₁, u, rfl, h1, h2, h3, h4, x, s, hs⟩ | ⟨_, _, _, _, _, _, _, _, hF⟩)
  · have hm1 : Mod ⟨P, T, C, ⟨w, Own ρ (findH H), ρ, Fz (findH H)⟩, none, 0⟩ ρ₁ ⟨[], [], H₁, nx₁, []⟩ { tmps := #[], defers := [] } w' := {
      fm := fun t e hf => by cases hf
      gs := fun t e hf => by cases hf
      df := trivial
      hm := h2
      kp := h3
      nx := h4
      sz := rfl }
    have hm2 := hm1.ren (n0 := nx) (s := s) (st' := ⟨[], [], H' x, nx', []⟩) ⟨trivial, hs.H, hs.inj, hs.fix, hs.ge, rfl, trivial⟩ hnx
    exact .inl ⟨v' x, H' x, nx', _, u, rfl, by rw [den_envR _ hs.vi, ← SVeq_eq _ _ hs.v]; exact h1, hm2.hm, hm2.kp, hm2.nx, hk x⟩
  · exact hF.elim

end Go.X
end

section
set_option linter.unusedVariables false
set_option linter.unusedSimpArgs false
set_option linter.unusedSectionVars false
/- Regions of any order: operations that only read, and one call that may run between them. -/
set_option linter.unusedVariables false
set_option linter.unusedSimpArgs false
set_option maxRecDepth 10000
set_option maxHeartbeats 4000000
namespace Go.X
open Go

def latC (ops : Array Oper) (m : Nat) (arr arr1 : List Bool → Array Bool) (opi : Nat → Nat) (ci : Nat) (anc : Nat → List Nat) (ancc : List Nat) (l : List Bool) : Bool :=
  !clB2 anc l || (let rs := Region.ready .any ops (arr l); !rs.isEmpty && rs.all fun o => (o == ci && (ancc.all (fun j => l.getD j false) && (arr l).setIfInBounds o true == arr1 l)) || ((List.range m).any fun i => opi i == o && (!(l.getD i true) && ((anc i).all (fun j => l.getD j false) && (arr l).setIfInBounds o true == arr (l.set i true)))))
theorem subF_all {F : List (Nat × FE)} (h : subF F F) : ∀ p ∈ F, findF F p.1 = some p.2 ∧ p.2.gp = [] := by
  have : ∀ L : List (Nat × FE), subF F L → ∀ p ∈ L, findF F p.1 = some p.2 ∧ p.2.gp = [] := by
    intro L
    induction L with
    | nil => intro _ p hp; cases hp
    | cons q r ih =>
      intro h p hp
      obtain ⟨d, e⟩ := q
      rcases List.mem_cons.1 hp with rfl | hp
      · exact h.1
      · exact ih h.2 p hp
  exact this F h
theorem slF_all {slots : Nat → List (Nat × FE)} {base : List (Nat × FE)} {m : Nat} {l : List Bool} (hl : l.length = m) {p : Nat × FE} (hp : p ∈ slF slots base l) : p ∈ slF slots base (List.replicate m true) := by
  rcases slF_mem.1 hp with ⟨i, hi, _, h⟩ | h
  · refine slF_mem.2 (.inl ⟨i, by simpa [hl] using hi, ?_, h⟩)
    have : i < m := hl ▸ hi
    simp [List.getD, this]
  · exact slF_mem.2 (.inr h)
theorem any_latC {X : Cx} {ops : Array Oper} {K : Ex → St → Prop} {ι : Type} (hX : X.Ok) (m : Nat) (arr arr1 : List Bool → Array Bool) (opi : Nat → Nat) (ci : Nat) (slots : Nat → List (Nat × FE)) (base : List (Nat × FE)) (sx : ι → List (Nat × FE)) (H : List (Nat × HB)) (nx : Nat) (H1 : ι → List (Nat × HB)) (nx1 : Nat) (anc : Nat → List Nat) (ancc : List Nat) (rest : Nat)
    (hanc : ∀ i, i < m → ∀ j ∈ anc i, j < m) (hancc : ∀ j ∈ ancc, j < m) (hchk : ∀ l ∈ allB m, latC ops m arr arr1 opi ci anc ancc l = true)
    (hA0 : subF (slF slots base (List.replicate m true)) (slF slots base (List.replicate m true))) (hA1 : ∀ x, subF (slF slots (sx x ++ base) (List.replicate m true)) (slF slots (sx x ++ base) (List.replicate m true)))
    (hst : ∀ i, i < m → ∃ o, ops[opi i]? = some o ∧ o.guard = none ∧ ∀ (tail : List (Nat × FE)) (Q : Exit → Act → World → Prop) (Kn : St → Prop), Cont X Q Kn (fun _ _ => False) → Kn ⟨slots i ++ ((anc i).flatMap slots ++ (base ++ tail)), [], H, nx, []⟩ →
      execL X [o] Q Kn (fun _ _ => False) 0 [o] ⟨(anc i).flatMap slots ++ (base ++ tail), [], H, nx, []⟩)
    (hcall : ∃ o, ops[ci]? = some o ∧ o.guard = none ∧ ∀ (tail : List (Nat × FE)) (Q : Exit → Act → World → Prop) (Kn : St → Prop), Cont X Q Kn (fun _ _ => False) → (∀ x, Kn ⟨sx x ++ (ancc.flatMap slots ++ (base ++ tail)), [], H1 x, nx1, []⟩) →
      execL X [o] Q Kn (fun _ _ => False) 0 [o] ⟨ancc.flatMap slots ++ (base ++ tail), [], H, nx, []⟩)
    (hend : ∀ (x : ι) (l : List Bool), l.length = m → clB2 anc l = true → AnyS X ops (l.count false + rest) (arr1 l) ⟨slF slots (sx x ++ base) l, [], H1 x, nx1, []⟩ K) :
    ∀ l : List Bool, l.length = m → clB2 anc l = true → AnyS X ops (l.count false + (rest + 1)) (arr l) ⟨slF slots base l, [], H, nx, []⟩ K := by
  have hA' := subF_all hA0
  have main : ∀ k, ∀ l : List Bool, l.length = m → clB2 anc l = true → l.count false = k → AnyS X ops (k + (rest + 1)) (arr l) ⟨slF slots base l, [], H, nx, []⟩ K := by
    intro k
    induction k with
    | zero =>
      intro l hl hcl hk
      have hc := hchk l (hl ▸ mem_allB l)
      unfold latC at hc
      rw [hcl] at hc
      simp only [Bool.not_true, Bool.false_or, Bool.and_eq_true, Bool.or_eq_true, Bool.not_eq_true', List.all_eq_true, List.any_eq_true, beq_iff_eq] at hc
      obtain ⟨hne, hrs⟩ := hc
      refine ⟨fun ρ a w hmod => ?_⟩
      rw [show 0 + (rest + 1) = rest + 1 by omega]
      refine wpAnyIn_all (rs := Region.ready .any ops (arr l)) rfl (by intro h; rw [h] at hne; cases hne) fun oi hi => ?_
      rcases hrs oi hi with ⟨rfl, hia, hset⟩ | ⟨i, him, rfl, hif, _, _⟩
      · obtain ⟨o, ho, hg, hstep⟩ := hcall
        have hmem : ∀ p ∈ ancc.flatMap slots ++ (base ++ slF slots base l), p ∈ slF slots base l := by
          intro p hp
          rcases List.mem_append.1 hp with hp | hp
          · obtain ⟨j, hj, hp⟩ := List.mem_flatMap.1 hp
            exact slF_mem.2 (.inl ⟨j, hl ▸ hancc j hj, hia j hj, hp⟩)
          · rcases List.mem_append.1 hp with hp | hp
            · exact slF_mem.2 (.inr hp)
            · exact hp
        have hmod' := mod_sub (F' := ancc.flatMap slots ++ (base ++ slF slots base l)) hA' (fun p => slF_all hl) hmem (Nat.le_refl _) hmod
        refine stepsK_ok hX (l := [oi]) (K := K) (st := ⟨ancc.flatMap slots ++ (base ++ slF slots base l), [], H, nx, []⟩) ⟨?_, trivial⟩ oi (List.mem_singleton.2 rfl) ρ a w hmod'
        have hnth : nth ops.toList oi = some o := by rw [nth_eq, Array.getElem?_toList]; exact ho
        rw [hnth]
        show (match o.guard with
          | none => _
          | some _ => False)
        rw [hg]
        refine hstep _ _ _ cont_any fun x => ?_
        rw [hset]
        refine ⟨fun ρ a w hm2 => ?_⟩
        have he := hend x l hl hcl
        rw [hk, Nat.zero_add] at he
        refine he.h ρ a w (mod_sub (subF_all (hA1 x)) (F := sx x ++ (ancc.flatMap slots ++ (base ++ slF slots base l))) ?_ ?_ (Nat.le_refl _) hm2)
        · intro p hp
          rcases List.mem_append.1 hp with hp | hp
          · exact slF_mem.2 (.inr (List.mem_append_left _ hp))
          · have := slF_all hl (hmem p hp)
            rcases slF_mem.1 this with h | h
            · exact slF_mem.2 (.inl h)
            · exact slF_mem.2 (.inr (List.mem_append_right _ h))
        · intro p hp
          rcases slF_mem.1 hp with h | h
          · exact List.mem_append_right _ (List.mem_append_right _ (List.mem_append_right _ (slF_mem.2 (.inl h))))
          · rcases List.mem_append.1 h with h | h
            · exact List.mem_append_left _ h
            · exact List.mem_append_right _ (List.mem_append_right _ (List.mem_append_left _ h))
      · have him : i < m := List.mem_range.1 him
        have hil : i < l.length := by omega
        have hli2 : l[i] = false := by
          rw [List.getD, List.getElem?_eq_getElem hil] at hif
          simpa using hif
        have : false ∈ l := hli2 ▸ List.getElem_mem hil
        have := List.count_pos_iff.2 this
        omega
    | succ k ih =>
      intro l hl hcl hk
      have hc := hchk l (hl ▸ mem_allB l)
      unfold latC at hc
      rw [hcl] at hc
      simp only [Bool.not_true, Bool.false_or, Bool.and_eq_true, Bool.or_eq_true, Bool.not_eq_true', List.all_eq_true, List.any_eq_true, beq_iff_eq] at hc
      obtain ⟨hne, hrs⟩ := hc
      refine ⟨fun ρ a w hmod => ?_⟩
      rw [show k + 1 + (rest + 1) = (k + (rest + 1)) + 1 by omega]
      refine wpAnyIn_all (rs := Region.ready .any ops (arr l)) rfl (by intro h; rw [h] at hne; cases hne) fun oi hi => ?_
      rcases hrs oi hi with ⟨rfl, hia, hset⟩ | ⟨i, him, rfl, hif, hia, hset⟩
      · obtain ⟨o, ho, hg, hstep⟩ := hcall
        have hmem : ∀ p ∈ ancc.flatMap slots ++ (base ++ slF slots base l), p ∈ slF slots base l := by
          intro p hp
          rcases List.mem_append.1 hp with hp | hp
          · obtain ⟨j, hj, hp⟩ := List.mem_flatMap.1 hp
            exact slF_mem.2 (.inl ⟨j, hl ▸ hancc j hj, hia j hj, hp⟩)
          · rcases List.mem_append.1 hp with hp | hp
            · exact slF_mem.2 (.inr hp)
            · exact hp
        have hmod' := mod_sub (F' := ancc.flatMap slots ++ (base ++ slF slots base l)) hA' (fun p => slF_all hl) hmem (Nat.le_refl _) hmod
        refine stepsK_ok hX (l := [oi]) (K := K) (st := ⟨ancc.flatMap slots ++ (base ++ slF slots base l), [], H, nx, []⟩) ⟨?_, trivial⟩ oi (List.mem_singleton.2 rfl) ρ a w hmod'
        have hnth : nth ops.toList oi = some o := by rw [nth_eq, Array.getElem?_toList]; exact ho
        rw [hnth]
        show (match o.guard with
          | none => _
          | some _ => False)
        rw [hg]
        refine hstep _ _ _ cont_any fun x => ?_
        rw [hset]
        refine ⟨fun ρ a w hm2 => ?_⟩
        have he := hend x l hl hcl
        rw [hk, show k + 1 + rest = k + (rest + 1) by omega] at he
        refine he.h ρ a w (mod_sub (subF_all (hA1 x)) (F := sx x ++ (ancc.flatMap slots ++ (base ++ slF slots base l))) ?_ ?_ (Nat.le_refl _) hm2)
        · intro p hp
          rcases List.mem_append.1 hp with hp | hp
          · exact slF_mem.2 (.inr (List.mem_append_left _ hp))
          · have := slF_all hl (hmem p hp)
            rcases slF_mem.1 this with h | h
            · exact slF_mem.2 (.inl h)
            · exact slF_mem.2 (.inr (List.mem_append_right _ h))
        · intro p hp
          rcases slF_mem.1 hp with h | h
          · exact List.mem_append_right _ (List.mem_append_right _ (List.mem_append_right _ (slF_mem.2 (.inl h))))
          · rcases List.mem_append.1 h with h | h
            · exact List.mem_append_left _ h
            · exact List.mem_append_right _ (List.mem_append_right _ (List.mem_append_left _ h))
      · have him : i < m := List.mem_range.1 him
        have hil : i < l.length := by omega
        obtain ⟨o, ho, hg, hstep⟩ := hst i him
        have hlen : (l.set i true).length = m := by rw [List.length_set, hl]
        have hget : ∀ j, (l.set i true).getD j false = true ↔ j = i ∨ l.getD j false = true := by
          intro j
          simp only [List.getD, List.getElem?_set]
          by_cases e : i = j
          · subst e; simp [hil]
          · simp [e, Ne.symm e]
        have hcl' : clB2 anc (l.set i true) = true := by
          unfold clB2 at hcl ⊢
          rw [List.all_eq_true] at hcl ⊢
          intro j hj
          rw [List.length_set] at hj
          have h0 := hcl j hj
          cases hd : (l.set i true).getD j false with
          | false => rfl
          | true =>
            rw [Bool.not_true, Bool.false_or, List.all_eq_true]
            intro q hq
            refine (hget q).2 ?_
            rcases (hget j).1 hd with rfl | hd
            · exact .inr (hia q hq)
            · rw [hd] at h0
              rw [Bool.not_true, Bool.false_or, List.all_eq_true] at h0
              exact .inr (h0 q hq)
        have hcount : (l.set i true).count false = k := by
          have hli2 : l[i] = false := by
            rw [List.getD, List.getElem?_eq_getElem hil] at hif
            simpa using hif
          have := List.count_set (a := true) (b := false) (l := l) (i := i) hil
          rw [hli2] at this
          simp at this
          omega
        have ihh := ih (l.set i true) hlen hcl' hcount
        have hmem : ∀ p ∈ (anc i).flatMap slots ++ (base ++ slF slots base l), p ∈ slF slots base l := by
          intro p hp
          rcases List.mem_append.1 hp with hp | hp
          · obtain ⟨j, hj, hp⟩ := List.mem_flatMap.1 hp
            exact slF_mem.2 (.inl ⟨j, hl ▸ hanc i him j hj, hia j hj, hp⟩)
          · rcases List.mem_append.1 hp with hp | hp
            · exact slF_mem.2 (.inr hp)
            · exact hp
        have hmod' := mod_sub (F' := (anc i).flatMap slots ++ (base ++ slF slots base l)) hA' (fun p => slF_all hl) hmem (Nat.le_refl _) hmod
        refine stepsK_ok hX (l := [opi i]) (K := K) (st := ⟨(anc i).flatMap slots ++ (base ++ slF slots base l), [], H, nx, []⟩) ⟨?_, trivial⟩ (opi i) (List.mem_singleton.2 rfl) ρ a w hmod'
        have hnth : nth ops.toList (opi i) = some o := by rw [nth_eq, Array.getElem?_toList]; exact ho
        rw [hnth]
        show (match o.guard with
          | none => _
          | some _ => False)
        rw [hg]
        refine hstep _ _ _ cont_any ?_
        rw [hset]
        refine ⟨fun ρ a w hm2 => ?_⟩
        refine ihh.h ρ a w (mod_sub (F := slots i ++ ((anc i).flatMap slots ++ (base ++ slF slots base l))) (nx := nx) hA' ?_ ?_ (Nat.le_refl _) hm2)
        · intro p hp
          rcases List.mem_append.1 hp with hp | hp
          · refine slF_mem.2 (.inl ⟨i, by simpa using him, ?_, hp⟩)
            simp [List.getD, him]
          · exact slF_all hl (hmem p hp)
        · intro p hp
          rcases slF_mem.1 hp with ⟨j, hj, hd, hp2⟩ | hp2
          · rw [List.length_set] at hj
            rcases (hget j).1 hd with e | hd
            · exact List.mem_append_left _ (e ▸ hp2)
            · exact List.mem_append_right _ (List.mem_append_right _ (List.mem_append_right _ (slF_mem.2 (.inl ⟨j, hj, hd, hp2⟩))))
          · exact List.mem_append_right _ (List.mem_append_right _ (List.mem_append_left _ hp2))
  exact fun l hl hcl => main _ l hl hcl rfl
/-- The sets that hold with each operation what it waits for. -/
def clL (anc : Nat → List Nat) : Nat → List (List Bool)
  | 0 => [[]]
  | n + 1 => (clL anc n).flatMap fun l => (l ++ [false]) :: (match (anc n).all (fun j => l.getD j false) with
    | true => [l ++ [true]]
    | false => [])
theorem getD_app {l : List Bool} {b : Bool} {j : Nat} (h : j < l.length) : (l ++ [b]).getD j false = l.getD j false := by
  simp [List.getD, List.getElem?_append_left h]
theorem mem_clL {anc : Nat → List Nat} (ha : ∀ i, ∀ j ∈ anc i, j < i) : ∀ {m : Nat} {l : List Bool}, l.length = m → clB2 anc l = true → l ∈ clL anc m
  | 0, l, hl, _ => by rw [List.length_eq_zero_iff.1 hl]; exact List.mem_cons_self
  | m + 1, l, hl, hc => by
    obtain ⟨l', b, rfl⟩ : ∃ l' b, l = l' ++ [b] := by
      have hne : l ≠ [] := by intro h; rw [h] at hl; cases hl
      exact ⟨l.dropLast, l.getLast hne, (List.dropLast_concat_getLast hne).symm⟩
    have hl' : l'.length = m := by simpa using hl
    unfold clB2 at hc
    rw [List.all_eq_true] at hc
    have key : ∀ i, i < m → (!(l'.getD i false) || (anc i).all fun j => l'.getD j false) = true := by
      intro i hi
      have h := hc i (List.mem_range.2 (by simp; omega))
      rw [getD_app (by omega)] at h
      cases e : l'.getD i false with
      | false => rfl
      | true =>
        rw [e, Bool.not_true, Bool.false_or, List.all_eq_true] at h
        rw [Bool.not_true, Bool.false_or, List.all_eq_true]
        intro j hj
        rw [← getD_app (b := b) (by have := ha i j hj; omega)]
        exact h j hj
    have h1 := mem_clL ha (m := m) (l := l') hl' (by
      unfold clB2
      rw [List.all_eq_true]
      intro i hi
      exact key i (by rw [← hl']; exact List.mem_range.1 hi))
    refine List.mem_flatMap.2 ⟨l', h1, ?_⟩
    cases b with
    | false => exact List.mem_cons_self
    | true =>
      have h := hc m (List.mem_range.2 (by simp; omega))
      have e : (l' ++ [true]).getD m false = true := by simp [List.getD, ← hl']
      rw [e, Bool.not_true, Bool.false_or, List.all_eq_true] at h
      have h2 : (anc m).all (fun j => l'.getD j false) = true := by
        rw [List.all_eq_true]
        intro j hj
        rw [← getD_app (b := true) (by have := ha m j hj; omega)]
        exact h j hj
      rw [h2]
      exact List.mem_cons_of_mem _ List.mem_cons_self
theorem allB_len : ∀ {m : Nat} {l : List Bool}, l ∈ allB m → l.length = m
  | 0, l, h => by rw [List.mem_singleton.1 h]; rfl
  | m + 1, l, h => by
    obtain ⟨l', h1, h2⟩ := List.mem_flatMap.1 h
    have := allB_len h1
    rcases List.mem_cons.1 h2 with rfl | h2
    · simp [this]
    · rw [List.mem_singleton.1 h2]; simp [this]
theorem latX_of {ops : Array Oper} {m : Nat} {arr : List Bool → Array Bool} {opi : Nat → Nat} {ex : List Bool → Bool} {anc : Nat → List Nat} (ha : ∀ i, ∀ j ∈ anc i, j < i) (h : (clL anc m).all (latX ops m arr opi ex anc) = true) : ∀ l ∈ allB m, latX ops m arr opi ex anc l = true := by
  intro l hl
  cases hc : clB2 anc l with
  | true => exact List.all_eq_true.1 h l (mem_clL ha (allB_len hl) hc)
  | false => unfold latX; rw [hc]; rfl
theorem latC_of {ops : Array Oper} {m : Nat} {arr arr1 : List Bool → Array Bool} {opi : Nat → Nat} {ci : Nat} {anc : Nat → List Nat} {ancc : List Nat} (ha : ∀ i, ∀ j ∈ anc i, j < i) (h : (clL anc m).all (latC ops m arr arr1 opi ci anc ancc) = true) : ∀ l ∈ allB m, latC ops m arr arr1 opi ci anc ancc l = true := by
  intro l hl
  cases hc : clB2 anc l with
  | true => exact List.all_eq_true.1 h l (mem_clL ha (allB_len hl) hc)
  | false => unfold latC; rw [hc]; rfl
end Go.X
end

section
set_option linter.unusedVariables false
set_option linter.unusedSimpArgs false
set_option linter.unusedSectionVars false
/- Regions whose order Go leaves open: the first operations in any order, and the others after them, in any order too. -/
set_option linter.unusedVariables false
set_option linter.unusedSimpArgs false
set_option maxRecDepth 10000
set_option maxHeartbeats 4000000
namespace Go.X
open Go

theorem oper_monoQ {F : Fence} {n : Nat} {P : Program} {Q Q' : Exit → Act → World → Prop} (hq : ∀ e a w, Q e a w → Q' e a w) {o : Oper} {a : Act} {w : World} {K K' : Act → World → Prop} (h : ∀ a w, K a w → K' a w)
    (hh : o.wpIn F n P a w K Q) : o.wpIn F n P a w K' Q' := by
  unfold Oper.wpIn at *
  refine ⟨hh.1, ?_⟩
  have hh := hh.2
  generalize (o.semAt F.round a.eval).run P w = r at *
  cases r with
  | ok x w' =>
    cases x <;> simp only [Oper.uponIn] at hh ⊢ <;>
      first
        | exact h _ _ hh
        | exact ⟨hh.1, CallsIn.mono hh.2 (fun e w'' he => by cases e <;> first | exact h _ _ he | exact hq _ _ _ he | (obtain ⟨a0, w0, h0⟩ := he; exact ⟨a0, w0, hq _ _ _ h0⟩) | exact he)⟩
        | exact ⟨hh.1, RowsIn.mono hh.2 (fun _ _ he => h _ _ he)⟩
        | exact ⟨hh.1, RoundIn.mono hh.2 (fun e w'' he => by cases e <;> first | exact h _ _ he | exact hq _ _ _ he | (obtain ⟨a0, w0, h0⟩ := he; exact ⟨a0, w0, hq _ _ _ h0⟩) | exact he)⟩
  | halt x w' => cases x <;> simp only [Oper.uponIn] at hh ⊢ <;> first | exact hq _ _ _ hh | exact hh
theorem wpOpIn_monoQ {F : Fence} {n : Nat} {P : Program} {ops : Array Oper} {Q Q' : Exit → Act → World → Prop} (hq : ∀ e a w, Q e a w → Q' e a w) {i : Nat} {a : Act} {w : World} {K K' : Act → World → Prop} (h : ∀ a w, K a w → K' a w)
    (hh : wpOpIn F n P ops Q i K a w) : wpOpIn F n P ops Q' i K' a w := by
  unfold wpOpIn at *
  split
  · rename_i ho; simp only [ho] at hh; exact h _ _ hh
  · rename_i o ho
    simp only [ho] at hh
    split
    · rename_i hw; simp only [hw, if_true] at hh; exact oper_monoQ hq h hh
    · rename_i hw; simp only [hw] at hh; exact ⟨hh.1, h _ _ hh.2⟩
theorem wpAnyIn_monoQ {F : Fence} {n : Nat} {P : Program} {md : Region.Mode} {ops : Array Oper} {Q Q' : Exit → Act → World → Prop} (hq : ∀ e a w, Q e a w → Q' e a w) : ∀ (fuel : Nat) (listed : Array Bool) (a : Act) (w : World), wpAnyIn F n P md ops Q fuel listed a w → wpAnyIn F n P md ops Q' fuel listed a w
  | 0, listed, a, w, h => ⟨h.1, hq _ _ _ h.2⟩
  | fuel + 1, listed, a, w, h => ⟨fun hr => hq _ _ _ (h.1 hr), fun i hi => wpOpIn_monoQ hq (wpAnyIn_monoQ hq fuel _) (h.2 i hi)⟩
theorem Qnp_Qof {X : Cx} {K : Ex → St → Prop} : ∀ e a w, Qnp X K e a w → Qof X K e a w := by
  intro e a w h
  cases e <;> first | exact h | exact h.elim

/-- Each of these waits for the first m. -/
def firstA (m : Nat) : List Nat → Bool
  | [] => true
  | x :: r => if Nat.beq (Nat.land x (Nat.shiftLeft 1 m - 1)) (Nat.shiftLeft 1 m - 1) then firstA m r else false
theorem firstA_ok {m : Nat} : ∀ {l : List Nat} {i n : Nat}, firstA m l = true → l[i]? = some n → ∀ k, k < m → hasBit n k = true
  | [], i, n, _, h => by simp at h
  | x :: r, i, n, h, hi => by
    simp only [firstA] at h
    split at h
    · rename_i hx
      cases i with
      | zero =>
        simp at hi; subst hi
        intro k hk
        have hx' : Nat.land x (Nat.shiftLeft 1 m - 1) = Nat.shiftLeft 1 m - 1 := Nat.eq_of_beq_eq_true hx
        have e : Nat.shiftLeft 1 m = 2 ^ m := by rw [← Nat.one_shiftLeft]; rfl
        rw [e] at hx'
        rw [hasBit_eq]
        have h1 : (Nat.land x (2 ^ m - 1)).testBit k = (2 ^ m - 1).testBit k := by rw [hx']
        have h2 : (x &&& (2 ^ m - 1)).testBit k = (2 ^ m - 1).testBit k := h1
        rw [Nat.testBit_and, Nat.testBit_two_pow_sub_one] at h2
        simpa [hk] using h2
      | succ i =>
        simp at hi
        exact firstA_ok h hi
    · cases h
/-- The first m of n. -/
def firstL (m n : Nat) : Array Bool := ((List.range n).map fun j => decide (j < m)).toArray
theorem firstL_size (m n : Nat) : (firstL m n).size = n := by simp [firstL]
theorem firstL_get {m n j : Nat} (h : j < (firstL m n).size) : (firstL m n)[j] = decide (j < m) := by simp [firstL]

/-- A region whose order Go leaves open: the first m operations in any order, and then the others, in any order. -/
def drawnA (X : Cx) (ops : List Oper) (arr : Array Oper) (A : List Nat) (S : List (Nat × Nat)) (m : Nat) (st : St) (K : Ex → St → Prop) : Prop :=
  splitK m ops fun ops₁ ops₂ => match uniqD ops₁ ops₁ 0, edgesD ops 0, putD st.gs X.nt ops₁, guardsD m ops₁, firstA m (dropL m A), leO m ops with
  | true, true, true, true, true, true => evalD X ops₁ A S (findF st.F) (findH st.H) st.nx 0 ops₁ [] (endD X ops₁ A S st (fun e st' => match e with
    | .normal => AnyS X arr (arr.size - m) (firstL m arr.size) st' K
    | e => K e st'))
  | _, _, _, _, _, _ => False
section
variable {X : Cx} {ops : List Oper} {A : List Nat} {S : List (Nat × Nat)} {st : St} {acc : List DE} {L : Nat → Bool} {ρ : Env} {a : Act} {w : World}
theorem dloopA (hX : X.Ok) {ops₁ ops₂ : List Oper} (hd : DOk X ops₁ A S st acc) (hgd : guardsD ops₁.length ops₁ = true) {Q : Exit → Act → World → Prop}
    (hedge : ∀ (j : Nat) (o : Oper), (ops₁ ++ ops₂)[j]? = some o → ∀ e ∈ o.after.toList, bindsAny e = true → e.on < j)
    (hfirst : ∀ (i : Nat) (o : Oper), (ops₁ ++ ops₂)[i]? = some o → ops₁.length ≤ i → ∀ k, k < ops₁.length → ∃ e ∈ o.after.toList, bindsAny e = true ∧ (e.on = k ∨ hasBit (getN A e.on) k = true))
    (hN : ∀ L ρ a w listed, DInv X ops₁ A st acc L ρ a w → (∀ j, j < ops₁.length → L j = true) → listed.size = (ops₁ ++ ops₂).length → (∀ j, j < (ops₁ ++ ops₂).length → listed[j]? = some (decide (j < ops₁.length))) → wpAnyIn (FW X.r) 0 X.P .any (ops₁ ++ ops₂).toArray Q ops₂.length listed a w)
    (hP : ∀ (L : Nat → Bool) (ρ : Env) (a : Act) (w : World) (ch : List PanicEntry) (e : DE) (i : Nat) (w' : World), DInv X ops₁ A st acc L ρ a w → acc[i]? = some e → e.eff = .pan ch → w.heap.size ≤ w'.heap.size → (∀ b, b < w.heap.size → w'.heap[b]? = w.heap[b]?) → Str w w' → Q (.panic ch) a w') :
    ∀ (fuel : Nat) (listed : Array Bool) (L : Nat → Bool) (ρ : Env) (a : Act) (w : World), listed.size = (ops₁ ++ ops₂).length → (∀ j, j < (ops₁ ++ ops₂).length → listed[j]? = some (L j)) → cnt L (ops₁ ++ ops₂).length = fuel →
      DInv X ops₁ A st acc L ρ a w → wpAnyIn (FW X.r) 0 X.P .any (ops₁ ++ ops₂).toArray Q fuel listed a w := by
  have hlen : (ops₁ ++ ops₂).length = ops₁.length + ops₂.length := by simp
  have hphase2 : ∀ (fuel : Nat) (listed : Array Bool) (L : Nat → Bool) (ρ : Env) (a : Act) (w : World), listed.size = (ops₁ ++ ops₂).length → (∀ j, j < (ops₁ ++ ops₂).length → listed[j]? = some (L j)) → cnt L (ops₁ ++ ops₂).length = fuel →
      DInv X ops₁ A st acc L ρ a w → (∀ j, j < ops₁.length → L j = true) → wpAnyIn (FW X.r) 0 X.P .any (ops₁ ++ ops₂).toArray Q fuel listed a w := by
    intro fuel listed L ρ a w hsz hl hc hi hz
    have hLd : ∀ j, j < (ops₁ ++ ops₂).length → L j = decide (j < ops₁.length) := by
      intro j hj
      by_cases hjm : j < ops₁.length
      · rw [hz j hjm]; simp [hjm]
      · cases hl' : L j with
        | false => simp [hjm]
        | true => exact absurd (hi.lt j hl') hjm
    have hcnt : ∀ n, ops₁.length ≤ n → n ≤ (ops₁ ++ ops₂).length → n - ops₁.length = cnt L n := by
      intro n h1 h2
      induction n with
      | zero => simp [cnt]
      | succ n ih =>
        simp only [cnt]
        rcases Nat.lt_or_ge n ops₁.length with h | h
        · have hz2 : cnt L n = 0 := by
            have : ∀ m, m ≤ n → cnt L m = 0 := by
              intro m
              induction m with
              | zero => intro _; rfl
              | succ m ih2 =>
                intro hm
                simp only [cnt, ih2 (by omega), hz m (by omega)]
                rfl
            exact this n (Nat.le_refl _)
          have e : L n = true := hz n h
          rw [hz2, e]
          simp; omega
        · have := ih h (by omega)
          have e : L n = false := by rw [hLd n (by omega)]; simp; omega
          rw [e]; simp; omega
    have h1 := hcnt (ops₁ ++ ops₂).length (by omega) (Nat.le_refl _)
    have hfu : fuel = ops₂.length := by omega
    subst hfu
    refine hN L ρ a w listed hi hz hsz (fun j hj => ?_)
    rw [hl j hj, hLd j hj]
  intro fuel
  induction fuel with
  | zero =>
    intro listed L ρ a w hsz hl hc hi
    have hz := cnt_zero (L := L) (n := (ops₁ ++ ops₂).length) (by omega)
    exact hphase2 0 listed L ρ a w hsz hl hc hi (fun j hj => hz j (by omega))
  | succ fuel ih =>
    intro listed L ρ a w hsz hl hc hi
    rcases Classical.em (∀ j, j < ops₁.length → L j = true) with hz | hz
    · exact hphase2 _ listed L ρ a w hsz hl hc hi hz
    refine ⟨fun hr => ?_, fun i hir => ?_⟩
    · exfalso
      apply hz
      intro j
      induction j using Nat.strongRecOn with
      | _ j ihj =>
        intro hj
        cases h : L j with
        | true => rfl
        | false =>
          have hm : j ∈ Region.ready .any (ops₁ ++ ops₂).toArray listed := by
            rw [ready_mem hsz hl]
            refine ⟨by omega, h, (ops₁ ++ ops₂)[j]'(by omega), List.getElem?_eq_getElem _, fun e he hb => ?_⟩
            have hlt := hedge j _ (List.getElem?_eq_getElem (by omega)) e he hb
            rw [Array.getD_eq_getD_getElem?, hl e.on (by omega), ihj e.on hlt (by omega)]
            rfl
          rw [hr] at hm; cases hm
    · rw [ready_mem hsz hl] at hir
      obtain ⟨hilt, hnl, o, ho, hr⟩ := hir
      have hr' : ∀ e ∈ o.after.toList, bindsAny e = true → L e.on = true := by
        intro e he hb
        have h1 := hr e he hb
        have h2 := hedge i o ho e he hb
        rw [Array.getD_eq_getD_getElem?, hl e.on (by omega)] at h1
        exact h1
      have him : i < ops₁.length := by
        rcases Nat.lt_or_ge i ops₁.length with h | h
        · exact h
        · exfalso
          apply hz
          intro j hj
          obtain ⟨e, he, hb, h4⟩ := hfirst i o ho h j hj
          have h5 := hr' e he hb
          rcases h4 with h4 | h4
          · rw [← h4]; exact h5
          · exact hi.cl e.on j h5 h4
      have ho₁ : ops₁[i]? = some o := by rw [List.getElem?_append_left him] at ho; exact ho
      refine wpOp_take ho₁ (fun j p hg => guardsD_ok hgd i o ho₁ j p hg) ?_
      refine dstep hX hd hi ho₁ hnl hr' (L' := fun j => if j = i then true else L j) (fun j => rfl) (fun ρ' a' w' hi' => ?_) (fun ch e w' he hch hs hk hst => hP L ρ a w ch e i w' hi he hch hs hk hst)
      refine ih _ (fun j => if j = i then true else L j) ρ' a' w' (by simp [hsz]) (fun j hj => ?_) ?_ hi'
      · rw [Array.getElem?_setIfInBounds]
        by_cases hji : i = j
        · subst hji
          rw [if_pos rfl, if_pos rfl, if_pos (by rw [hsz]; exact hj)]
        · rw [if_neg hji, if_neg (Ne.symm hji)]; exact hl j hj
      · have := cnt_set (L := L) (L' := fun j => if j = i then true else L j) (i := i) (fun j => rfl) hnl (ops₁ ++ ops₂).length hilt
        omega

end
section
variable {X : Cx} {st : St}
/-- A region whose order Go leaves open. -/
theorem drawnA_ok (hX : X.Ok) (hm : X.P.follows .mixedOrders = true) (A : List Nat) (S : List (Nat × Nat)) (m : Nat) {id : Nat} {ops : Array Oper} (hA : ancL ops.toList [] = A) {K : Ex → St → Prop} (h : drawnA X ops.toList ops A S m st K) : SemC X (.region id ops true) st K := by
  intro ρ a w hmod
  unfold drawnA at h
  rw [splitK_eq] at h
  generalize hops₁ : ops.toList.take m = ops₁ at h
  generalize hops₂ : ops.toList.drop m = ops₂ at h
  have hops : ops.toList = ops₁ ++ ops₂ := by rw [← hops₁, ← hops₂, List.take_append_drop]
  have hopsA : ops = (ops₁ ++ ops₂).toArray := by rw [← hops]
  split at h
  · rename_i hu he hp hgd hfull hle
    have hm1 : ops₁.length = m := by rw [← hops₁, List.length_take]; have := leO_ok hle; omega
    obtain ⟨acc, hlen, hend, hstep⟩ := evalD_ok ops₁ 0 [] rfl (by simp) rfl h (fun j o hj => by omega)
    unfold endD at hend
    split at hend
    · rename_i hsame hchain hids
      have hSe : storesOf acc 0 = S ∨ storesOf acc 0 = [] := by
        split at hsame
        · exact .inl (sameS_eq hsame)
        · refine .inr ?_
          cases hs : storesOf acc 0 with
          | nil => rfl
          | cons x r => rw [hs] at hsame; cases hsame
      have hext : ∀ id hb, findH st.H id = some hb → id < st.nx := fun id hb hf => by
        obtain ⟨nm, h1, _⟩ := hmod.hm.ok id hb hf
        rcases Nat.lt_or_ge id st.nx with h2 | h2
        · exact h2
        · rw [hmod.nx id h2] at h1; cases h1
      rw [hops] at hA he
      have hanc0 : ∀ (j : Nat) (o : Oper) (k : Nat), (ops₁ ++ ops₂)[j]? = some o → hasBit (getN A j) k = true → ∃ e ∈ o.after.toList, bindsAny e = true ∧ (e.on = k ∨ hasBit (getN A e.on) k = true) := by
        intro j o k hj hb
        have := ancL_ok (ops₁ ++ ops₂) [] j o k hj (by rw [hA]; simpa using hb)
        rw [hA] at this
        exact this
      have hedge : ∀ (j : Nat) (o : Oper), (ops₁ ++ ops₂)[j]? = some o → ∀ e ∈ o.after.toList, bindsAny e = true → e.on < j := by
        intro j o hj e hE hb
        have := edgesD_ok he j o hj e hE hb
        omega
      have hpre : ∀ (j : Nat) (o : Oper), ops₁[j]? = some o → (ops₁ ++ ops₂)[j]? = some o := fun j o hj => by rw [List.getElem?_append_left (lt_of_get hj)]; exact hj
      have hd : DOk X ops₁ A S st acc := {
        len := hlen
        step := hstep
        anc := fun j o k hj hb => hanc0 j o k (hpre j o hj) hb
        uniq := fun j o d hj hdst => by
          have := uniqD_ok ops₁ 0 hu j o d hj hdst
          simpa using this
        edges := fun j o hj => hedge j o (hpre j o hj)
        put := fun j o hj => putD_ok hp j o hj
        stores := fun j e id off cs hj hE => by
          have := storesOf_ok (k := 0) hj hE
          rcases hSe with hSe | hSe
          · rw [hSe] at this
            simpa using this
          · rw [hSe] at this; cases this
        chain := fun j j' e e' id off cs id' off' cs' h1 h2 h3 h4 h5 => by
          have a1 := storesOf_ok (k := 0) h1 h2
          have a2 := storesOf_ok (k := 0) h3 h4
          rw [Nat.zero_add] at a1 a2
          rcases hSe with hSe | hSe
          case inr => rw [hSe] at a1; cases a1
          obtain ⟨x, hx⟩ := List.getElem?_of_mem a1
          obtain ⟨y, hy⟩ := List.getElem?_of_mem a2
          have hxy := storesOf_sorted hx hy h5
          rw [hSe] at hx hy
          exact chainD_pair hchain x y _ _ hx hy hxy
        ids := fun j e l hj hE id hb hf => by
          have := idsD_ok hids j e l hj hE id hb hf
          simpa using this }
      have hfirst' : ∀ (i : Nat) (o : Oper), (ops₁ ++ ops₂)[i]? = some o → ops₁.length ≤ i → ∀ k, k < ops₁.length → ∃ e ∈ o.after.toList, bindsAny e = true ∧ (e.on = k ∨ hasBit (getN A e.on) k = true) := by
        intro i o ho hmi k hk
        refine hanc0 i o k ho ?_
        rw [dropL_eq] at hfull
        unfold getN
        rw [nth_eq]
        cases hAi : A[i]? with
        | none =>
          exfalso
          have h1 : A.length = (ops₁ ++ ops₂).length := by rw [← hA, ancL_len]; simp
          have h2 := lt_of_get ho
          rw [List.getElem?_eq_none_iff] at hAi
          omega
        | some n =>
          refine firstA_ok hfull (i := i - m) ?_ k (by omega)
          rw [List.getElem?_drop, show m + (i - m) = i by omega]
          exact hAi
      have hi : DInv X ops₁ A st acc (fun _ => false) ρ a { w with drawn := w.drawn + 1 } := {
        cl := fun j k h => by cases h
        lt := fun j h => by cases h
        fm := by
          intro t e hf
          refine hmod.fm t e ?_
          unfold fD at hf
          split at hf
          · exact hf
          · simpa using hf
        hm := by
          have e : hD acc (findH st.H) (fun _ => false) = findH st.H := by funext id; exact pD_skip fun j e _ h => by cases h
          rw [e]
          exact hmod.hm.world (Nat.le_refl _) (fun _ _ => rfl)
        kp := by
          have e : hD acc (findH st.H) (fun _ => false) = findH st.H := by funext id; exact pD_skip fun j e _ h => by cases h
          rw [e]
          exact hmod.kp.world (Nat.le_refl _) (fun _ _ => rfl)
        df := hmod.df
        sz := hmod.sz
        gs0 := hmod.gs
        nx := fun j hj hne => absurd (hmod.nx j hj) hne
        np := fun k e h => by cases h
        ext := hext }
      have hrep : ∀ n j, j < n → (Array.replicate n false)[j]? = some false := fun n j hj => by simp [hj]
      rw [hopsA]
      refine wpIn_region_any hm (dloopA hX hd (by rw [hm1]; exact hgd) hedge hfirst' ?_ ?_ _ _ (fun _ => false) ρ a _ (by simp) (fun j hj => hrep _ j (by simpa using hj)) (by rw [cnt_full]; simp) hi)
      · intro L ρ' a' w' listed hi' hall hsz hli
        split at hend
        · rename_i hpan
          rw [fFL_eq, finGK_eq, finHK_eq, natF_eq] at hend
          have e1 := finF_eq hd hall
          have e2 : findH (finH acc st.H) = hD acc (findH st.H) L := by
            funext id
            exact finH_eq (k := 0) (fun j hj => by rw [Nat.zero_add]; exact hall j (by rw [← hlen]; exact hj))
          have hmod' : Mod X ρ' ⟨finF ops₁ acc st.F, finG acc st.gs, finH acc st.H, st.nx + 4 * lenD acc, st.D⟩ a' w' := {
            fm := by rw [e1]; exact hi'.fm
            gs := fun t e hf x hx => by
              have hf : findF (finF ops₁ acc st.F) t = some e := hf
              rw [e1] at hf
              unfold fD at hf
              split at hf
              · exact finG_mem.1 _ (hi'.gs0 t e hf x hx)
              · rename_i k _
                split at hf
                · rw [nth_eq] at hf
                  cases hk : acc[k]? with
                  | none => rw [hk] at hf; cases hf
                  | some ek =>
                    rw [hk] at hf; cases hf
                    exact finG_mem.2 k ek hk x hx
                · exact finG_mem.1 _ (hi'.gs0 t e hf x hx)
            df := hi'.df
            hm := by rw [e2]; exact hi'.hm
            kp := by rw [e2]; exact hi'.kp
            nx := fun j hj => by
              have hj : st.nx + 4 * lenD acc ≤ j := hj
              cases hr : ρ' j with
              | none => rfl
              | some nm =>
                obtain ⟨k, e, l, hb, h1, h2, h3, h4⟩ := hi'.nx j (by omega) (by rw [hr]; simp)
                have := hd.ids k e l h2 h3 _ _ h4
                have := lt_of_get h2
                rw [lenD_eq] at hj
                omega
            sz := hi'.sz }
          have hli2 : listed = firstL m ops.size := by
            apply Array.ext
            · rw [hsz, firstL_size, hopsA, List.size_toArray]
            · intro j h1 h2
              have h3 := hli j (by rw [← hsz]; exact h1)
              rw [Array.getElem?_eq_getElem h1] at h3
              rw [firstL_get, Option.some.inj h3, hm1]
          rw [← hopsA, hli2]
          have hfu : ops₂.length = ops.size - m := by
            rw [hopsA, List.size_toArray, List.length_append, hm1]; omega
          rw [hfu]
          exact wpAnyIn_monoQ (Qnp_Qof (K := K)) _ _ _ _ (hend.h ρ' a' w' hmod')
        · rename_i ch hpan
          -- some operation panics: not all can be listed
          exfalso
          have : ∀ {l : List DE}, panOf l = some ch → ∃ (j : Nat) (e : DE), l[j]? = some e ∧ e.eff = .pan ch := by
            intro l
            induction l with
            | nil => intro h; cases h
            | cons x r ih =>
              intro h
              simp only [panOf] at h
              split at h
              · rename_i ch' hx; cases h; exact ⟨0, x, by simp, hx⟩
              · obtain ⟨j, e, h1, h2⟩ := ih h; exact ⟨j + 1, e, by simpa using h1, h2⟩
          obtain ⟨j, e, h1, h2⟩ := this hpan
          exact (hi'.np j e (hall j (by rw [← hlen]; exact lt_of_get h1)) h1).2 ch h2
      · intro L ρ' a' w' ch e i w'' hi' hei hch hsz hkeep hstr
        split at hend
        · rename_i hpan
          exact absurd hch (panOf_none hpan hei)
        · rename_i ch' hpan
          split at hend
          · rename_i hnil hone
            have hcc := onePan_eq hone hpan hei hch
            subst hcc
            rw [fFL_eq, natF_eq] at hend
            refine ⟨.panic ch, _, ρ', rfl, ?_, hend⟩
            have hSn : storesOf acc 0 = [] := by
              cases hs : storesOf acc 0 with
              | nil => rfl
              | cons x r => rw [hs] at hnil; cases hnil
            have hle : ∀ id hb, findH st.H id = some hb → hD acc (findH st.H) L id = some hb := by
              intro id hb hf
              rw [hD_old hd (hext _ _ hf) (fun j e off cs _ hj he' => ?_)]
              · exact hf
              · have := storesOf_ok (k := 0) hj he'
                rw [hSn] at this; cases this
            have hm' : HM ρ' (findH st.H) w' := hi'.hm.sub hle
            exact {
              fm := fun t e hf => by
                obtain ⟨h1, h2⟩ := keepF_find hf
                refine hi'.fm t e ?_
                unfold fD
                rw [h2]
                exact h1
              gs := fun t e hf x hx => hi'.gs0 t e (keepF_find hf).1 x hx
              df := hi'.df
              hm := hm'.world hsz hkeep
              kp := {
                str := hi'.kp.str.trans hstr
                size := Nat.le_trans hi'.kp.size hsz
                same := fun b hb hM => (hkeep b (by have := hi'.kp.size; omega)).trans (hi'.kp.same b hb hM)
                own := fun b ho => hi'.kp.own b (Own.sub hle ho)
                ext := hi'.kp.ext
                fz := fun b hz => hi'.kp.fz b (hz.sub fun id size C hf => hle _ _ hf) }
              nx := fun j hj => by
                have hj : st.nx + 4 * lenD acc ≤ j := hj
                cases hr : ρ' j with
                | none => rfl
                | some nm =>
                  obtain ⟨k, e, l, hb, h1, h2, h3, h4⟩ := hi'.nx j (by omega) (by rw [hr]; simp)
                  have := hd.ids k e l h2 h3 _ _ h4
                  have := lt_of_get h2
                  rw [lenD_eq] at hj
                  omega
              sz := hi'.sz }
          · exact hend.elim
    · exact hend.elim
  · exact h.elim
end
end Go.X
end

section
set_option linter.unusedVariables false
set_option linter.unusedSimpArgs false
set_option linter.unusedSectionVars false
/- Regions of any order: operations that change the heap, and a call between them; regions in which a call panics. -/
set_option linter.unusedVariables false
set_option linter.unusedSimpArgs false
set_option maxRecDepth 10000
set_option maxHeartbeats 4000000
namespace Go.X
open Go

end Go.X
end

section
set_option linter.unusedVariables false
set_option linter.unusedSimpArgs false
set_option linter.unusedSectionVars false
/- Regions whose order Go leaves open: the first operations in any order, one more that waits for none, and the others after them, in any order. -/
set_option linter.unusedVariables false
set_option linter.unusedSimpArgs false
set_option maxRecDepth 10000
set_option maxHeartbeats 4000000
namespace Go.X
open Go

/-- The first m of n, and e. -/
def firstE (m e n : Nat) (b : Bool) : Array Bool := ((List.range n).map fun j => decide (j < m) || (decide (j = e) && b)).toArray
theorem firstE_size (m e n : Nat) (b : Bool) : (firstE m e n b).size = n := by simp [firstE]
theorem firstE_get {m e n j : Nat} {b : Bool} (h : j < (firstE m e n b).size) : (firstE m e n b)[j] = (decide (j < m) || (decide (j = e) && b)) := by simp [firstE]
def noEdge (l : List Edge) : Bool := l.all fun x => !bindsAny x
/-- Each of these, but the one at e, waits for the first m. -/
def firstB (m : Nat) : Nat → List Nat → Bool
  | _, [] => true
  | 0, _ :: r => firstA m r
  | e + 1, x :: r => if Nat.beq (Nat.land x (Nat.shiftLeft 1 m - 1)) (Nat.shiftLeft 1 m - 1) then firstB m e r else false
theorem firstB_ok {m : Nat} : ∀ {l : List Nat} {e i n : Nat}, firstB m e l = true → l[i]? = some n → i ≠ e → ∀ k, k < m → hasBit n k = true
  | [], e, i, n, _, h, _ => by simp at h
  | x :: r, 0, i, n, h, hi, hne => by
    cases i with
    | zero => exact (hne rfl).elim
    | succ i =>
      simp at hi
      exact firstA_ok (l := r) h hi
  | x :: r, e + 1, i, n, h, hi, hne => by
    simp only [firstB] at h
    split at h
    · rename_i hx
      cases i with
      | zero => exact firstA_ok (m := m) (l := [x]) (i := 0) (by simp only [firstA, hx, if_true]) (by simpa using hi)
      | succ i =>
        simp at hi
        exact firstB_ok h hi (by omega)
    · cases h
theorem wpOp_conv {g ops : Array Oper} {Q : Exit → Act → World → Prop} {i i' : Nat} {o : Oper} (h1 : g[i]? = some o) (h2 : ops[i']? = some o) (hg : ∀ (j : Nat) (p : Bool), o.guard = some (j, p) → g[j]? = ops[j]?) {r : Option Nat} {P : Program} {K : Act → World → Prop} {a : Act} {w : World}
    (h : wpOpIn (FW r) 0 P g Q i K a w) : wpOpIn (FW r) 0 P ops Q i' K a w := by
  have e3 : Region.wanted o (yielded ops a.tmps) = Region.wanted o (yielded g a.tmps) := by
    unfold Region.wanted
    cases hgo : o.guard with
    | none => rfl
    | some p =>
      obtain ⟨j, p⟩ := p
      have := hg j p hgo
      simp only [yielded, this]
  unfold wpOpIn at h ⊢
  rw [h1] at h
  rw [h2]
  simp only at h ⊢
  rw [e3]
  exact h
theorem cnt_congr {L L' : Nat → Bool} : ∀ {n : Nat}, (∀ j, j < n → L j = L' j) → cnt L n = cnt L' n
  | 0, _ => rfl
  | n + 1, h => by
    simp only [cnt]
    rw [cnt_congr fun j hj => h j (by omega), h n (by omega)]
/-- How many are left. -/
theorem cnt_first {m e n : Nat} {b : Bool} {B : Nat → Bool} (hB : ∀ j, j < n → B j = (decide (j < m) || (decide (j = e) && b))) (hme : m ≤ e) (hen : e < n) : cnt B n + m + (if b = true then 1 else 0) = n := by
  have key : ∀ k, k ≤ n → cnt B k + min k m + (if b = true ∧ e < k then 1 else 0) = k := by
    intro k
    induction k with
    | zero => intro _; simp [cnt]
    | succ k ih =>
      intro hk
      have h1 := ih (by omega)
      simp only [cnt, hB k (by omega)]
      by_cases h2 : k < m
      · have h3 : ¬ (b = true ∧ e < k + 1) := fun h => by omega
        have h4 : ¬ (b = true ∧ e < k) := fun h => by omega
        rw [if_neg h4] at h1
        rw [if_neg h3]
        simp [h2]
        omega
      · by_cases h3 : k = e
        · subst h3
          have h4 : ¬ (b = true ∧ k < k) := fun h => by omega
          rw [if_neg h4] at h1
          cases b with
          | true => simp [h2]; omega
          | false => simp [h2]; omega
        · have h5 : (b = true ∧ e < k + 1) ↔ (b = true ∧ e < k) := ⟨fun h => ⟨h.1, by omega⟩, fun h => ⟨h.1, by omega⟩⟩
          simp only [h5]
          simp [h2, h3]
          split at h1 <;> split <;> first | omega | (rename_i q1 q2; exact (q2 q1).elim) | (rename_i q1 q2; exact (q1 q2).elim)
  have := key n (Nat.le_refl _)
  have h5 : (b = true ∧ e < n) ↔ b = true := ⟨fun h => h.1, fun h => ⟨h, hen⟩⟩
  simp only [h5] at this
  rw [Nat.min_eq_right (by omega)] at this
  exact this

section
variable {X : Cx} {A A' : List Nat} {S : List (Nat × Nat)} {st : St} {acc : List DE}
theorem dloopE (hX : X.Ok) {ops₁ ops₂ : List Oper} {e : Nat} {oE : Oper} (hme : ops₁.length ≤ e) (heo : (ops₁ ++ ops₂)[e]? = some oE) (hE : ∀ x ∈ oE.after.toList, bindsAny x = false) (hgE : oE.guard = none)
    (hA' : ∀ j, j < ops₁.length → getN A' j = getN A j) (hAe : ∀ k, hasBit (getN A e) k = false)
    (hd : DOk X (ops₁ ++ [oE]) A' S st acc) (hgd : guardsD ops₁.length ops₁ = true) {Q : Exit → Act → World → Prop}
    (hedge : ∀ (j : Nat) (o : Oper), (ops₁ ++ ops₂)[j]? = some o → ∀ x ∈ o.after.toList, bindsAny x = true → x.on < j)
    (hfirst : ∀ (i : Nat) (o : Oper), (ops₁ ++ ops₂)[i]? = some o → ops₁.length ≤ i → i ≠ e → ∀ k, k < ops₁.length → ∃ x ∈ o.after.toList, bindsAny x = true ∧ (x.on = k ∨ hasBit (getN A x.on) k = true))
    (hN : ∀ (b : Bool) L ρ a w listed, DInv X (ops₁ ++ [oE]) A' st acc L ρ a w → (∀ j, j < ops₁.length → L j = true) → L ops₁.length = b → listed.size = (ops₁ ++ ops₂).length →
      (∀ j, j < (ops₁ ++ ops₂).length → listed[j]? = some (decide (j < ops₁.length) || (decide (j = e) && b))) → wpAnyIn (FW X.r) 0 X.P .any (ops₁ ++ ops₂).toArray Q ((ops₁ ++ ops₂).length - ops₁.length - (if b = true then 1 else 0)) listed a w)
    (hP : ∀ (L : Nat → Bool) (ρ : Env) (a : Act) (w : World) (ch : List PanicEntry) (x : DE) (i : Nat) (w' : World), DInv X (ops₁ ++ [oE]) A' st acc L ρ a w → acc[i]? = some x → x.eff = .pan ch → w.heap.size ≤ w'.heap.size → (∀ b, b < w.heap.size → w'.heap[b]? = w.heap[b]?) → Str w w' → Q (.panic ch) a w') :
    ∀ (fuel : Nat) (listed : Array Bool) (L : Nat → Bool) (ρ : Env) (a : Act) (w : World), listed.size = (ops₁ ++ ops₂).length →
      (∀ j, j < (ops₁ ++ ops₂).length → listed[j]? = some (if j < ops₁.length then L j else (decide (j = e) && L ops₁.length))) → cnt (fun j => if j < ops₁.length then L j else (decide (j = e) && L ops₁.length)) (ops₁ ++ ops₂).length = fuel →
      DInv X (ops₁ ++ [oE]) A' st acc L ρ a w → wpAnyIn (FW X.r) 0 X.P .any (ops₁ ++ ops₂).toArray Q fuel listed a w := by
  have hlen : (ops₁ ++ ops₂).length = ops₁.length + ops₂.length := by simp
  have hen : e < (ops₁ ++ ops₂).length := lt_of_get heo
  have hphase2 : ∀ (fuel : Nat) (listed : Array Bool) (L : Nat → Bool) (ρ : Env) (a : Act) (w : World), listed.size = (ops₁ ++ ops₂).length →
      (∀ j, j < (ops₁ ++ ops₂).length → listed[j]? = some (if j < ops₁.length then L j else (decide (j = e) && L ops₁.length))) → cnt (fun j => if j < ops₁.length then L j else (decide (j = e) && L ops₁.length)) (ops₁ ++ ops₂).length = fuel →
      DInv X (ops₁ ++ [oE]) A' st acc L ρ a w → (∀ j, j < ops₁.length → L j = true) → wpAnyIn (FW X.r) 0 X.P .any (ops₁ ++ ops₂).toArray Q fuel listed a w := by
    intro fuel listed L ρ a w hsz hl hc hi hz
    have hB : ∀ j, (if j < ops₁.length then L j else (decide (j = e) && L ops₁.length)) = (decide (j < ops₁.length) || (decide (j = e) && L ops₁.length)) := by
      intro j
      by_cases h : j < ops₁.length
      · rw [if_pos h, hz j h]; simp [h]
      · rw [if_neg h]; simp [h]
    have h1 := cnt_first (b := L ops₁.length) (fun j _ => hB j) hme hen
    rw [hc] at h1
    have hfu : fuel = (ops₁ ++ ops₂).length - ops₁.length - (if L ops₁.length = true then 1 else 0) := by omega
    rw [hfu]
    exact hN _ L ρ a w listed hi hz rfl hsz (fun j hj => by rw [hl j hj, hB j])
  intro fuel
  induction fuel with
  | zero =>
    intro listed L ρ a w hsz hl hc hi
    have hz := cnt_zero hc
    exact hphase2 0 listed L ρ a w hsz hl hc hi (fun j hj => by
      have := hz j (by omega)
      simpa [hj] using this)
  | succ fuel ih =>
    intro listed L ρ a w hsz hl hc hi
    rcases Classical.em (∀ j, j < ops₁.length → L j = true) with hz | hz
    · exact hphase2 _ listed L ρ a w hsz hl hc hi hz
    refine ⟨fun hr => ?_, fun i hir => ?_⟩
    · exfalso
      apply hz
      intro j
      induction j using Nat.strongRecOn with
      | _ j ihj =>
        intro hj
        cases h : L j with
        | true => rfl
        | false =>
          have hm : j ∈ Region.ready .any (ops₁ ++ ops₂).toArray listed := by
            rw [ready_mem hsz hl]
            refine ⟨by omega, by rw [if_pos hj]; exact h, (ops₁ ++ ops₂)[j]'(by omega), List.getElem?_eq_getElem _, fun x hx hb => ?_⟩
            have hlt := hedge j _ (List.getElem?_eq_getElem (by omega)) x hx hb
            rw [Array.getD_eq_getD_getElem?, hl x.on (by omega), if_pos (by omega), ihj x.on hlt (by omega)]
            rfl
          rw [hr] at hm; cases hm
    · rw [ready_mem hsz hl] at hir
      obtain ⟨hilt, hnl, o, ho, hr⟩ := hir
      have hr' : ∀ x ∈ o.after.toList, bindsAny x = true → (if x.on < ops₁.length then L x.on else (decide (x.on = e) && L ops₁.length)) = true := by
        intro x hx hb
        have h1 := hr x hx hb
        have h2 := hedge i o ho x hx hb
        rw [Array.getD_eq_getD_getElem?, hl x.on (by omega)] at h1
        exact h1
      have hupd : ∀ (p : Nat), (∀ j, j < (ops₁ ++ ops₂).length → (if j = i then true else (if j < ops₁.length then L j else (decide (j = e) && L ops₁.length))) = (if j < ops₁.length then (if j = p then true else L j) else (decide (j = e) && (if ops₁.length = p then true else L ops₁.length)))) → ∀ ρ' a' w',
          DInv X (ops₁ ++ [oE]) A' st acc (fun j => if j = p then true else L j) ρ' a' w' → wpAnyIn (FW X.r) 0 X.P .any (ops₁ ++ ops₂).toArray Q fuel (listed.setIfInBounds i true) a' w' := by
        intro p hp ρ' a' w' hi'
        refine ih _ (fun j => if j = p then true else L j) ρ' a' w' (by simp [hsz]) (fun j hj => ?_) ?_ hi'
        · rw [Array.getElem?_setIfInBounds]
          have := hp j hj
          by_cases hji : i = j
          · subst hji
            rw [if_pos rfl] at this
            rw [if_pos rfl, if_pos (by rw [hsz]; exact hj), ← this]
          · rw [if_neg (Ne.symm hji)] at this
            rw [if_neg hji, hl j hj, this]
        · have hcs := cnt_set (L := fun j => if j < ops₁.length then L j else (decide (j = e) && L ops₁.length)) (L' := fun j => if j = i then true else (if j < ops₁.length then L j else (decide (j = e) && L ops₁.length))) (i := i) (fun j => rfl) hnl (ops₁ ++ ops₂).length hilt
          have hcg : ∀ n, n ≤ (ops₁ ++ ops₂).length → cnt (fun j => if j = i then true else (if j < ops₁.length then L j else (decide (j = e) && L ops₁.length))) n = cnt (fun j => if j < ops₁.length then (if j = p then true else L j) else (decide (j = e) && (if ops₁.length = p then true else L ops₁.length))) n := by
            exact fun n hn => cnt_congr fun j hj => hp j (by omega)
          rw [hcg _ (Nat.le_refl _)] at hcs
          omega
      by_cases him : i < ops₁.length
      · have ho₁ : (ops₁ ++ [oE])[i]? = some o := by
          rw [List.getElem?_append_left him] at ho ⊢
          exact ho
        have hnl' : L i = false := by rw [if_pos him] at hnl; exact hnl
        have hr1 : ∀ x ∈ o.after.toList, bindsAny x = true → L x.on = true := fun x hx hb => by
          have h2 := hedge i o ho x hx hb
          have := hr' x hx hb
          rw [if_pos (by omega)] at this
          exact this
        refine wpOp_conv (g := (ops₁ ++ [oE]).toArray) (i := i) (o := o) (by simpa using ho₁) (by simpa using ho) (fun j p hg => ?_) (dstep hX hd hi ho₁ hnl' hr1 (L' := fun j => if j = i then true else L j) (fun j => rfl) (hupd i fun j hj => ?_) (fun ch x w' hx hch hs hk hst => hP L ρ a w ch x i w' hi hx hch hs hk hst))
        · have ho₂ : ops₁[i]? = some o := by rw [List.getElem?_append_left him] at ho; exact ho
          have hj := guardsD_ok hgd i o ho₂ j p hg
          simp only [List.getElem?_toArray]
          rw [List.getElem?_append_left hj, List.getElem?_append_left hj]
        · by_cases hji : j = i
          · subst hji; rw [if_pos rfl, if_pos him, if_pos rfl]
          · rw [if_neg hji]
            by_cases hjm : j < ops₁.length
            · rw [if_pos hjm, if_pos hjm, if_neg hji]
            · rw [if_neg hjm, if_neg hjm, if_neg (by omega)]
      · by_cases hie : i = e
        · subst hie
          rw [heo] at ho
          cases ho
          have ho₁ : (ops₁ ++ [oE])[ops₁.length]? = some oE := by simp
          have hnl' : L ops₁.length = false := by rw [if_neg him] at hnl; simpa using hnl
          refine wpOp_conv (g := (ops₁ ++ [oE]).toArray) (i := ops₁.length) (o := oE) (by simp) (by simpa using heo) (fun j p hg => by rw [hgE] at hg; cases hg) (dstep hX hd hi ho₁ hnl' (fun x hx hb => by rw [hE x hx] at hb; cases hb) (L' := fun j => if j = ops₁.length then true else L j) (fun j => rfl) (hupd ops₁.length fun j hj => ?_) (fun ch x w' hx hch hs hk hst => hP L ρ a w ch x ops₁.length w' hi hx hch hs hk hst))
          by_cases hji : j = i
          · subst hji; rw [if_pos rfl, if_neg him, if_pos rfl]; simp
          · rw [if_neg hji]
            by_cases hjm : j < ops₁.length
            · rw [if_pos hjm, if_pos hjm, if_neg (by omega)]
            · rw [if_neg hjm, if_neg hjm]; simp [hji]
        · exfalso
          apply hz
          intro k hk
          obtain ⟨x, hx, hb, h4⟩ := hfirst i o ho (by omega) hie k hk
          have h5 := hr' x hx hb
          rcases h4 with h4 | h4
          · rw [h4, if_pos hk] at h5; exact h5
          · by_cases hxm : x.on < ops₁.length
            · rw [if_pos hxm] at h5
              exact hi.cl x.on k h5 (by rw [hA' _ hxm]; exact h4)
            · rw [if_neg hxm] at h5
              simp only [Bool.and_eq_true, decide_eq_true_eq] at h5
              rw [h5.1, hAe] at h4
              cases h4
end
theorem pD_app {L : Nat → Bool} : ∀ {l l' : List DE} {k id : Nat} {x : Option HB}, pD L (l ++ l') k id x = pD L l' (k + l.length) id (pD L l k id x)
  | [], l', k, id, x => rfl
  | e :: r, l', k, id, x => by
    simp only [List.cons_append, pD, List.length_cons]
    rw [pD_app, show k + 1 + r.length = k + (r.length + 1) by omega]
def snocK : List Oper → Oper → (List Oper → Prop) → Prop
  | [], o, K => K [o]
  | x :: l, o, K => snocK l o fun r => K (x :: r)
theorem snocK_eq : ∀ (l : List Oper) (o : Oper) (K : List Oper → Prop), snocK l o K = K (l ++ [o])
  | [], o, K => rfl
  | x :: l, o, K => by simp only [snocK, snocK_eq l]; rfl
def endEx (X : Cx) (arr : Array Oper) (ops₁ g : List Oper) (A' : List Nat) (S : List (Nat × Nat)) (m e : Nat) (st : St) (K : Ex → St → Prop) (acc : List DE) : Prop :=
  match (match panOf acc with | none => sameS (storesOf acc 0) S | some _ => isNilS (storesOf acc 0)), chainD A' [] S, idsD st.nx acc 0 with
  | true, true, true => (match panOf acc with
    | none => (fFL (finF ops₁ (acc.take m) st.F) fun F' => finGK (acc.take m) st.gs fun gs' => finHK (acc.take m) st.H fun H' => natF (st.nx + 4 * lenD acc) fun nx' => AnyS X arr (arr.size - m - (if false = true then 1 else 0)) (firstE m e arr.size false) ⟨F', gs', H', nx', st.D⟩ K) ∧
        (fFL (finF g acc st.F) fun F' => finGK acc st.gs fun gs' => finHK acc st.H fun H' => natF (st.nx + 4 * lenD acc) fun nx' => AnyS X arr (arr.size - m - (if true = true then 1 else 0)) (firstE m e arr.size true) ⟨F', gs', H', nx', st.D⟩ K)
    | some ch => (match isNilS (storesOf acc 0), onePan acc, (panOf (acc.take m)).isSome with
      | true, true, true => fFL (keepF g st.F) fun F' => natF (st.nx + 4 * lenD acc) fun nx' => K (.panic ch) ⟨F', st.gs, st.H, nx', st.D⟩
      | _, _, _ => False))
  | _, _, _ => False
/-- A region whose order Go leaves open: the first m operations in any order, the one at e anywhere, and then the others, in any order. -/
def drawnE (X : Cx) (ops : List Oper) (arr : Array Oper) (A A' : List Nat) (S : List (Nat × Nat)) (m e : Nat) (st : St) (K : Ex → St → Prop) : Prop :=
  splitK m ops fun ops₁ ops₂ => match nth ops e with
    | some oE => snocK ops₁ oE fun g => (match uniqD g g 0, edgesD ops 0, putD st.gs X.nt g, guardsD m ops₁, firstB m (e - m) (dropL m A), leO m ops, noEdge oE.after.toList, oE.guard.isNone, Nat.ble m e with
      | true, true, true, true, true, true, true, true, true => evalD X g A' S (findF st.F) (findH st.H) st.nx 0 g [] (endEx X arr ops₁ g A' S m e st K)
      | _, _, _, _, _, _, _, _, _ => False)
    | none => False
section
variable {X : Cx} {st : St}
/-- A region whose order Go leaves open. -/
theorem drawnE_ok (hX : X.Ok) (hm : X.P.follows .mixedOrders = true) (A A' : List Nat) (S : List (Nat × Nat)) (m e : Nat) {id : Nat} {ops : Array Oper} (hA : ancL ops.toList [] = A) (hA' : A.take m ++ [0] = A') (hAe : getN A e = 0) {K : Ex → St → Prop} (h : drawnE X ops.toList ops A A' S m e st K) : SemC X (.region id ops true) st K := by
  intro ρ a w hmod
  unfold drawnE at h
  rw [splitK_eq] at h
  generalize hops₁ : ops.toList.take m = ops₁ at h
  generalize hops₂ : ops.toList.drop m = ops₂ at h
  have hops : ops.toList = ops₁ ++ ops₂ := by rw [← hops₁, ← hops₂, List.take_append_drop]
  have hopsA : ops = (ops₁ ++ ops₂).toArray := by rw [← hops]
  split at h
  case h_2 => exact h.elim
  rename_i oE heo
  rw [nth_eq, hops] at heo
  rw [snocK_eq] at h
  split at h
  · rename_i hu he hp hgd hfull hle hno hgn hme
    have hm1 : ops₁.length = m := by rw [← hops₁, List.length_take]; have := leO_ok hle; omega
    have hme : m ≤ e := Nat.le_of_ble_eq_true hme
    have hgE : oE.guard = none := by
      cases hg : oE.guard with
      | none => rfl
      | some x => rw [hg] at hgn; cases hgn
    have hE : ∀ x ∈ oE.after.toList, bindsAny x = false := fun x hx => by
      have := List.all_eq_true.1 hno x hx
      simpa using this
    have hgA : ∀ j, j < m → getN A' j = getN A j := fun j hj => by
      rw [← hA']
      unfold getN
      rw [nth_eq, nth_eq]
      rcases Nat.lt_or_ge j A.length with h1 | h1
      · rw [List.getElem?_append_left (by rw [List.length_take]; omega), List.getElem?_take_of_lt hj]
      · have hAl : A.length = ops.toList.length := by rw [← hA, ancL_len]; simp
        have := leO_ok hle
        omega
    have hgm : getN A' m = 0 := by
      rw [← hA']
      unfold getN
      rw [nth_eq]
      have hAl : A.length = ops.toList.length := by rw [← hA, ancL_len]; simp
      have := leO_ok hle
      rw [List.getElem?_append_right (by rw [List.length_take]; omega), List.length_take, Nat.min_eq_left (by omega), Nat.sub_self]
      rfl
    obtain ⟨acc, hlen, hend, hstep⟩ := evalD_ok (ops₁ ++ [oE]) 0 [] rfl (by simp) rfl h (fun j o hj => by omega)
    unfold endEx at hend
    split at hend
    · rename_i hsame hchain hids
      have hSe : storesOf acc 0 = S ∨ storesOf acc 0 = [] := by
        split at hsame
        · exact .inl (sameS_eq hsame)
        · refine .inr ?_
          cases hs : storesOf acc 0 with
          | nil => rfl
          | cons x r => rw [hs] at hsame; cases hsame
      have hext : ∀ id hb, findH st.H id = some hb → id < st.nx := fun id hb hf => by
        obtain ⟨nm, h1, _⟩ := hmod.hm.ok id hb hf
        rcases Nat.lt_or_ge id st.nx with h2 | h2
        · exact h2
        · rw [hmod.nx id h2] at h1; cases h1
      rw [hops] at hA he
      have hanc0 : ∀ (j : Nat) (o : Oper) (k : Nat), (ops₁ ++ ops₂)[j]? = some o → hasBit (getN A j) k = true → ∃ e ∈ o.after.toList, bindsAny e = true ∧ (e.on = k ∨ hasBit (getN A e.on) k = true) := by
        intro j o k hj hb
        have := ancL_ok (ops₁ ++ ops₂) [] j o k hj (by rw [hA]; simpa using hb)
        rw [hA] at this
        exact this
      have hedge : ∀ (j : Nat) (o : Oper), (ops₁ ++ ops₂)[j]? = some o → ∀ e ∈ o.after.toList, bindsAny e = true → e.on < j := by
        intro j o hj e hE hb
        have := edgesD_ok he j o hj e hE hb
        omega
      have hpre : ∀ (j : Nat) (o : Oper), (ops₁ ++ [oE])[j]? = some o → (j < m ∧ (ops₁ ++ ops₂)[j]? = some o) ∨ (j = m ∧ o = oE) := fun j o hj => by
        rcases Nat.lt_or_ge j ops₁.length with h1 | h1
        · rw [List.getElem?_append_left h1] at hj
          exact .inl ⟨by omega, by rw [List.getElem?_append_left h1]; exact hj⟩
        · rw [List.getElem?_append_right h1] at hj
          have h2 := lt_of_get hj
          simp at h2
          have h3 : j - ops₁.length = 0 := by omega
          rw [h3] at hj
          simp at hj
          exact .inr ⟨by omega, hj.symm⟩
      have hd : DOk X (ops₁ ++ [oE]) A' S st acc := {
        len := hlen
        step := hstep
        anc := fun j o k hj hb => by
          rcases hpre j o hj with ⟨h1, h2⟩ | ⟨rfl, rfl⟩
          · rw [hgA j h1] at hb
            obtain ⟨x, hx, hbx, h3⟩ := hanc0 j o k h2 hb
            have h4 := hedge j o h2 x hx hbx
            exact ⟨x, hx, hbx, by rw [hgA _ (by omega)]; exact h3⟩
          · rw [hgm] at hb
            rw [hasBit_eq] at hb
            simp at hb
        uniq := fun j o d hj hdst => by
          have := uniqD_ok (ops₁ ++ [oE]) 0 hu j o d hj hdst
          simpa using this
        edges := fun j o hj x hx hb => by
          rcases hpre j o hj with ⟨h1, h2⟩ | ⟨rfl, rfl⟩
          · exact hedge j o h2 x hx hb
          · rw [hE x hx] at hb; cases hb
        put := fun j o hj => putD_ok hp j o hj
        stores := fun j e id off cs hj hE => by
          have := storesOf_ok (k := 0) hj hE
          rcases hSe with hSe | hSe
          · rw [hSe] at this
            simpa using this
          · rw [hSe] at this; cases this
        chain := fun j j' e e' id off cs id' off' cs' h1 h2 h3 h4 h5 => by
          have a1 := storesOf_ok (k := 0) h1 h2
          have a2 := storesOf_ok (k := 0) h3 h4
          rw [Nat.zero_add] at a1 a2
          rcases hSe with hSe | hSe
          case inr => rw [hSe] at a1; cases a1
          obtain ⟨x, hx⟩ := List.getElem?_of_mem a1
          obtain ⟨y, hy⟩ := List.getElem?_of_mem a2
          have hxy := storesOf_sorted hx hy h5
          rw [hSe] at hx hy
          exact chainD_pair hchain x y _ _ hx hy hxy
        ids := fun j e l hj hE id hb hf => by
          have := idsD_ok hids j e l hj hE id hb hf
          simpa using this }
      have hfirst' : ∀ (i : Nat) (o : Oper), (ops₁ ++ ops₂)[i]? = some o → ops₁.length ≤ i → i ≠ e → ∀ k, k < ops₁.length → ∃ x ∈ o.after.toList, bindsAny x = true ∧ (x.on = k ∨ hasBit (getN A x.on) k = true) := by
        intro i o ho hmi hne k hk
        refine hanc0 i o k ho ?_
        rw [dropL_eq] at hfull
        unfold getN
        rw [nth_eq]
        cases hAi : A[i]? with
        | none =>
          exfalso
          have h1 : A.length = (ops₁ ++ ops₂).length := by rw [← hA, ancL_len]; simp
          have h2 := lt_of_get ho
          rw [List.getElem?_eq_none_iff] at hAi
          omega
        | some n =>
          refine firstB_ok hfull (i := i - m) ?_ (by omega) k (by omega)
          rw [List.getElem?_drop, show m + (i - m) = i by omega]
          exact hAi
      have hi : DInv X (ops₁ ++ [oE]) A' st acc (fun _ => false) ρ a { w with drawn := w.drawn + 1 } := {
        cl := fun j k h => by cases h
        lt := fun j h => by cases h
        fm := by
          intro t e hf
          refine hmod.fm t e ?_
          unfold fD at hf
          split at hf
          · exact hf
          · simpa using hf
        hm := by
          have e : hD acc (findH st.H) (fun _ => false) = findH st.H := by funext id; exact pD_skip fun j e _ h => by cases h
          rw [e]
          exact hmod.hm.world (Nat.le_refl _) (fun _ _ => rfl)
        kp := by
          have e : hD acc (findH st.H) (fun _ => false) = findH st.H := by funext id; exact pD_skip fun j e _ h => by cases h
          rw [e]
          exact hmod.kp.world (Nat.le_refl _) (fun _ _ => rfl)
        df := hmod.df
        sz := hmod.sz
        gs0 := hmod.gs
        nx := fun j hj hne => absurd (hmod.nx j hj) hne
        np := fun k e h => by cases h
        ext := hext }
      have hrep : ∀ n j, j < n → (Array.replicate n false)[j]? = some false := fun n j hj => by simp [hj]
      rw [hopsA]
      have hB0 : ∀ j, (if j < ops₁.length then (fun _ : Nat => false) j else (decide (j = e) && (fun _ : Nat => false) ops₁.length)) = false := fun j => by split <;> simp
      refine wpIn_region_any hm (dloopE hX (by omega) heo hE hgE (fun j hj => hgA j (by omega)) (fun k => by rw [hAe, hasBit_eq]; simp) hd (by rw [hm1]; exact hgd) hedge hfirst' ?_ ?_ _ _ (fun _ => false) ρ a _ (by simp) (fun j hj => by rw [hB0]; exact hrep _ j (by simpa using hj)) (by rw [cnt_congr fun j _ => hB0 j, cnt_full]; simp) hi)
      · intro b L ρ' a' w' listed hi' hall hLb hsz hli
        split at hend
        · rename_i hpan
          obtain ⟨hend1, hend2⟩ := hend
          rw [fFL_eq, finGK_eq, finHK_eq, natF_eq] at hend1 hend2
          have hli2 : listed = firstE m e ops.size b := by
            apply Array.ext
            · rw [hsz, firstE_size, hopsA, List.size_toArray]
            · intro j h1 h2
              have h3 := hli j (by rw [← hsz]; exact h1)
              rw [Array.getElem?_eq_getElem h1] at h3
              rw [firstE_get, Option.some.inj h3, hm1]
          rw [← hopsA, hli2]
          have hfu : (ops₁ ++ ops₂).length = ops.size := by rw [hopsA, List.size_toArray]
          rw [hfu, hm1]
          have hnxx : ∀ j, st.nx + 4 * lenD acc ≤ j → ρ' j = none := fun j hj => by
            cases hr : ρ' j with
            | none => rfl
            | some nm =>
              obtain ⟨k, x, l, hb, h1, h2, h3, h4⟩ := hi'.nx j (by omega) (by rw [hr]; simp)
              have := hd.ids k x l h2 h3 _ _ h4
              have := lt_of_get h2
              rw [lenD_eq] at hj
              omega
          cases b with
          | true =>
            have hall2 : ∀ j, j < (ops₁ ++ [oE]).length → L j = true := fun j hj => by
              rcases Nat.lt_or_ge j ops₁.length with h1 | h1
              · exact hall j h1
              · have : j = ops₁.length := by simp at hj; omega
                rw [this]; exact hLb
            have e1 := finF_eq hd hall2
            have e2 : findH (finH acc st.H) = hD acc (findH st.H) L := by
              funext id
              exact finH_eq (k := 0) (fun j hj => by rw [Nat.zero_add]; exact hall2 j (by rw [← hlen]; exact hj))
            have hmod' : Mod X ρ' ⟨finF (ops₁ ++ [oE]) acc st.F, finG acc st.gs, finH acc st.H, st.nx + 4 * lenD acc, st.D⟩ a' w' := {
              fm := by rw [e1]; exact hi'.fm
              gs := fun t x hf y hy => by
                have hf : findF (finF (ops₁ ++ [oE]) acc st.F) t = some x := hf
                rw [e1] at hf
                unfold fD at hf
                split at hf
                · exact finG_mem.1 _ (hi'.gs0 t x hf y hy)
                · rename_i k _
                  split at hf
                  · rw [nth_eq] at hf
                    cases hk : acc[k]? with
                    | none => rw [hk] at hf; cases hf
                    | some ek =>
                      rw [hk] at hf; cases hf
                      exact finG_mem.2 k ek hk y hy
                  · exact finG_mem.1 _ (hi'.gs0 t x hf y hy)
              df := hi'.df
              hm := by rw [e2]; exact hi'.hm
              kp := by rw [e2]; exact hi'.kp
              nx := hnxx
              sz := hi'.sz }
            exact wpAnyIn_monoQ (Qnp_Qof (K := K)) _ _ _ _ (hend2.h ρ' a' w' hmod')
          | false =>
            have hsplit : ∃ eE, acc = acc.take m ++ [eE] := by
              have hl : acc.length = m + 1 := by rw [hlen]; simp [hm1]
              have hne : acc ≠ [] := by intro h; rw [h] at hl; cases hl
              refine ⟨acc.getLast hne, ?_⟩
              have h1 := List.dropLast_concat_getLast hne
              have h2 : acc.dropLast = acc.take m := by rw [List.dropLast_eq_take]; congr 1; omega
              rw [← h2, h1]
            obtain ⟨eE, hac⟩ := hsplit
            generalize hac1 : acc.take m = acc₁ at hac hend1
            have hl1 : acc₁.length = m := by
              rw [← hac1, List.length_take]
              have hl : acc.length = m + 1 := by rw [hlen]; simp [hm1]
              omega
            have e1 : findF (finF ops₁ acc₁ st.F) = fD (ops₁ ++ [oE]) acc (findF st.F) L := by
              funext t
              unfold fD
              cases hdi : dstIdx (ops₁ ++ [oE]) 0 t with
              | none =>
                simp only
                refine finF_not fun j o hj hdst => ?_
                have := hd.uniq j o t (by rw [List.getElem?_append_left (lt_of_get hj)]; exact hj) hdst
                rw [hdi] at this; cases this
              | some k =>
                obtain ⟨_, o, h1, h2⟩ := dstIdx_some hdi
                simp only [Nat.sub_zero] at h1
                have hkl := lt_of_get h1
                simp at hkl
                rcases Nat.lt_or_ge k ops₁.length with hk | hk
                · have hak : acc[k]? = some (acc₁[k]'(by omega)) := by
                    rw [hac, List.getElem?_append_left (by omega)]
                    exact List.getElem?_eq_getElem _
                  have hak1 : acc₁[k]? = some (acc₁[k]'(by omega)) := List.getElem?_eq_getElem _
                  simp only [hall k hk, if_true, nth_eq, hak]
                  rw [List.getElem?_append_left hk] at h1
                  refine finF_at h1 h2 hak1 (fun j' o' hj ho' hdst => ?_)
                  have := hd.uniq j' o' t (by rw [List.getElem?_append_left (lt_of_get ho')]; exact ho') hdst
                  rw [hdi] at this
                  cases this
                  omega
                · have hkm : k = ops₁.length := by omega
                  have hLk : L k = false := by rw [hkm]; exact hLb
                  simp only [hLk, if_false, Bool.false_eq_true]
                  refine finF_not fun j o' hj hdst => ?_
                  have := hd.uniq j o' t (by rw [List.getElem?_append_left (lt_of_get hj)]; exact hj) hdst
                  rw [hdi] at this
                  cases this
                  have := lt_of_get hj
                  omega
            have e2 : findH (finH acc₁ st.H) = hD acc (findH st.H) L := by
              funext id
              rw [finH_eq (L := L) (k := 0) (fun j hj => by rw [Nat.zero_add]; exact hall j (by omega))]
              unfold hD
              rw [hac, pD_app]
              have : L (0 + acc₁.length) = false := by rw [Nat.zero_add, hl1, ← hm1]; exact hLb
              simp only [pD, this, if_false, Bool.false_eq_true]
            have hmod' : Mod X ρ' ⟨finF ops₁ acc₁ st.F, finG acc₁ st.gs, finH acc₁ st.H, st.nx + 4 * lenD acc, st.D⟩ a' w' := {
              fm := by rw [e1]; exact hi'.fm
              gs := fun t x hf y hy => by
                have hf : findF (finF ops₁ acc₁ st.F) t = some x := hf
                rw [e1] at hf
                unfold fD at hf
                split at hf
                · exact finG_mem.1 _ (hi'.gs0 t x hf y hy)
                · rename_i k _
                  split at hf
                  · rename_i hLk
                    rw [nth_eq] at hf
                    cases hk : acc[k]? with
                    | none => rw [hk] at hf; cases hf
                    | some ek =>
                      rw [hk] at hf; cases hf
                      have hkm : k < acc₁.length := by
                        have h1 := lt_of_get hk
                        rw [hac] at h1
                        simp at h1
                        rcases Nat.lt_or_ge k acc₁.length with h2 | h2
                        · exact h2
                        · have : k = ops₁.length := by omega
                          rw [this, hLb] at hLk
                          cases hLk
                      rw [hac, List.getElem?_append_left hkm] at hk
                      exact finG_mem.2 k ek hk y hy
                  · exact finG_mem.1 _ (hi'.gs0 t x hf y hy)
              df := hi'.df
              hm := by rw [e2]; exact hi'.hm
              kp := by rw [e2]; exact hi'.kp
              nx := hnxx
              sz := hi'.sz }
            exact wpAnyIn_monoQ (Qnp_Qof (K := K)) _ _ _ _ (hend1.h ρ' a' w' hmod')
        · rename_i ch hpan
          -- some operation panics: not all can be listed
          split at hend
          · rename_i hnil hone hsome
            have : ∀ {l : List DE}, (panOf l).isSome = true → ∃ (j : Nat) (x : DE) (ch : List PanicEntry), l[j]? = some x ∧ x.eff = .pan ch := by
              intro l
              induction l with
              | nil => intro h; cases h
              | cons x r ih =>
                intro h
                simp only [panOf] at h
                split at h
                · rename_i ch' hx; exact ⟨0, x, ch', by simp, hx⟩
                · obtain ⟨j, x, ch, h1, h2⟩ := ih h; exact ⟨j + 1, x, ch, by simpa using h1, h2⟩
            obtain ⟨j, x, ch', h1, h2⟩ := this hsome
            have hj := lt_of_get h1
            rw [List.length_take] at hj
            rw [List.getElem?_take_of_lt (by omega)] at h1
            exact absurd h2 ((hi'.np j x (hall j (by omega)) h1).2 ch')
          · exact hend.elim
      · intro L ρ' a' w' ch e i w'' hi' hei hch hsz hkeep hstr
        split at hend
        · rename_i hpan
          exact absurd hch (panOf_none hpan hei)
        · rename_i ch' hpan
          split at hend
          · rename_i hnil hone hsome
            have hcc := onePan_eq hone hpan hei hch
            subst hcc
            rw [fFL_eq, natF_eq] at hend
            refine ⟨.panic ch, _, ρ', rfl, ?_, hend⟩
            have hSn : storesOf acc 0 = [] := by
              cases hs : storesOf acc 0 with
              | nil => rfl
              | cons x r => rw [hs] at hnil; cases hnil
            have hle : ∀ id hb, findH st.H id = some hb → hD acc (findH st.H) L id = some hb := by
              intro id hb hf
              rw [hD_old hd (hext _ _ hf) (fun j e off cs _ hj he' => ?_)]
              · exact hf
              · have := storesOf_ok (k := 0) hj he'
                rw [hSn] at this; cases this
            have hm' : HM ρ' (findH st.H) w' := hi'.hm.sub hle
            exact {
              fm := fun t e hf => by
                obtain ⟨h1, h2⟩ := keepF_find hf
                refine hi'.fm t e ?_
                unfold fD
                rw [h2]
                exact h1
              gs := fun t e hf x hx => hi'.gs0 t e (keepF_find hf).1 x hx
              df := hi'.df
              hm := hm'.world hsz hkeep
              kp := {
                str := hi'.kp.str.trans hstr
                size := Nat.le_trans hi'.kp.size hsz
                same := fun b hb hM => (hkeep b (by have := hi'.kp.size; omega)).trans (hi'.kp.same b hb hM)
                own := fun b ho => hi'.kp.own b (Own.sub hle ho)
                ext := hi'.kp.ext
                fz := fun b hz => hi'.kp.fz b (hz.sub fun id size C hf => hle _ _ hf) }
              nx := fun j hj => by
                have hj : st.nx + 4 * lenD acc ≤ j := hj
                cases hr : ρ' j with
                | none => rfl
                | some nm =>
                  obtain ⟨k, e, l, hb, h1, h2, h3, h4⟩ := hi'.nx j (by omega) (by rw [hr]; simp)
                  have := hd.ids k e l h2 h3 _ _ h4
                  have := lt_of_get h2
                  rw [lenD_eq] at hj
                  omega
              sz := hi'.sz }
          · exact hend.elim
    · exact hend.elim
  · exact h.elim
end
end Go.X
end

section
set_option linter.unusedVariables false
set_option linter.unusedSimpArgs false
set_option linter.unusedSectionVars false
/- Contracts that hand back an empty piece where a function hands back a nil slice. -/
set_option linter.unusedVariables false
set_option linter.unusedSimpArgs false
set_option maxRecDepth 10000
set_option maxHeartbeats 4000000
namespace Go.X
open Go Go.Proofs
variable {P : Program}

/-- A contract that hands back an empty piece where the function hands back a nil slice. -/
theorem cok_nilE {f : Nat} {a b : Ct} (ha : COk P f a) (h : ∀ fr args H out, b fr args H = some out → PreH out.pre → ∃ oa, a fr args H = some oa ∧ PreH oa.pre ∧ ((oa.pan = out.pan ∧ oa.v = out.v ∧ oa.news = out.news) ∨
    ∃ e T s g, oa.pan = none ∧ out.pan = none ∧ oa.news = [] ∧ oa.v = .tup [.sv (.slice none 0 0), .si .i64 e] ∧ out.v = .tup [.sl fr, .si .i64 e] ∧ out.news = [(fr, .vec T s 0 g)])) : COk P f b := by
  intro ρ H w fr args vals out hm hfr hd hb hp
  obtain ⟨oa, h1, h2, h3⟩ := h fr args H out hb hp
  have hc := ha ρ H w fr args vals oa hm hfr hd h1 h2
  rcases h3 with ⟨e1, e2, e3⟩ | ⟨e, T, s, g, e1, e2, e3, e4, e5, e6⟩
  · refine hc.mono fun x w' hx => ?_
    obtain ⟨p1, p2, v1, n1⟩ := oa
    obtain ⟨q1, q2, v2, n2⟩ := out
    simp only at e1 e2 e3
    subst e1 e2 e3
    have hce : ∀ {v : Value} {ρ' : Env}, CallEnd ρ H fr w ⟨p1, p2, v1, n1⟩ v w' ρ' → CallEnd ρ H fr w ⟨q1, p2, v1, n1⟩ v w' ρ' := fun k => ⟨k.str, k.ext, k.fresh, k.den, k.hm, k.own, k.size, k.same, k.fz⟩
    unfold CPost at hx ⊢
    cases p2 with
    | none => obtain ⟨ρ', v, k1, k2⟩ := hx; exact ⟨ρ', v, k1, hce k2⟩
    | some p =>
      obtain ⟨c, ch⟩ := p
      rcases hx with hx | ⟨k0, ρ', v, k1, k2⟩
      · exact .inl hx
      · exact .inr ⟨k0, ρ', v, k1, hce k2⟩
  · refine hc.mono fun x w' hx => ?_
    unfold CPost at hx ⊢
    rw [e1] at hx
    rw [e2]
    obtain ⟨ρ', v, k1, k2⟩ := hx
    have hρ : ρ' = ρ := by
      funext j
      cases Classical.em (ρ' j = ρ j) with
      | inl h => exact h
      | inr h =>
        obtain ⟨_, _, hb, hmem⟩ := k2.fresh j h
        rw [e3] at hmem
        cases hmem
    subst hρ
    have hf : ρ' fr = none := hfr fr (Nat.le_refl _) (by omega)
    have hhm := k2.hm
    have hown := k2.own
    rw [e3] at hhm hown
    have hext : Ext ρ' (upd ρ' fr (.sl none 0 0 s)) := Ext.upd _ hf
    have hm2 : HM (upd ρ' fr (.sl none 0 0 s)) (updL H fr (.vec T s 0 g)) w' := by
      refine hhm.add (g := w'.heap.size) hf (Nat.le_refl _) (fun k _ _ => rfl) (fun ho => Nat.lt_irrefl _ (hhm.lt ho)) ?_ ⟨rfl, rfl, rfl, rfl, rfl⟩ (fun b hb => by cases hb) rfl (fun hz => Nat.lt_irrefl _ (hhm.fz_lt hz))
      intro j size m get nm h1 h2 h3 h4
      obtain ⟨nm', h5, h6⟩ := hhm.ok _ _ h1
      rw [h3] at h5; cases h5
      cases nm <;> simp only [HBok] at h6
      obtain ⟨_, _, _, h7⟩ := h6
      obtain ⟨ad, rfl, h8, _⟩ := h7 h2
      simp only [roBlock, Option.some.injEq] at h4
      omega
    refine ⟨_, v, k1, {
      str := k2.str
      ext := hext
      fresh := fun j hj => by
        have : j = fr := by
          cases Classical.em (j = fr) with
          | inl h => exact h
          | inr h => exact absurd (by simp [upd, h]) hj
        subst this
        exact ⟨Nat.le_refl _, by omega, _, by rw [e6]; exact List.mem_cons_self⟩
      den := by
        have hd := k2.den
        rw [e4] at hd
        rw [e5]
        simp only [den, denL, upd_self] at hd ⊢
        exact hd
      hm := by rw [e6]; exact hm2
      own := fun b ⟨id, x, nm', h1, h2, h3, h4⟩ => by
        rw [e6] at h1
        have h1 : updL H fr (.vec T s 0 g) id = some x := h1
        by_cases e : fr = id
        · subst e
          rw [upd_self] at h3; cases h3
          cases h4
        · rw [updL_ne _ _ e] at h1
          rw [upd_ne _ _ (Ne.symm e)] at h3
          exact hown b ⟨id, x, nm', h1, h2, h3, h4⟩
      size := k2.size
      same := k2.same
      fz := fun b hz => by
        rw [e6] at hz
        have h1 := k2.fz b
        rw [e3] at h1
        exact h1 (Fz.upd (fun s C h => by cases h) hz) }⟩

/-- Two contracts of one function. -/
def orC (a b : Ct) : Ct := fun fr args H => match a fr args H with
  | some o => some o
  | none => b fr args H
theorem orC_ok {f : Nat} {a b : Ct} (ha : COk P f a) (hb : COk P f b) : COk P f (orC a b) := by
  intro ρ H w fr args vals out h1 h2 h3 h4 h5
  unfold orC at h4
  split at h4
  · rename_i o e
    cases h4
    exact ha ρ H w fr args vals _ h1 h2 h3 e h5
  · exact hb ρ H w fr args vals out h1 h2 h3 h4 h5
theorem any_latD {D : List SDef} {X : Cx} {ops : Array Oper} {K : Ex → St → Prop} (hX : X.Ok) (m : Nat) (arr : List Bool → Array Bool) (opi : Nat → Nat) (ex : List Bool → Bool) (slots : Nat → List (Nat × FE)) (base : List (Nat × FE)) (Hf : List Bool → List (Nat × HB)) (nxf : List Bool → Nat) (anc : Nat → List Nat) (rest : Nat)
    (hanc : ∀ i, i < m → ∀ j ∈ anc i, j < m) (hchk : ∀ l ∈ allB m, latX ops m arr opi ex anc l = true) (hA : subF (slF slots base (List.replicate m true)) (slF slots base (List.replicate m true)))
    (hst : ∀ i, i < m → ∀ l : List Bool, l.length = m → l.getD i true = false → (∀ j ∈ anc i, l.getD j false = true) → clB2 anc l = true → ∃ o, ops[opi i]? = some o ∧ o.guard = none ∧ ∀ (tail : List (Nat × FE)) (Q : Exit → Act → World → Prop) (Kn : St → Prop), Cont X Q Kn (fun _ _ => False) → Kn ⟨slots i ++ ((anc i).flatMap slots ++ (base ++ tail)), [], Hf (l.set i true), nxf (l.set i true), D⟩ →
      execL X [o] Q Kn (fun _ _ => False) 0 [o] ⟨(anc i).flatMap slots ++ (base ++ tail), [], Hf l, nxf l, D⟩)
    (hend : ∀ l : List Bool, l.length = m → ex l = true → AnyS X ops (l.count false + rest) (arr l) ⟨slF slots base l, [], Hf l, nxf l, D⟩ K) :
    ∀ l : List Bool, l.length = m → clB2 anc l = true → AnyS X ops (l.count false + rest) (arr l) ⟨slF slots base l, [], Hf l, nxf l, D⟩ K := by
  have hA' : ∀ p ∈ slF slots base (List.replicate m true), findF (slF slots base (List.replicate m true)) p.1 = some p.2 ∧ p.2.gp = [] := by
    generalize slF slots base (List.replicate m true) = A at hA
    have : ∀ L : List (Nat × FE), subF A L → ∀ p ∈ L, findF A p.1 = some p.2 ∧ p.2.gp = [] := by
      intro L
      induction L with
      | nil => intro _ p hp; cases hp
      | cons q r ih =>
        intro h p hp
        obtain ⟨d, e⟩ := q
        rcases List.mem_cons.1 hp with rfl | hp
        · exact h.1
        · exact ih h.2 p hp
    exact this A hA
  have hall : ∀ l : List Bool, l.length = m → ∀ p ∈ slF slots base l, p ∈ slF slots base (List.replicate m true) := by
    intro l hl p hp
    rcases slF_mem.1 hp with ⟨i, hi, _, h⟩ | h
    · refine slF_mem.2 (.inl ⟨i, by simpa [hl] using hi, ?_, h⟩)
      have : i < m := hl ▸ hi
      simp [List.getD, this]
    · exact slF_mem.2 (.inr h)
  have main : ∀ k, ∀ l : List Bool, l.length = m → clB2 anc l = true → l.count false = k → AnyS X ops (k + rest) (arr l) ⟨slF slots base l, [], Hf l, nxf l, D⟩ K := by
    intro k
    induction k with
    | zero =>
      intro l hl hcl hk
      have hc := hchk l (hl ▸ mem_allB l)
      cases he : ex l with
      | true => have := hend l hl he; rw [hk] at this; exact this
      | false =>
        unfold latX at hc
        rw [hcl, he] at hc
        simp only [Bool.not_true, Bool.false_or, Bool.and_eq_true, Bool.not_eq_true', List.all_eq_true, List.any_eq_true, beq_iff_eq] at hc
        obtain ⟨hne, hrs⟩ := hc
        cases hr : Region.ready .any ops (arr l) with
        | nil => rw [hr] at hne; cases hne
        | cons o r =>
          obtain ⟨i, him, -, hif, -⟩ := hrs o (by rw [hr]; exact List.mem_cons_self)
          have him : i < m := List.mem_range.1 him
          have hil : i < l.length := by omega
          have hli2 : l[i] = false := by
            rw [List.getD, List.getElem?_eq_getElem hil] at hif
            simpa using hif
          have : false ∈ l := hli2 ▸ List.getElem_mem hil
          have := List.count_pos_iff.2 this
          omega
    | succ k ih =>
      intro l hl hcl hk
      have hc := hchk l (hl ▸ mem_allB l)
      cases he : ex l with
      | true => have := hend l hl he; rw [hk] at this; exact this
      | false =>
      unfold latX at hc
      rw [hcl, he] at hc
      simp only [Bool.not_true, Bool.false_or, Bool.and_eq_true, Bool.not_eq_true', List.all_eq_true, List.any_eq_true, beq_iff_eq] at hc
      obtain ⟨hne, hrs⟩ := hc
      refine ⟨fun ρ a w hmod => ?_⟩
      rw [show k + 1 + rest = (k + rest) + 1 by omega]
      refine wpAnyIn_all (rs := Region.ready .any ops (arr l)) rfl (by intro h; rw [h] at hne; cases hne) fun oi hi => ?_
      obtain ⟨i, him, rfl, hif, hia, hset⟩ := hrs oi hi
      have him : i < m := List.mem_range.1 him
      have hil : i < l.length := by omega
      obtain ⟨o, ho, hg, hstep⟩ := hst i him l hl hif hia hcl
      rw [hset]
      have hlen : (l.set i true).length = m := by rw [List.length_set, hl]
      have hget : ∀ j, (l.set i true).getD j false = true ↔ j = i ∨ l.getD j false = true := by
        intro j
        simp only [List.getD, List.getElem?_set]
        by_cases e : i = j
        · subst e; simp [hil]
        · simp [e, Ne.symm e]
      have hcl' : clB2 anc (l.set i true) = true := by
        unfold clB2 at hcl ⊢
        rw [List.all_eq_true] at hcl ⊢
        intro j hj
        rw [List.length_set] at hj
        have h0 := hcl j hj
        cases hd : (l.set i true).getD j false with
        | false => rfl
        | true =>
          rw [Bool.not_true, Bool.false_or, List.all_eq_true]
          intro q hq
          refine (hget q).2 ?_
          rcases (hget j).1 hd with rfl | hd
          · exact .inr (hia q hq)
          · rw [hd] at h0
            rw [Bool.not_true, Bool.false_or, List.all_eq_true] at h0
            exact .inr (h0 q hq)
      have hcount : (l.set i true).count false = k := by
        have hli : l[i]? = some false := by
          have : l.getD i true = false := hif
          rw [List.getD, List.getElem?_eq_getElem hil] at this
          rw [List.getElem?_eq_getElem hil]
          simpa using this
        have hli2 : l[i] = false := by rw [List.getElem?_eq_getElem hil] at hli; simpa using hli
        have := List.count_set (a := true) (b := false) (l := l) (i := i) hil
        rw [hli2] at this
        simp at this
        omega
      have ihh := ih (l.set i true) hlen hcl' hcount
      have hmem : ∀ p ∈ (anc i).flatMap slots ++ (base ++ slF slots base l), p ∈ slF slots base l := by
        intro p hp
        rcases List.mem_append.1 hp with hp | hp
        · obtain ⟨j, hj, hp⟩ := List.mem_flatMap.1 hp
          exact slF_mem.2 (.inl ⟨j, hl ▸ hanc i him j hj, hia j hj, hp⟩)
        · rcases List.mem_append.1 hp with hp | hp
          · exact slF_mem.2 (.inr hp)
          · exact hp
      have hmod' := mod_sub (F' := (anc i).flatMap slots ++ (base ++ slF slots base l)) hA' (hall l hl) hmem (Nat.le_refl _) hmod
      refine stepsK_ok hX (l := [opi i]) (K := K) (st := ⟨(anc i).flatMap slots ++ (base ++ slF slots base l), [], Hf l, nxf l, D⟩) ⟨?_, trivial⟩ (opi i) (List.mem_singleton.2 rfl) ρ a w hmod' |> fun h => by rw [hset] at h; exact h
      have hnth : nth ops.toList (opi i) = some o := by rw [nth_eq, Array.getElem?_toList]; exact ho
      rw [hnth]
      show (match o.guard with
        | none => _
        | some _ => False)
      rw [hg]
      refine hstep _ _ _ cont_any ?_
      rw [hset]
      refine ⟨fun ρ a w hm2 => ?_⟩
      refine ihh.h ρ a w (mod_sub (F := slots i ++ ((anc i).flatMap slots ++ (base ++ slF slots base l))) (nx := nxf (l.set i true)) hA' ?_ ?_ (Nat.le_refl _) hm2)
      · intro p hp
        rcases List.mem_append.1 hp with hp | hp
        · refine slF_mem.2 (.inl ⟨i, by simpa using him, ?_, hp⟩)
          simp [List.getD, him]
        · exact hall l hl p (hmem p hp)
      · intro p hp
        rcases slF_mem.1 hp with ⟨j, hj, hd, hp2⟩ | hp2
        · rw [List.length_set] at hj
          rcases (hget j).1 hd with e | hd
          · exact List.mem_append_left _ (e ▸ hp2)
          · exact List.mem_append_right _ (List.mem_append_right _ (List.mem_append_right _ (slF_mem.2 (.inl ⟨j, hj, hd, hp2⟩))))
        · exact List.mem_append_right _ (List.mem_append_right _ (List.mem_append_left _ hp2))
  exact fun l hl hcl => main _ l hl hcl rfl
theorem and_of {p q : Prop} (h2 : q) (h1 : q → p) : p ∧ q := ⟨h1 h2, h2⟩
end Go.X
end

section
set_option linter.unusedVariables false
set_option linter.unusedSimpArgs false
set_option linter.unusedSectionVars false
/- Own slices that are not written any more become slices to read; copies of parts that may be empty. -/
set_option linter.unusedVariables false
set_option linter.unusedSimpArgs false
set_option maxRecDepth 10000
set_option maxHeartbeats 4000000
namespace Go.X
open Go
section
variable {X : Cx} {ρ : Env} {st : St} {a : Act} {w : World}
theorem Mod.roVec (hm : Mod X ρ st a w) {sid e size n : Nat} {get : Nat → List SV} (h1 : findH st.H sid = some (.vec e size n get)) :
    ∃ A c, den ρ (.sl sid) = some (.slice A n c) ∧ Mod X (upd ρ st.nx (.sl A n c size)) { st with H := (st.nx, .ro size n get) :: (sid, .dead) :: st.H, nx := st.nx + 1 } a w := by
  have hf : ρ st.nx = none := hm.nx _ (Nat.le_refl _)
  obtain ⟨nm, g1, g2⟩ := hm.hm.ok _ _ h1
  have hk := hm.kill h1
  have key : ∃ A c, den ρ (.sl sid) = some (.slice A n c) ∧ HBok (upd ρ st.nx (.sl A n c size)) w (.ro size n get) (.sl A n c size) ∧ ∀ b, roBlock (.sl A n c size) = some b → 0 < n → ¬ Own ρ (findH ((sid, .dead) :: st.H)) b := by
    cases nm <;> simp only [HBok] at g2
    · obtain ⟨rfl, rfl, rfl, rfl, rfl⟩ := g2
      exact ⟨none, 0, by simp [den, g1], ⟨rfl, rfl, Nat.le_refl _, fun h => absurd h (Nat.lt_irrefl _)⟩, fun b hb => by cases hb⟩
    · rename_i nb n' c s'
      obtain ⟨rfl, rfl, hle, cells, d5, d6, d7⟩ := g2
      have hlt : nb < w.heap.size := by
        rcases Nat.lt_or_ge nb w.heap.size with h | h
        · exact h
        · rw [Array.getElem?_eq_none h] at d5; cases d5
      refine ⟨some ⟨nb, 0, none⟩, c, by simp [den, g1], ⟨rfl, rfl, hle.1, fun _ => ⟨_, rfl, hlt, fun i hi => ?_⟩⟩, fun b hb _ hO => ?_⟩
      · obtain ⟨vs, c1, c2, c3, c4⟩ := d7 i hi
        refine ⟨vs, denL_ext (Ext.upd _ hf) _ _ c1, c2, c3, fun j v hv => ?_⟩
        rw [add_zero_mk]
        simp only [World.cell?, d5, List.getElem?_toArray]
        exact c4 j v hv
      · simp only [roBlock, Option.some.injEq] at hb
        subst hb
        obtain ⟨i', x', nm', q0, q1, q2, q3, q4⟩ := Own.kill hO
        exact q0 (hm.hm.sep i' sid x' _ nm' _ nb q1 h1 q2 rfl q3 g1 q4 rfl)
  obtain ⟨A, c, hd, hok, hno⟩ := key
  refine ⟨A, c, hd, ?_⟩
  have hkh := hk.hm
  exact {
    fm := hm.fm.ext (Ext.upd _ hf)
    gs := hm.gs
    df := hm.df.ext (Ext.upd _ hf)
    hm := {
      ok := fun j hb hj => by
        rw [findH_cons] at hj
        by_cases e : st.nx = j
        · subst e; rw [updL_self] at hj; cases hj
          exact ⟨_, upd_self _ _ _, hok⟩
        · rw [updL_ne _ _ e] at hj
          obtain ⟨nm, h1, h2⟩ := hkh.ok j hb hj
          exact ⟨nm, by rw [upd_ne _ _ (Ne.symm e)]; exact h1, HBok_ext (Ext.upd _ hf) h2⟩
      sep := fun i j x y n₁ n₂ b h1 h2 l1 l2 r1 r2 o1 o2 => by
        rw [findH_cons] at h1 h2
        by_cases e1 : st.nx = i
        · subst e1; rw [upd_self] at r1; cases r1; cases o1
        · by_cases e2 : st.nx = j
          · subst e2; rw [upd_self] at r2; cases r2; cases o2
          · rw [updL_ne _ _ e1] at h1; rw [updL_ne _ _ e2] at h2
            rw [upd_ne _ _ (Ne.symm e1)] at r1; rw [upd_ne _ _ (Ne.symm e2)] at r2
            exact hkh.sep i j x y n₁ n₂ b h1 h2 l1 l2 r1 r2 o1 o2
      ro := fun j s2 n2 get' nm b hj hn hr hb ho => by
        rw [findH_cons] at hj
        rcases Own.cons hf ho with h | h
        · cases h
        by_cases e : st.nx = j
        · subst e; rw [updL_self] at hj; cases hj
          rw [upd_self] at hr; cases hr
          exact hno b hb hn h
        · rw [updL_ne _ _ e] at hj
          rw [upd_ne _ _ (Ne.symm e)] at hr
          exact hkh.ro j s2 n2 get' nm b hj hn hr hb h
      fam := fun b hz ho => by
        rw [findH_cons] at hz
        rcases Own.cons hf ho with h | h
        · cases h
        · exact hkh.fam b (hz.upd fun _ _ h => by cases h) h }
    kp := {
      str := hm.kp.str
      size := hm.kp.size
      same := hm.kp.same
      own := fun b ho => by
        rcases Own.cons hf ho with h | h
        · cases h
        · exact hk.kp.own b h
      ext := hm.kp.ext.trans (Ext.upd _ hf)
      fz := fun b hz => hk.kp.fz b (by rw [findH_cons] at hz; exact hz.upd fun _ _ h => by cases h) }
    nx := fun j hj => by
      have : st.nx + 1 ≤ j := hj
      rw [upd_ne _ _ (by omega)]; exact hm.nx j (by omega)
    sz := hm.sz }
/-- Cells, by another number of a slice. -/
def reL (id new : Nat) : List SV → List SV
  | [] => []
  | .sl j :: r => (match Nat.beq j id with
    | true => .sl new
    | false => .sl j) :: reL id new r
  | x :: r => x :: reL id new r
theorem denL_reL {ρ : Env} {id new : Nat} (h : den ρ (.sl new) = den ρ (.sl id)) : ∀ l : List SV, denL ρ (reL id new l) = denL ρ l
  | [] => rfl
  | x :: r => by
    have ih := denL_reL h r
    cases x with
    | sl j =>
      simp only [reL]
      split
      · rename_i e
        have : j = id := Nat.eq_of_beq_eq_true e
        subst this
        simp only [denL, ih, h]
      · simp only [denL, ih]
    | _ => simp only [reL, denL, ih]
theorem fb_roCell (sid cid Tc e size n : Nat) (get : Nat → List SV) (cs cs' : List SV) {ops : List Oper} {i : Nat} {o : Oper} {r : List Oper} {Q : Exit → Act → World → Prop} {K : St → Prop} {Kp : List PanicEntry → St → Prop} (hX : X.Ok) (hC : Cont X Q K Kp) (hi : ops.drop i = o :: r)
    (h1 : findH st.H sid = some (.vec e size n get)) (h2 : findH st.H cid = some (.cells Tc cs)) (hu : reL sid st.nx cs = cs')
    (h : stK st fun F gs H nx D => natF (nx + 1) fun nx' => execL X ops Q K Kp i (o :: r) ⟨F, gs, (cid, .cells Tc cs') :: (nx, .ro size n get) :: (sid, .dead) :: H, nx', D⟩) : FbO X ops Q K Kp i o r st :=
  ⟨fun ρ a w hm => by
    rw [stK_eq, natF_eq] at h
    obtain ⟨A, k, hd, hm2⟩ := hm.roVec h1
    have hf : ρ st.nx = none := hm.nx _ (Nat.le_refl _)
    obtain ⟨nm, h3, h4⟩ := hm.hm.ok _ _ h2
    have hcx : cid ≠ st.nx := fun e => by rw [e] at h3; rw [hf] at h3; cases h3
    have hcs : cid ≠ sid := fun e => by rw [e] at h2; rw [h1] at h2; cases h2
    have h5 : findH ((st.nx, .ro size n get) :: (sid, .dead) :: st.H) cid = some (.cells Tc cs) := by
      rw [findH_cons, updL_ne _ _ (Ne.symm hcx), findH_cons, updL_ne _ _ (Ne.symm hcs)]; exact h2
    have hd1 : den (upd ρ st.nx (.sl A n k size)) (.sl st.nx) = den (upd ρ st.nx (.sl A n k size)) (.sl sid) := by
      rw [den_ext (Ext.upd _ hf) _ _ hd]
      simp [den, upd_self]
    refine (fb_again hX hC hi h).h _ a w (hm2.swap (hb' := .cells Tc cs') h5 rfl (nm := nm) (by rw [upd_ne _ _ hcx]; exact h3) ?_ (fun _ _ _ h => by cases h))
    have h6 := HBok_ext (Ext.upd (.sl A n k size) hf) h4
    cases nm <;> simp only [HBok] at h6 ⊢
    obtain ⟨vs, d1, d2, d3⟩ := h6
    exact ⟨vs, by rw [← hu, denL_reL hd1]; exact d1, d2, d3⟩⟩
/-- A slice of our own that is not empty, as a part of itself. -/
theorem fb_asPart (d sid e size n : Nat) (get : Nat → List SV) {ops : List Oper} {i : Nat} {o : Oper} {r : List Oper} {Q : Exit → Act → World → Prop} {K : St → Prop} {Kp : List PanicEntry → St → Prop} (hX : X.Ok) (hC : Cont X Q K Kp) (hi : ops.drop i = o :: r)
    (h1 : findF st.F d = some ⟨[], .sl sid⟩) (h2 : findH st.H sid = some (.vec e size n get)) (hn : 0 < n) (hs : 0 < size)
    (h : stK st fun F gs H nx D => execL X ops Q K Kp i (o :: r) ⟨(d, ⟨[], .ss sid 0 n 0⟩) :: F, gs, H, nx, D⟩) : FbO X ops Q K Kp i o r st :=
  ⟨fun ρ a w hm => by
    rw [stK_eq] at h
    obtain ⟨nm, g1, g2⟩ := hm.hm.ok _ _ h2
    refine (fb_again hX hC hi h).h ρ a w (hm.reslot (u' := .ss sid 0 n 0) h1 ?_)
    cases nm <;> simp only [HBok] at g2
    · obtain ⟨rfl, rfl, rfl, rfl, rfl⟩ := g2; omega
    · rename_i nb n' c s'
      obtain ⟨rfl, rfl, hle, _⟩ := g2
      simp only [den, g1, partOf, Nat.zero_add, Nat.le_refl, hs, and_self, if_true, Nat.zero_div, Nat.sub_zero, ite_self]⟩
/-- Of nothing nothing is copied. -/
theorem fb_copyZ (v1 v2 : SV) {ops : List Oper} {i : Nat} {o : Oper} {r : List Oper} {Q : Exit → Act → World → Prop} {Kn : St → Prop} {Kp : List PanicEntry → St → Prop}
    {t u e : TypeId} {ti te : TI} {s x : Operand} {c : Call} {d : Nat} (hX : X.Ok) (hC : Cont X Q Kn Kp) (hi : ops.drop i = o :: r)
    (hc : o.op = .call c) (hcl : c.callee = .builtin .copy) (hca : c.args = #[s, x]) (hct : c.argTypes = #[t, u]) (hg : o.guard = none) (hdst : o.dst = some d) (hp : putN st.gs X.nt (some d) = false)
    (ht : X.T t = some ti) (hd : ti.desc = .slice e) (hte : X.T e = some te)
    (h1 : ev (findF st.F) [] s = some v1) (h2 : ev (findF st.F) [] x = some v2)
    (hv : ∀ ρ w, HM ρ (findH st.H) w → ∀ u1 u2, den ρ v1 = some u1 → den ρ v2 = some u2 → ∃ A1 l1 c1 A2 l2 c2, u1 = .slice A1 l1 c1 ∧ u2 = .slice A2 l2 c2 ∧ min l2 l1 = 0)
    (h : stK st fun F gs H nx D => execL X ops Q Kn Kp (i + 1) r ⟨(d, ⟨[], .si .i64 0⟩) :: F, gs, H, nx, D⟩) : FbO X ops Q Kn Kp i o r st := by
  refine fb_sem hX hC hi (by rw [hc]; intro c h; cases h) hg fun ρ a w hm => ?_
  have hs : GPsat a [] := fun x hx => by cases hx
  have e1 := ev_ok hm.fm hs h1
  have e2 := ev_ok hm.fm hs h2
  rw [stK_eq] at h
  obtain ⟨A1, l1, c1, A2, l2, c2, p1, p2, hmin⟩ := hv ρ w hm.hm _ _ e1 e2
  obtain ⟨hu, _, _⟩ := hX.tab t ti ht
  rw [hd] at hu
  have hlen : (Builtin.lenOf (a.eval x)).run X.P w = .ok l2 w := by rw [p2]; rfl
  have hmin : Nat.min l2 l1 = 0 := hmin
  have hfc : (Builtin.firstCells te.size 0 (a.eval x)).run X.P w = .ok #[] w := by
    rw [p2]
    cases A2 with
    | none => rfl
    | some ad => simpa using run_firstCells_some (P := X.P) w te.size 0 ad l2 c2 [] (by simp) (fun j v hj => by simp at hj)
  have hrun : (Builtin.copy_ #[t, u] o.type #[a.eval s, a.eval x]).run X.P w = .ok (goInt (0 : Nat)) w := by
    rw [p1]
    cases A1 with
    | none => simp [Builtin.copy_, Sem.run_bind, run_underlying hu, hlen, run_size hX.tab hte, hfc, Result.andThen, hmin]
    | some ad => simp [Builtin.copy_, Sem.run_bind, run_underlying hu, hlen, run_size hX.tab hte, hfc, Result.andThen, hmin, storeCells]
  exact ⟨_, w, ρ, _, .inl (run_builtin2 hc hcl hca hct (fun _ _ => rfl) hrun), hm.put (d := o.dst) (s := .si .i64 0) (by rw [hdst]; exact hp) rfl, by rw [hdst]; exact h⟩
/-- A part is copied into a part, of which some may be empty. -/
theorem fb_copyQ (did xid n m i j l1 l2 : Nat) (get get2 get' : Nat → List SV) {o1 o2 t1 t2 : Nat} {ops : List Oper} {k : Nat} {o : Oper} {r : List Oper} {Q : Exit → Act → World → Prop} {Kn : St → Prop} {Kp : List PanicEntry → St → Prop}
    {t u e : TypeId} {ti te : TI} {s x : Operand} {c : Call} {d : Nat} (hX : X.Ok) (hC : Cont X Q Kn Kp) (hi : ops.drop k = o :: r)
    (hc : o.op = .call c) (hcl : c.callee = .builtin .copy) (hca : c.args = #[s, x]) (hct : c.argTypes = #[t, u]) (hg : o.guard = none) (hdst : o.dst = some d) (hp : putN st.gs X.nt (some d) = false)
    (ht : X.T t = some ti) (hd : ti.desc = .slice e) (hte : X.T e = some te)
    (h1 : ev (findF st.F) [] s = some (.ss did o1 l1 t1)) (h2 : ev (findF st.F) [] x = some (.ss xid o2 l2 t2)) (h3 : findH st.H did = some (.vec e te.size n get)) (h4 : sliceOf te.size (findH st.H) xid = some (m, get2)) (hne : did ≠ xid)
    (ho1 : o1 = i * te.size) (ho2 : o2 = j * te.size) (hl1 : i + l1 ≤ n) (hl2 : j + l2 ≤ m)
    (hg' : ∀ q, q < n → get' q = if i ≤ q ∧ q < i + min l2 l1 then get2 (j + (q - i)) else get q)
    (h : stK st fun F gs H nx D => execL X ops Q Kn Kp (k + 1) r ⟨(d, ⟨[], .si .i64 (min l2 l1 : Nat)⟩) :: F, gs, (did, .vec e te.size n get') :: H, nx, D⟩) : FbO X ops Q Kn Kp k o r st := by
  by_cases hz : 0 < l1 ∧ 0 < l2
  · exact fb_copyP did xid n m i j l1 l2 get get2 get' hX hC hi hc hcl hca hct hg hdst hp ht hd hte h1 h2 h3 h4 ho1 ho2 hl1 hl2 hz.1 hz.2 hg' h
  · have hmin : min l2 l1 = 0 := by omega
    refine ⟨fun ρ a w hm => ?_⟩
    obtain ⟨nm, g1, g2⟩ := hm.hm.ok _ _ h3
    have hget : ∀ q, q < n → get' q = get q := fun q hq => by rw [hg' q hq, hmin, if_neg (by omega)]
    have hm' : Mod X ρ { st with H := (did, .vec e te.size n get') :: st.H } a w := by
      refine hm.swap (hb' := .vec e te.size n get') h3 rfl g1 ?_ (fun _ _ _ h => by cases h)
      cases nm <;> simp only [HBok] at g2 ⊢
      · exact g2
      · obtain ⟨q1, q2, q3, cells, q4, q5, q6⟩ := g2
        exact ⟨q1, q2, q3, cells, q4, q5, fun i hi => by rw [hget i hi]; exact q6 i hi⟩
    rw [hmin] at h
    have h4' : sliceOf te.size (findH ((did, .vec e te.size n get') :: st.H)) xid = some (m, get2) := by
      unfold sliceOf at h4 ⊢
      rw [findH_cons, updL_ne _ _ hne]
      exact h4
    have h3' : sliceOf te.size (findH ((did, .vec e te.size n get') :: st.H)) did = some (n, get') := by
      unfold sliceOf
      rw [findH_cons, updL_self]
      simp
    refine (fb_copyZ (st := { st with H := (did, .vec e te.size n get') :: st.H }) _ _ hX hC hi hc hcl hca hct hg hdst hp ht hd hte h1 h2 (fun ρ w hH u1 u2 d1 d2 => ?_) h).h ρ a w hm'
    obtain ⟨a1, c1, _, p1, _, _⟩ := part_of hH h3' d1
    obtain ⟨a2, c2, _, p2, _, _⟩ := part_of hH h4' d2
    exact ⟨_, l1, _, _, l2, _, p1, p2, hmin⟩
/-- The whole of an empty slice. -/
theorem fb_slice0 (sid e size : Nat) (k : IntKind) (get : Nat → List SV) {ops : List Oper} {i : Nat} {o : Oper} {r : List Oper} {Q : Exit → Act → World → Prop} {K : St → Prop} {Kp : List PanicEntry → St → Prop} {t d el : Nat} {x lo : Operand} {ti te : TI}
    (hX : X.Ok) (hC : Cont X Q K Kp) (hi : ops.drop i = o :: r) (hc : o.op = .slice t x (some lo) none none) (hg : o.guard = none) (hp : putN st.gs X.nt o.dst = false) (hdst : o.dst = some d)
    (ht : X.T t = some ti) (hd : ti.desc = .slice el) (hte : X.T el = some te)
    (h1 : ev (findF st.F) [] x = some (.sl sid)) (h2 : ev (findF st.F) [] lo = some (.si k 0)) (h3 : findH st.H sid = some (.vec e size 0 get))
    (h : stK st fun F gs H nx D => execL X ops Q K Kp (i + 1) r ⟨(d, ⟨[], .sl sid⟩) :: F, gs, H, nx, D⟩) : FbO X ops Q K Kp i o r st := by
  refine fb_sem hX hC hi (by rw [hc]; intro c h; cases h) hg fun ρ a w hm => ?_
  have hs : GPsat a [] := fun x hx => by cases hx
  have e1 := ev_ok hm.fm hs h1
  have e2 := ev_ok hm.fm hs h2
  rw [stK_eq] at h
  obtain ⟨nm, g1, g2⟩ := hm.hm.ok _ _ h3
  obtain ⟨A, c, hA⟩ : ∃ A c, den ρ (.sl sid) = some (.slice A 0 c) := by
    cases nm <;> simp only [HBok] at g2
    · obtain ⟨rfl, rfl, rfl, _, rfl⟩ := g2
      exact ⟨none, 0, by simp [den, g1]⟩
    · rename_i nb n' c s'
      obtain ⟨rfl, _⟩ := g2
      exact ⟨some ⟨nb, 0, none⟩, c, by simp only [den, g1]⟩
  rw [hA] at e1
  have e1 : a.eval x = .slice A 0 c := (Option.some.inj e1).symm
  have e2 : a.eval lo = .int k 0 := by
    simp only [den, Option.some.injEq] at e2
    exact e2.symm
  have hrun : (execOp a.eval o).run X.P w = .ok (.value (.slice A 0 c)) w := by
    simp only [execOp, hc]
    refine run_v ?_
    rw [e1]
    simp only [Instr.sliceAt, Instr.slice, Sem.run_bind, run_und hX.tab ht, hd, Result.andThen_ok, Option.map_some, Option.map_none, Instr.sliceBounds, Instr.sliceBound, e2, asIntOf, run_size hX.tab hte]
    simp [Result.andThen]
    cases A with
    | none => simp
    | some ad => simp [Addr.add]
  exact ⟨_, w, ρ, _, .inl hrun, hm.put (d := o.dst) (s := .sl sid) hp hA, by rw [hdst]; exact h⟩
end
theorem stepF_ok {X : Cx} {ops : Array Oper} {fuel i : Nat} {listed : Array Bool} {st : St} {K : Ex → St → Prop} {o : Oper} (e : ops[i]? = some o) (hg : o.guard = none)
    (h : FbO X [o] (Qst X ops fuel listed K) (fun st' => AnyS X ops fuel listed st' K) (fun _ _ => False) 0 o [] st) : ∀ ρ a w, Mod X ρ st a w → wpOpIn (FW X.r) 0 X.P ops (Qnp X K) i (wpAnyIn (FW X.r) 0 X.P .any ops (Qnp X K) fuel listed) a w := by
  intro ρ a w hm
  have h2 : wpOpsIn (FW X.r) 0 X.P #[o] (Qst X ops fuel listed K) [0] a w := h.h ρ a w hm
  simp only [wpOpsIn] at h2
  have hw0 : ∀ y, Region.wanted o y = true := fun y => guard_none hg y
  simp only [List.getElem?_toArray, List.getElem?_cons_zero, hw0, if_true] at h2
  unfold wpOpIn
  simp only [e, hw0, if_true]
  have h3 : Oper.wpIn (FW X.r) 0 X.P o a w (wpAnyIn (FW X.r) 0 X.P .any ops (Qnp X K) fuel listed) (Qst X ops fuel listed K) := h2
  unfold Oper.wpIn at h3 ⊢
  refine ⟨h3.1, ?_⟩
  have h4 := h3.2
  generalize (o.semAt (FW X.r).round a.eval).run X.P w = res at h4 ⊢
  cases res with
  | ok x w' => cases x <;> exact h4
  | halt x w' => cases x <;> exact h4
theorem any_latS {D : List SDef} {X : Cx} {ops : Array Oper} {K : Ex → St → Prop} (hX : X.Ok) (m : Nat) (arr : List Bool → Array Bool) (opi : Nat → Nat) (ex : List Bool → Bool) (slots : Nat → List (Nat × FE)) (base : List (Nat × FE)) (Hf : List Bool → List (Nat × HB)) (nxf : List Bool → Nat) (anc : Nat → List Nat) (rest : Nat)
    (hanc : ∀ i, i < m → ∀ j ∈ anc i, j < m) (hchk : ∀ l ∈ allB m, latX ops m arr opi ex anc l = true) (hA : subF (slF slots base (List.replicate m true)) (slF slots base (List.replicate m true)))
    (hst : ∀ i, i < m → ∀ l : List Bool, l.length = m → l.getD i true = false → (∀ j ∈ anc i, l.getD j false = true) → clB2 anc l = true → ∃ o, ops[opi i]? = some o ∧ o.guard = none ∧ ∀ (tail : List (Nat × FE)) (Q : Exit → Act → World → Prop) (Kn : St → Prop), Cont X Q Kn (fun _ _ => False) → Kn ⟨slots i ++ ((anc i).flatMap slots ++ (base ++ tail)), [], Hf (l.set i true), nxf (l.set i true), D⟩ →
      FbO X [o] Q Kn (fun _ _ => False) 0 o [] ⟨(anc i).flatMap slots ++ (base ++ tail), [], Hf l, nxf l, D⟩)
    (hend : ∀ l : List Bool, l.length = m → ex l = true → AnyS X ops (l.count false + rest) (arr l) ⟨slF slots base l, [], Hf l, nxf l, D⟩ K) :
    ∀ l : List Bool, l.length = m → clB2 anc l = true → AnyS X ops (l.count false + rest) (arr l) ⟨slF slots base l, [], Hf l, nxf l, D⟩ K := by
  have hA' : ∀ p ∈ slF slots base (List.replicate m true), findF (slF slots base (List.replicate m true)) p.1 = some p.2 ∧ p.2.gp = [] := by
    generalize slF slots base (List.replicate m true) = A at hA
    have : ∀ L : List (Nat × FE), subF A L → ∀ p ∈ L, findF A p.1 = some p.2 ∧ p.2.gp = [] := by
      intro L
      induction L with
      | nil => intro _ p hp; cases hp
      | cons q r ih =>
        intro h p hp
        obtain ⟨d, e⟩ := q
        rcases List.mem_cons.1 hp with rfl | hp
        · exact h.1
        · exact ih h.2 p hp
    exact this A hA
  have hall : ∀ l : List Bool, l.length = m → ∀ p ∈ slF slots base l, p ∈ slF slots base (List.replicate m true) := by
    intro l hl p hp
    rcases slF_mem.1 hp with ⟨i, hi, _, h⟩ | h
    · refine slF_mem.2 (.inl ⟨i, by simpa [hl] using hi, ?_, h⟩)
      have : i < m := hl ▸ hi
      simp [List.getD, this]
    · exact slF_mem.2 (.inr h)
  have main : ∀ k, ∀ l : List Bool, l.length = m → clB2 anc l = true → l.count false = k → AnyS X ops (k + rest) (arr l) ⟨slF slots base l, [], Hf l, nxf l, D⟩ K := by
    intro k
    induction k with
    | zero =>
      intro l hl hcl hk
      have hc := hchk l (hl ▸ mem_allB l)
      cases he : ex l with
      | true => have := hend l hl he; rw [hk] at this; exact this
      | false =>
        unfold latX at hc
        rw [hcl, he] at hc
        simp only [Bool.not_true, Bool.false_or, Bool.and_eq_true, Bool.not_eq_true', List.all_eq_true, List.any_eq_true, beq_iff_eq] at hc
        obtain ⟨hne, hrs⟩ := hc
        cases hr : Region.ready .any ops (arr l) with
        | nil => rw [hr] at hne; cases hne
        | cons o r =>
          obtain ⟨i, him, -, hif, -⟩ := hrs o (by rw [hr]; exact List.mem_cons_self)
          have him : i < m := List.mem_range.1 him
          have hil : i < l.length := by omega
          have hli2 : l[i] = false := by
            rw [List.getD, List.getElem?_eq_getElem hil] at hif
            simpa using hif
          have : false ∈ l := hli2 ▸ List.getElem_mem hil
          have := List.count_pos_iff.2 this
          omega
    | succ k ih =>
      intro l hl hcl hk
      have hc := hchk l (hl ▸ mem_allB l)
      cases he : ex l with
      | true => have := hend l hl he; rw [hk] at this; exact this
      | false =>
      unfold latX at hc
      rw [hcl, he] at hc
      simp only [Bool.not_true, Bool.false_or, Bool.and_eq_true, Bool.not_eq_true', List.all_eq_true, List.any_eq_true, beq_iff_eq] at hc
      obtain ⟨hne, hrs⟩ := hc
      refine ⟨fun ρ a w hmod => ?_⟩
      rw [show k + 1 + rest = (k + rest) + 1 by omega]
      refine wpAnyIn_all (rs := Region.ready .any ops (arr l)) rfl (by intro h; rw [h] at hne; cases hne) fun oi hi => ?_
      obtain ⟨i, him, rfl, hif, hia, hset⟩ := hrs oi hi
      have him : i < m := List.mem_range.1 him
      have hil : i < l.length := by omega
      obtain ⟨o, ho, hg, hstep⟩ := hst i him l hl hif hia hcl
      rw [hset]
      have hlen : (l.set i true).length = m := by rw [List.length_set, hl]
      have hget : ∀ j, (l.set i true).getD j false = true ↔ j = i ∨ l.getD j false = true := by
        intro j
        simp only [List.getD, List.getElem?_set]
        by_cases e : i = j
        · subst e; simp [hil]
        · simp [e, Ne.symm e]
      have hcl' : clB2 anc (l.set i true) = true := by
        unfold clB2 at hcl ⊢
        rw [List.all_eq_true] at hcl ⊢
        intro j hj
        rw [List.length_set] at hj
        have h0 := hcl j hj
        cases hd : (l.set i true).getD j false with
        | false => rfl
        | true =>
          rw [Bool.not_true, Bool.false_or, List.all_eq_true]
          intro q hq
          refine (hget q).2 ?_
          rcases (hget j).1 hd with rfl | hd
          · exact .inr (hia q hq)
          · rw [hd] at h0
            rw [Bool.not_true, Bool.false_or, List.all_eq_true] at h0
            exact .inr (h0 q hq)
      have hcount : (l.set i true).count false = k := by
        have hli : l[i]? = some false := by
          have : l.getD i true = false := hif
          rw [List.getD, List.getElem?_eq_getElem hil] at this
          rw [List.getElem?_eq_getElem hil]
          simpa using this
        have hli2 : l[i] = false := by rw [List.getElem?_eq_getElem hil] at hli; simpa using hli
        have := List.count_set (a := true) (b := false) (l := l) (i := i) hil
        rw [hli2] at this
        simp at this
        omega
      have ihh := ih (l.set i true) hlen hcl' hcount
      have hmem : ∀ p ∈ (anc i).flatMap slots ++ (base ++ slF slots base l), p ∈ slF slots base l := by
        intro p hp
        rcases List.mem_append.1 hp with hp | hp
        · obtain ⟨j, hj, hp⟩ := List.mem_flatMap.1 hp
          exact slF_mem.2 (.inl ⟨j, hl ▸ hanc i him j hj, hia j hj, hp⟩)
        · rcases List.mem_append.1 hp with hp | hp
          · exact slF_mem.2 (.inr hp)
          · exact hp
      have hmod' := mod_sub (F' := (anc i).flatMap slots ++ (base ++ slF slots base l)) hA' (hall l hl) hmem (Nat.le_refl _) hmod
      refine stepF_ok (K := K) (st := ⟨(anc i).flatMap slots ++ (base ++ slF slots base l), [], Hf l, nxf l, D⟩) ho hg ?_ ρ a w hmod'
      refine hstep _ _ _ cont_any ?_
      refine ⟨fun ρ a w hm2 => ?_⟩
      refine ihh.h ρ a w (mod_sub (F := slots i ++ ((anc i).flatMap slots ++ (base ++ slF slots base l))) (nx := nxf (l.set i true)) hA' ?_ ?_ (Nat.le_refl _) hm2)
      · intro p hp
        rcases List.mem_append.1 hp with hp | hp
        · refine slF_mem.2 (.inl ⟨i, by simpa using him, ?_, hp⟩)
          simp [List.getD, him]
        · exact hall l hl p (hmem p hp)
      · intro p hp
        rcases slF_mem.1 hp with ⟨j, hj, hd, hp2⟩ | hp2
        · rw [List.length_set] at hj
          rcases (hget j).1 hd with e | hd
          · exact List.mem_append_left _ (e ▸ hp2)
          · exact List.mem_append_right _ (List.mem_append_right _ (List.mem_append_right _ (slF_mem.2 (.inl ⟨j, hj, hd, hp2⟩))))
        · exact List.mem_append_right _ (List.mem_append_right _ (List.mem_append_left _ hp2))
  exact fun l hl hcl => main _ l hl hcl rfl
/-- A call that comes to a state, where a nil slice that is handed back is seen as an empty piece. -/
theorem callS_toN {ι : Type} (Tn sn : Nat) (gn : Nat → List SV) {P : Program} {T : Tab} {C : Nat → Option Ct} (hX : ∀ G r nt, (⟨P, T, C, G, r, nt⟩ : Cx).Ok) {n : Nat} {fn : Func} {c : Code} (hf : P.funcs[n]? = some fn) (hb : fn.body = some c) {l : List SV} (hlen : l.length ≤ fn.ntmps)
    {H : List (Nat × HB)} {nx : Nat} {Rv : SV → List (Nat × HB) → Nat → Prop} {Rp : List PanicEntry → List (Nat × HB) → Nat → Prop} (v' : ι → SV) (H' : ι → List (Nat × HB)) (nx' : Nat)
    (h : ∀ G : Base, (∀ j, nx ≤ j → G.ρ j = none) → exec ⟨P, T, C, G, none, fn.ntmps⟩ c (start l H nx) (Fin ⟨P, T, C, G, none, fn.ntmps⟩ fn.results.toList (fun v st => (∃ x s, EndR nx v st.H st.nx (v' x) (H' x) nx' s) ∨
      (v = .sv (.slice none 0 0) ∧ ∃ x s, EndR nx (.sl st.nx) ((st.nx, .vec Tn sn 0 gn) :: st.H) (st.nx + 1) (v' x) (H' x) nx' s)) (fun _ _ => False)))
    (hk : ∀ x, Rv (v' x) (H' x) nx') : CallS P n l H nx Rv Rp := by
  intro ρ w vals hm hnx hd
  refine (callS_exec hX hf hb hlen (Rv := fun v H₁ nx₁ => (∃ x s, EndR nx v H₁ nx₁ (v' x) (H' x) nx' s) ∨ (v = .sv (.slice none 0 0) ∧ ∃ x s, EndR nx (.sl nx₁) ((nx₁, .vec Tn sn 0 gn) :: H₁) (nx₁ + 1) (v' x) (H' x) nx' s)) (Rp := fun _ _ _ => False) h ρ w vals hm hnx hd).mono ?_
  rintro e w' (⟨v, H₁, nx₁, ρ₁, u, rfl, h1, h2, h3, h4, hr⟩ | ⟨_, _, _, _, _, _, _, _, hF⟩)
  · have hm1 : Mod ⟨P, T, C, ⟨w, Own ρ (findH H), ρ, Fz (findH H)⟩, none, 0⟩ ρ₁ ⟨[], [], H₁, nx₁, []⟩ { tmps := #[], defers := [] } w' := {
      fm := fun t e hf => by cases hf
      gs := fun t e hf => by cases hf
      df := trivial
      hm := h2
      kp := h3
      nx := h4
      sz := rfl }
    rcases hr with ⟨x, s, hs⟩ | ⟨rfl, x, s, hs⟩
    · have hm2 := hm1.ren (n0 := nx) (s := s) (st' := ⟨[], [], H' x, nx', []⟩) ⟨trivial, hs.H, hs.inj, hs.fix, hs.ge, rfl, trivial⟩ hnx
      exact .inl ⟨v' x, H' x, nx', _, u, rfl, by rw [den_envR _ hs.vi, ← SVeq_eq _ _ hs.v]; exact h1, hm2.hm, hm2.kp, hm2.nx, hk x⟩
    · have hm1' := hm1.nilNew Tn sn gn
      have hm2 := hm1'.ren (n0 := nx) (s := s) (st' := ⟨[], [], H' x, nx', []⟩) ⟨trivial, hs.H, hs.inj, hs.fix, hs.ge, rfl, trivial⟩ hnx
      have h1 : u = .slice none 0 0 := by
        simp only [den] at h1
        exact (Option.some.inj h1).symm
      exact .inl ⟨v' x, H' x, nx', _, u, rfl, by rw [den_envR _ hs.vi, ← SVeq_eq _ _ hs.v, h1]; simp [den, upd_self], hm2.hm, hm2.kp, hm2.nx, hk x⟩
  · exact hF.elim
end Go.X
end
