/- The symbolic executor, continued: guarded calls, marks of ranges over functions, regions step by step, copies of parts, calls from a part of the heap. -/
import Derived.Test.YtknjpbmkpjcgjaaMC
import Derived.OrdersIn

section
set_option linter.unusedVariables false
set_option linter.unusedSimpArgs false
set_option linter.unusedSectionVars false
/- Regions whose order Go leaves open, run through in each order. -/
set_option linter.unusedVariables false
set_option linter.unusedSimpArgs false
set_option linter.unusedSectionVars false
namespace Go.X
open Go

/-! ### The row, from a run through -/
open Go.ChangeShapes Go.WideShapes Go.ChangeAt Go.RowKit

/-! ### Several slices that came in -/
end Go.X
end

section
set_option linter.unusedVariables false
set_option linter.unusedSimpArgs false
set_option linter.unusedSectionVars false
/- Slices: an element's cells stored into; a row is called a slice of our own. -/
set_option linter.unusedVariables false
set_option linter.unusedSimpArgs false
set_option linter.unusedSectionVars false
set_option maxRecDepth 10000
namespace Go.X
open Go

section
variable {X : Cx} {st : St}

/-- A row is called a slice of our own. -/
theorem fb_row (id Tr s n : Nat) (xs : List SV) (get : Nat → List SV) {ops : List Oper} {i : Nat} {o : Oper} {r : List Oper} {Q : Exit → Act → World → Prop} {K : St → Prop} {Kp : List PanicEntry → St → Prop}
    (h1 : findH st.H id = some (.row Tr s n xs)) (hg : ∀ i, i < n → (xs.drop (i * s)).take s = get i)
    (h : stK st fun F gs H nx D => FbO X ops Q K Kp i o r ⟨F, gs, (id, .vec Tr s n get) :: H, nx, D⟩) : FbO X ops Q K Kp i o r st := by
  rw [stK_eq] at h
  refine ⟨fun ρ a w hm => ?_⟩
  obtain ⟨nm, hn, hok⟩ := hm.hm.ok _ _ h1
  exact h.h ρ a w (hm.swap h1 rfl hn (row_vec hok hg) (fun _ _ _ h => by cases h))

theorem denL_swap {ρ ρ' : Env} (hx : Ext ρ ρ') {x y : SV} {v : Value} (h : den ρ x = some v) (k : den ρ' y = some v) : ∀ (a b : List SV) (vs : List Value), denL ρ (a ++ x :: b) = some vs → denL ρ' (a ++ y :: b) = some vs
  | [], b, vs, e => by
    obtain ⟨u, us, h1, h2, rfl⟩ := denL_cons e
    rw [h] at h1; cases h1
    exact denL_mk k (denL_ext hx _ _ h2)
  | z :: a, b, vs, e => by
    obtain ⟨u, us, h1, h2, rfl⟩ := denL_cons e
    exact denL_mk (den_ext hx _ _ h1) (denL_swap hx h k a b us h2)

/-- A cell among others that holds nil. -/
theorem nil_at {c : Code} {K : Ex → St → Prop} (id Tc T s : Nat) (get : Nat → List SV) (p q : List SV) (h1 : findH st.H id = some (.cells Tc (p ++ .sv (.slice none 0 0) :: q)))
    (h : stK st fun F gs H nx D => natF (nx + 1) fun nx' => SemC X c ⟨F, gs, (id, .cells Tc (p ++ .sl nx :: q)) :: (nx, .vec T s 0 get) :: H, nx', D⟩ K) : SemC X c st K := by
  intro ρ a w hm
  rw [stK_eq, natF_eq] at h
  have hid : id ≠ st.nx := fun e => by
    obtain ⟨nm, h2, _⟩ := hm.hm.ok _ _ h1
    rw [hm.nx id (by omega)] at h2; cases h2
  have h2 := hm.nilNew T s get
  obtain ⟨nm, h3, h4⟩ := hm.hm.ok _ _ h1
  have h5 : findH ((st.nx, .vec T s 0 get) :: st.H) id = some (.cells Tc (p ++ .sv (.slice none 0 0) :: q)) := by
    rw [findH_cons, updL_ne _ _ (Ne.symm hid)]; exact h1
  refine h _ a w (h2.swap (hb' := .cells Tc (p ++ .sl st.nx :: q)) h5 rfl (nm := nm) (by rw [upd_ne _ _ hid]; exact h3) ?_ (fun _ _ _ h => by cases h))
  cases nm <;> simp only [HBok] at h4 ⊢
  obtain ⟨vs, d1, d2, d3⟩ := h4
  exact ⟨vs, denL_swap (Ext.upd _ (hm.nx _ (Nat.le_refl _))) (v := .slice none 0 0) (by simp [den, Value.oneCell']) (by simp [den, upd_self]) _ _ _ d1, d2, d3⟩
/-- append of all elements to an empty row. -/
theorem fb_append0 (sid xid m : Nat) (get2 : Nat → List SV) {ops : List Oper} {i : Nat} {o : Oper} {r : List Oper} {Q : Exit → Act → World → Prop} {Kn : St → Prop} {Kp : List PanicEntry → St → Prop}
    {t e : TypeId} {ti te : TI} {s x : Operand} {c : Call} {d : Nat} (hX : X.Ok) (hC : Cont X Q Kn Kp) (hi : ops.drop i = o :: r)
    (hc : o.op = .call c) (hcl : c.callee = .builtin .append) (hca : c.args = #[s, x]) (hct : c.argTypes = #[t, t]) (hg : o.guard = none) (hdst : o.dst = some d) (hp : putN st.gs X.nt (some d) = false)
    (ht : X.T t = some ti) (hd : ti.desc = .slice e) (hte : X.T e = some te) (hzs : te.zero.cells.size = te.size) (hpos : 0 < te.size) (hby : te.bytes ≤ 1000)
    (h1 : ev (findF st.F) [] s = some (.sl sid)) (h2 : ev (findF st.F) [] x = some (.sl xid)) (h3 : findH st.H sid = some (.row e te.size 0 [])) (h4 : sliceOf te.size (findH st.H) xid = some (m, get2)) (hne : sid ≠ xid)
    (hnm : m ≤ 1000000)
    (h : stK st fun F gs H nx D => natF (nx + 1) fun nx' => execL X ops Q Kn Kp (i + 1) r ⟨(d, ⟨[], .sl nx⟩) :: F, gs, (nx, .vec e te.size m get2) :: (sid, .dead) :: (sid, .vec e te.size 0 get2) :: H, nx', D⟩) : FbO X ops Q Kn Kp i o r st := by
  rw [stK_eq] at h
  refine fb_row sid e te.size 0 [] get2 h3 (fun i hi => absurd hi (by omega)) ?_
  rw [stK_eq]
  refine fb_append (Te := 0) sid xid 0 m get2 get2 get2 hX hC hi hc hcl hca hct hg hdst hp ht hd hte hzs hpos hby h1 h2 (by simp [findH]) ?_ (by omega) (fun i hi => by simp) ?_
  · have : findH ((sid, HB.vec e te.size 0 get2) :: st.H) xid = findH st.H xid := by rw [findH_cons, updL_ne _ _ hne]
    unfold sliceOf at h4 ⊢
    rw [this]; exact h4
  · rw [stK_eq, Nat.zero_add]
    exact h
end
end Go.X
end

section
set_option linter.unusedVariables false
set_option linter.unusedSimpArgs false
set_option linter.unusedSectionVars false
/- Guarded operations that the executor has no arm for: run as if unguarded, or passed over. -/
set_option linter.unusedVariables false
set_option linter.unusedSimpArgs false
set_option maxRecDepth 10000
namespace Go.X
open Go

def subG : GP → GP → Bool
  | [], _ => true
  | (s, w) :: r, π => (match memGP π s w with
    | true => subG r π
    | false => false)
where memGP : GP → Nat → Bool → Bool
  | [], _, _ => false
  | (t, v) :: r, s, w => match Nat.beq t s, v == w with
    | true, true => true
    | _, _ => memGP r s w
theorem memGP_ok : ∀ {π : GP} {s : Nat} {w : Bool}, subG.memGP π s w = true → (s, w) ∈ π
  | (t, v) :: r, s, w, h => by
    simp only [subG.memGP] at h
    split at h
    · rename_i h1 h2
      have h1 : t = s := by simpa using h1
      have h2 : v = w := by simpa using h2
      subst h1; subst h2
      exact List.mem_cons_self
    · exact List.mem_cons_of_mem _ (memGP_ok h)
theorem subG_ok : ∀ {σ π : GP}, subG σ π = true → ∀ x ∈ σ, x ∈ π
  | (s, w) :: r, π, h, x, hx => by
    simp only [subG] at h
    split at h
    · rename_i h1
      rcases List.mem_cons.1 hx with rfl | hx
      · exact memGP_ok h1
      · exact subG_ok h x hx
    · cases h
/-- Do the guards hold, as far as the state tells? -/
def satGP (F : LF) : GP → Prop
  | [] => True
  | (s, w) :: r => satGP F r ∧ match F s with
    | some ⟨gp, .sb q⟩ => subG gp r = true ∧ q = w
    | _ => False
theorem satGP_ok {ρ : Env} {F : LF} {a : Act} (hF : FM ρ F a) : ∀ {π : GP}, satGP F π → GPsat a π
  | [], _ => fun x hx => by cases hx
  | (s, w) :: r, h => by
    obtain ⟨h1, h2⟩ := h
    have hr := satGP_ok hF h1
    split at h2
    · rename_i gp q e
      obtain ⟨h3, rfl⟩ := h2
      obtain ⟨v, h4, h5⟩ := (hF s _ e).1 (fun x hx => hr x (subG_ok h3 x hx))
      simp only [den, Option.some.injEq] at h5
      subst h5
      intro x hx
      rcases List.mem_cons.1 hx with rfl | hx
      · exact h4
      · exact hr x hx
    · exact h2.elim

section
variable {X : Cx} {st : St} {F : Fence} {n : Nat} {P : Program} {Q : Exit → Act → World → Prop}

theorem yielded_set {ops : List Oper} {i : Nat} {o o' : Oper} (ho : ops[i]? = some o) (hd : o'.dst = o.dst) (tmps : Array Value) : yielded (ops.set i o').toArray tmps = yielded ops.toArray tmps := by
  funext j
  simp only [yielded, List.getElem?_toArray, List.getElem?_set]
  by_cases h : i = j
  · subst h
    have hlt : i < ops.length := by
      rcases Nat.lt_or_ge i ops.length with h | h
      · exact h
      · rw [List.getElem?_eq_none h] at ho; cases ho
    simp only [if_true, hlt, ho, Option.bind_some, hd]
  · simp only [h, if_false]

theorem wpOps_set {ops : List Oper} {i : Nat} {o o' : Oper} (ho : ops[i]? = some o) (hd : o'.dst = o.dst) : ∀ (l : List Nat) (a : Act) (w : World), (∀ k ∈ l, k ≠ i) →
    wpOpsIn F n P (ops.set i o').toArray Q l a w → wpOpsIn F n P ops.toArray Q l a w
  | [], a, w, _, h => h
  | k :: l, a, w, hk, h => by
    have hne : ¬ i = k := fun e => hk k List.mem_cons_self e.symm
    have ih := fun a w => wpOps_set ho hd l a w (fun k hk' => hk k (List.mem_cons_of_mem _ hk'))
    have e1 : (ops.set i o').toArray[k]? = ops.toArray[k]? := by simp only [List.getElem?_toArray, List.getElem?_set, hne, if_false]
    simp only [wpOpsIn] at h ⊢
    rw [e1] at h
    split at h
    · exact ih _ _ h
    · rename_i o₁ e
      rw [yielded_set ho hd] at h
      split at h
      · rename_i hw
        rw [if_pos hw]
        exact Oper.wpIn_mono (fun a w h => ih a w h) h
      · rename_i hw
        rw [if_neg hw]
        exact ⟨h.1, ih _ _ h.2⟩

/-- One operation: o, from the executor's arm. -/
theorem fb_again {X : Cx} {st : St} (hX : X.Ok) {ops : List Oper} {i : Nat} {o : Oper} {r : List Oper} {Q : Exit → Act → World → Prop} {K : St → Prop} {Kp : List PanicEntry → St → Prop} (hC : Cont X Q K Kp) (hi : ops.drop i = o :: r)
    (h : execL X ops Q K Kp i (o :: r) st) : FbO X ops Q K Kp i o r st := by
  refine ⟨fun ρ a w hm => ?_⟩
  exact execL_ok hX hC.k hC.p (o :: r) i ρ st a w hi h hm

/-- What was laid under guards that hold needs them no more. -/
def stripF (π : GP) : List (Nat × FE) → List (Nat × FE)
  | [] => []
  | (t, ⟨gp, v⟩) :: r => match subG gp π with
    | true => (t, ⟨[], v⟩) :: stripF π r
    | false => (t, ⟨gp, v⟩) :: stripF π r
def fStrip (π : GP) : List (Nat × FE) → (List (Nat × FE) → Prop) → Prop
  | [], K => K []
  | (t, ⟨gp, v⟩) :: r, K => match subG gp π with
    | true => fStrip π r fun r' => K ((t, ⟨[], v⟩) :: r')
    | false => fStrip π r fun r' => K ((t, ⟨gp, v⟩) :: r')
theorem fStrip_eq (π : GP) : ∀ (F : List (Nat × FE)) (K : List (Nat × FE) → Prop), fStrip π F K = K (stripF π F)
  | [], K => rfl
  | (t, ⟨gp, v⟩) :: r, K => by
    simp only [fStrip, stripF]
    cases subG gp π <;> simp only [fStrip_eq π r]
theorem stripF_find {π : GP} : ∀ {F : List (Nat × FE)} {t : Nat} {e : FE}, findF (stripF π F) t = some e → ∃ gp, findF F t = some ⟨gp, e.v⟩ ∧ (e.gp = gp ∨ e.gp = [] ∧ subG gp π = true)
  | (s, ⟨gp, v⟩) :: r, t, e, h => by
    simp only [stripF] at h
    cases hs : subG gp π with
    | true =>
      rw [hs] at h
      simp only [findF] at h ⊢
      split at h
      · rename_i e1
        cases h
        rw [if_pos e1]
        exact ⟨gp, rfl, .inr ⟨rfl, hs⟩⟩
      · rename_i e1
        rw [if_neg e1]
        exact stripF_find h
    | false =>
      rw [hs] at h
      simp only [findF] at h ⊢
      split at h
      · rename_i e1
        cases h
        rw [if_pos e1]
        exact ⟨gp, rfl, .inl rfl⟩
      · rename_i e1
        rw [if_neg e1]
        exact stripF_find h
theorem Mod.strip {X : Cx} {st : St} {ρ : Env} {a : Act} {w : World} {π : GP} (hm : Mod X ρ st a w) (hs : GPsat a π) : Mod X ρ { st with F := stripF π st.F } a w where
  fm t e hf := by
    obtain ⟨gp, h1, h2⟩ := stripF_find hf
    have h3 := hm.fm t _ h1
    rcases h2 with h2 | ⟨h2, h4⟩
    · rw [h2]; exact h3
    · rw [h2]
      exact ⟨fun _ => h3.1 (fun x hx => hs x (subG_ok h4 x hx)), fun h => absurd (fun x hx => by cases hx) h⟩
  gs t e hf x hx := by
    obtain ⟨gp, h1, h2⟩ := stripF_find hf
    rcases h2 with h2 | ⟨h2, h4⟩
    · rw [h2] at hx; exact hm.gs t _ h1 x hx
    · rw [h2] at hx; cases hx
  df := hm.df
  hm := hm.hm
  kp := hm.kp
  nx := hm.nx
  sz := hm.sz

/-- The guards hold: the operation runs as if it had none. -/
theorem fb_run {X : Cx} {st : St} {π : GP} {ops : List Oper} {i : Nat} {o : Oper} {r : List Oper} {Q : Exit → Act → World → Prop} {K : St → Prop} {Kp : List PanicEntry → St → Prop} (hi : ops.drop i = o :: r)
    (hg : guardOf ops (findF st.F) o.guard = some π) (hs : satGP (findF st.F) π)
    (h : stK st fun F gs H nx D => fStrip π F fun F' => FbO X (ops.set i { o with guard := none }) Q K Kp i { o with guard := none } r ⟨F', gs, H, nx, D⟩) : FbO X ops Q K Kp i o r st := by
  rw [stK_eq, fStrip_eq] at h
  refine ⟨fun ρ a w hm => ?_⟩
  have ho : ops[i]? = some o := by
    have := congrArg (fun l => l[0]?) hi
    simpa using this
  have hlt : i < ops.length := by
    rcases Nat.lt_or_ge i ops.length with h | h
    · exact h
    · rw [List.getElem?_eq_none h] at ho; cases ho
  have h1 := h.h ρ a w (hm.strip (satGP_ok hm.fm hs))
  have hw := (guardOf_ok hm.fm hg).2 (satGP_ok hm.fm hs)
  rw [List.range'_succ] at h1 ⊢
  have e1 : (ops.set i { o with guard := none }).toArray[i]? = some { o with guard := none } := by
    simp only [List.getElem?_toArray, List.getElem?_set, if_true, hlt]
  simp only [wpOpsIn, e1] at h1
  rw [if_pos (guard_none rfl _)] at h1
  refine wpOps_cons (by simpa using ho) (fun _ => ?_) (fun hf => by rw [hw] at hf; cases hf)
  have h2 : Oper.wpIn (FW X.r) 0 X.P o a w (wpOpsIn (FW X.r) 0 X.P (ops.set i { o with guard := none }).toArray Q (List.range' (i + 1) r.length)) Q := h1
  exact Oper.wpIn_mono (fun a w h => wpOps_set (o' := { o with guard := none }) ho rfl _ a w (fun k hk => by have := (List.mem_range'_1.1 hk).1; omega) h) h2

/-- A guard does not hold: the operation is passed over. -/
theorem fb_skip (s : Nat) (w : Bool) {X : Cx} {st : St} {π gp : GP} {q : Bool} {d : Nat} {ops : List Oper} {i : Nat} {o : Oper} {r : List Oper} {Q : Exit → Act → World → Prop} {K : St → Prop} {Kp : List PanicEntry → St → Prop} (hX : X.Ok)
    (hC : Cont X Q K Kp) (hi : ops.drop i = o :: r) (hg : guardOf ops (findF st.F) o.guard = some π) (hdst : o.dst = some d) (hp : putN st.gs X.nt (some d) = false) (hfree : findF st.F d = none)
    (hm : subG [(s, w)] π = true) (hf : findF st.F s = some ⟨gp, .sb q⟩) (hs : satGP (findF st.F) gp) (hq : q = !w)
    (h : stK st fun F gs H nx D => fGP π fun π' => fNs (gpSlots π gs) fun gs' => execL X ops Q K Kp (i + 1) r ⟨(d, ⟨π', .sb false⟩) :: F, gs', H, nx, D⟩) : FbO X ops Q K Kp i o r st := by
  refine ⟨fun ρ a w' hmod => ?_⟩
  have ho : ops[i]? = some o := by
    have := congrArg (fun l => l[0]?) hi
    simpa using this
  have hd' : ops.drop (i + 1) = r := by
    have := congrArg List.tail hi
    simpa using this
  have hns : ¬ GPsat a π := by
    intro hsat
    have h1 := hsat (s, w) (subG_ok hm _ List.mem_cons_self)
    obtain ⟨v, h2, h3⟩ := (hmod.fm s _ hf).1 (satGP_ok hmod.fm hs)
    simp only [den, Option.some.injEq] at h3
    subst h3
    rw [h2, hq] at h1
    cases w <;> cases h1
  have hw : Region.wanted o (yielded ops.toArray a.tmps) = false := by
    cases e : Region.wanted o (yielded ops.toArray a.tmps) with
    | false => rfl
    | true => exact absurd ((guardOf_ok hmod.fm hg).1 e) hns
  obtain ⟨hp1, hp2⟩ := putN_ok hp
  have hne := guard_ne hg hmod.gs hfree hp2
  rw [stK_eq, fGP_eq, fNs_eq] at h
  rw [List.range'_succ]
  refine wpOps_cons (by simpa using ho) (fun hf => by rw [hw] at hf; cases hf) (fun _ => ?_)
  rw [hdst]
  exact execL_ok hX hC.k hC.p r (i + 1) ρ _ _ w' hd' h (hmod.putG hp hne (fun h => absurd h hns) (fun _ => rfl))
end
end Go.X
end

section
set_option linter.unusedVariables false
set_option linter.unusedSimpArgs false
set_option linter.unusedSectionVars false
/- Functions with a deferred answer that hold a range over a function. -/
set_option linter.unusedVariables false
set_option linter.unusedSimpArgs false
set_option maxRecDepth 10000
namespace Go.X
open Go
section
variable {X : Cx} {st : St} {ρ : Env} {a : Act} {w : World}

end
end Go.X
end

section
set_option linter.unusedVariables false
set_option linter.unusedSimpArgs false
set_option linter.unusedSectionVars false
/- Functions that hold a range over a function, run through in place. -/
set_option linter.unusedVariables false
set_option linter.unusedSimpArgs false
set_option maxRecDepth 10000
namespace Go.X
open Go

theorem callS_execM {P : Program} {T : Tab} {C : Nat → Option Ct} (hX : ∀ G r nt, (⟨P, T, C, G, r, nt⟩ : Cx).Ok) {n : Nat} {fn : Func} {c : Code} (hf : P.funcs[n]? = some fn) (hb : fn.body = some c)
    {l : List SV} (hlen : l.length ≤ fn.ntmps) {H : List (Nat × HB)} {nx : Nat} {Rv : SV → List (Nat × HB) → Nat → Prop} {Rp : List PanicEntry → List (Nat × HB) → Nat → Prop}
    (h : ∀ G : Base, (∀ j, nx ≤ j → G.ρ j = none) → exec ⟨P, T, C, G, none, fn.ntmps⟩ c (start l H nx) (FinM ⟨P, T, C, G, none, fn.ntmps⟩ fn.results.toList (fun v st => Rv v st.H st.nx) (fun ch st => Rp ch st.H st.nx))) :
    CallS P n l H nx Rv Rp := by
  intro ρ w vals hm hnx hd
  have hcall := calls_of_execM (X := ⟨P, T, C, ⟨w, Own ρ (findH H), ρ, Fz (findH H)⟩, none, fn.ntmps⟩) (hX _ _ _) rfl hf hb rfl hd hlen hm rfl hnx (fun x _ => by cases x with | tmp t => exact ⟨t, .inl rfl⟩ | cell t ty => exact ⟨t, .inr ⟨ty, rfl⟩⟩) (h _ hnx)
  refine hcall.mono ?_
  rintro e w' (⟨v, st, ρ', u, rfl, hv, hmh, hr⟩ | ⟨ch, st, ρ', rfl, hmh, hr⟩)
  · exact .inl ⟨v, st.H, st.nx, ρ', u, rfl, hv, hmh.hm, hmh.kp, hmh.nx, hr⟩
  · exact .inr ⟨ch, st.H, st.nx, ρ', rfl, hmh.hm, hmh.kp, hmh.nx, hr⟩

/-- So of each slot. -/
def allV (p : Nat → SV → Prop) : List (Nat × SV) → Prop
  | [] => True
  | (t, v) :: r => p t v ∧ allV p r
theorem allV_find {p : Nat → SV → Prop} : ∀ {l : List (Nat × SV)}, allV p l → ∀ t v, findV l t = some v → p t v
  | [], _, t, v, h => by cases h
  | (s, u) :: r, ha, t, v, h => by
    simp only [findV] at h
    split at h
    · rename_i e
      have e : s = t := by simpa using e
      subst e; cases h
      exact ha.1
    · exact allV_find ha.2 t v h

/-! ### Pieces that are handed on -/
def allP (p : Nat → HB → Prop) : List (Nat × HB) → Prop
  | [] => True
  | (c, h) :: r => p c h ∧ allP p r
theorem allP_get {p : Nat → HB → Prop} : ∀ {l : List (Nat × HB)}, allP p l → ∀ (j c : Nat) (h : HB), l[j]? = some (c, h) → p c h
  | (c', h') :: r, ha, 0, c, h, hj => by simp at hj; obtain ⟨rfl, rfl⟩ := hj; exact ha.1
  | (c', h') :: r, ha, j + 1, c, h, hj => allP_get ha.2 j c h (by simpa using hj)
def ownT : HB → Option Nat
  | .cells T _ => some T
  | .map _ _ => some 1000000
  | _ => none
def noT (T : Nat) : List (Nat × HB) → Bool
  | [] => true
  | (_, h) :: r => (match ownT h with
    | some U => (match Nat.beq T U with
      | true => false
      | false => noT T r)
    | none => noT T r)
def distT : List (Nat × HB) → Bool
  | [] => true
  | (_, h) :: r => (match ownT h with
    | some T => (match noT T r with
      | true => distT r
      | false => false)
    | none => distT r)
theorem noT_get : ∀ {T : Nat} {l : List (Nat × HB)}, noT T l = true → ∀ (j c : Nat) (h : HB), l[j]? = some (c, h) → ownT h ≠ some T
  | T, (c', h') :: r, hn, j, c, h, hj => by
    simp only [noT] at hn
    have key : noT T r = true ∧ ownT h' ≠ some T := by
      split at hn
      · rename_i U e
        split at hn
        · cases hn
        · rename_i e2
          refine ⟨hn, fun e3 => ?_⟩
          rw [e] at e3; cases e3
          simp at e2
      · rename_i e
        exact ⟨hn, by rw [e]; intro h; cases h⟩
    cases j with
    | zero => simp at hj; obtain ⟨rfl, rfl⟩ := hj; exact key.2
    | succ j => exact noT_get key.1 j c h (by simpa using hj)
theorem distT_get : ∀ {l : List (Nat × HB)}, distT l = true → ∀ (i j c c' : Nat) (h h' : HB) (T : Nat), i < j → l[i]? = some (c, h) → l[j]? = some (c', h') → ownT h = some T → ownT h' ≠ some T
  | (c₀, h₀) :: r, hd, i, j, c, c', h, h', T, hij, hi, hj, ho => by
    simp only [distT] at hd
    cases j with
    | zero => omega
    | succ j =>
      have hj : r[j]? = some (c', h') := by simpa using hj
      cases i with
      | zero =>
        simp at hi; obtain ⟨rfl, rfl⟩ := hi
        rw [ho] at hd
        dsimp only at hd
        split at hd
        · rename_i e; exact noT_get e j c' h' hj
        · cases hd
      | succ i =>
        have hi : r[i]? = some (c, h) := by simpa using hi
        have hd' : distT r = true := by
          split at hd
          · split at hd
            · exact hd
            · cases hd
          · exact hd
        exact distT_get hd' i j c c' h h' T (by omega) hi hj ho
theorem ownT_of {H : LH} {s : Nat → Nat} {c : Nat} {h h' : HB} (k : PieceOk H s c h) (k' : PieceOk H s c h') (o : ownP h = true) (o' : ownP h' = true) : ∃ T, ownT h = some T ∧ ownT h' = some T := by
  cases h <;> cases o <;> cases h' <;> cases o'
  · rename_i T cs T' cs'
    have k : H c = some (.cells T (renL s cs)) := k
    have k' : H c = some (.cells T' (renL s cs')) := k'
    rw [k] at k'
    simp only [Option.some.injEq, HB.cells.injEq] at k'
    exact ⟨T, rfl, by rw [k'.1]; rfl⟩
  · have k : H c = _ := k
    have k' : H c = _ := k'
    rw [k] at k'
    cases k'
  · have k : H c = _ := k
    have k' : H c = _ := k'
    rw [k] at k'
    cases k'
  · exact ⟨_, rfl, rfl⟩
theorem hand_mk {H : LH} {ps : List (Nat × HB)} (h1 : allP (fun c h => PieceOk H (sigP ps) c h) ps) (h2 : allP (fun _ h => InHB (fun i => i < ps.length) h) ps) (h3 : distT ps = true) : Hand H ps where
  ok := allP_get h1
  ids := allP_get h2
  inj i j c hb hb' e1 e2 o1 o2 := by
    obtain ⟨T, t1, t2⟩ := ownT_of (allP_get h1 i c hb e1) (allP_get h1 j c hb' e2) o1 o2
    rcases Nat.lt_trichotomy i j with h | h | h
    · exact absurd t2 (distT_get h3 i j c c hb hb' T h e1 e2 t1)
    · exact h
    · exact absurd t1 (distT_get h3 j i c c hb' hb T h e2 e1 t2)
end Go.X
end

section
set_option linter.unusedVariables false
set_option linter.unusedSimpArgs false
set_option linter.unusedSectionVars false
/- Loops in each round of which a function is ranged over: the marks that they leave. -/
set_option linter.unusedVariables false
set_option linter.unusedSimpArgs false
set_option maxRecDepth 10000
namespace Go.X
open Go

theorem findH_skip {a : Nat} {x : HB} {l : List (Nat × HB)} {t : Nat} (h : a ≠ t) : findH ((a, x) :: l) t = findH l t := by
  rw [findH_cons, updL_ne _ _ h]
theorem findH_app {A B : List (Nat × HB)} {t : Nat} : findH (A ++ B) t = match findH A t with
    | some x => some x
    | none => findH B t := by
  induction A with
  | nil => rfl
  | cons p r ih =>
    obtain ⟨a, x⟩ := p
    rw [List.cons_append]
    by_cases h : a = t
    · subst h; rw [findH_cons, updL_self, findH_cons, updL_self]
    · rw [findH_skip h, findH_skip h]; exact ih

section
variable {s s' : Nat → Nat} {n n' : Nat}
end

theorem apartI_id {t : Nat} : ∀ (H : List (Nat × HB)), apartI (fun j => j) t H = true
  | [] => rfl
  | (j, _) :: r => by
    simp only [apartI]
    cases Nat.beq t j <;> simp only [apartI_id r]
theorem injI_id : ∀ (H : List (Nat × HB)), injI (fun j => j) H = true
  | [] => rfl
  | (t, _) :: r => by simp only [injI, apartI_id, injI_id r]
/-! ### Functions whose loops leave marks -/
section
variable {X : Cx} {st : St} {ρ : Env} {a : Act} {w : World}
end
end Go.X
end

section
set_option linter.unusedVariables false
set_option linter.unusedSimpArgs false
set_option linter.unusedSectionVars false
/- Calls that are run through without the marks that lie beside. -/
set_option linter.unusedVariables false
set_option linter.unusedSimpArgs false
set_option maxRecDepth 10000
namespace Go.X
open Go

end Go.X
end

section
set_option linter.unusedVariables false
set_option linter.unusedSimpArgs false
set_option linter.unusedSectionVars false
/- Regions whose order Go leaves open: operations that look at slots only are taken first, the rest step by step. -/
set_option linter.unusedVariables false
set_option linter.unusedSimpArgs false
set_option maxRecDepth 10000
namespace Go.X
open Go

def Qnp (X : Cx) (K : Ex → St → Prop) : Exit → Act → World → Prop := fun e a w => match e with
  | .panic _ => False
  | e => Qof X K e a w
/-- What is left to do, from a state, when some operations have run. -/
structure AnyS (X : Cx) (ops : Array Oper) (fuel : Nat) (listed : Array Bool) (st : St) (K : Ex → St → Prop) : Prop where
  h : ∀ ρ a w, Mod X ρ st a w → wpAnyIn (FW X.r) 0 X.P .any ops (Qnp X K) fuel listed a w

theorem any_region {X : Cx} {st : St} {K : Ex → St → Prop} {id : Nat} {ops : Array Oper} (hm : X.P.follows .mixedOrders = true) (h : AnyS X ops ops.size (Array.replicate ops.size false) st K) : SemC X (.region id ops true) st K := by
  intro ρ a w hmod
  have hmod' : Mod X ρ st a { w with drawn := w.drawn + 1 } := {
    fm := hmod.fm, gs := hmod.gs, df := hmod.df, hm := hmod.hm.world (Nat.le_refl _) (fun _ _ => rfl), kp := hmod.kp.world (Nat.le_refl _) (fun _ _ => rfl), nx := hmod.nx, sz := hmod.sz }
  refine wpIn_mono (Q := Qnp X K) (wpIn_region_any hm (h.h ρ a _ hmod')) ?_
  intro e a' w' hq
  cases e <;> first | exact hq | exact hq.elim

theorem any_done {X : Cx} {st : St} {K : Ex → St → Prop} {ops : Array Oper} {fuel : Nat} {listed : Array Bool} (hr : Region.ready .any ops listed = []) (h : K .normal st) : AnyS X ops fuel listed st K :=
  ⟨fun ρ a w hm => wpAnyIn_done hr ⟨.normal, st, ρ, rfl, hm, h⟩ fuel⟩

theorem any_take {X : Cx} {st : St} {K : Ex → St → Prop} (i : Nat) {d : Nat} {o : Oper} {pre : Option Prop} {v : SV} {ops : Array Oper} {fuel : Nat} {listed : Array Bool} (hX : X.Ok) (hr : X.r = none) (ho : ops[i]? = some o) (hd : o.dst = some d) (hg : o.guard = none)
    (hc : core X.T (findF st.F) [] (fun _ => none) st.nx o.op = some ⟨pre, v, .no⟩) (hnc : isCall o.op = none) (hp : putN st.gs X.nt (some d) = false) (hs : Region.noSelect ops = true) (hf : Region.free .any ops listed i = true)
    (hrd : (Region.ready .any ops listed).contains i = true)
    (h : ChkO pre (stK st fun F gs H nx D => fSV v fun v' => AnyS X ops fuel (listed.setIfInBounds i true) ⟨(d, ⟨[], v'⟩) :: F, gs, H, nx, D⟩ K)) : AnyS X ops (fuel + 1) listed st K := by
  refine ⟨fun ρ a w hm => ?_⟩
  have hsat : GPsat a [] := fun x hx => by cases hx
  have hHρ : ∀ w : World, HM ρ (fun _ => none) w := fun w => {
    ok := fun _ _ h => by cases h
    sep := fun _ _ _ _ _ _ _ h => by cases h
    ro := fun _ _ _ _ _ _ h => by cases h
    fam := fun _ ⟨_, _, _, _, _, _, h, _⟩ => by cases h }
  have hk := ChkO_k h
  rw [stK_eq, fSV_eq] at hk
  -- core's word in whatever world
  have hall : ∀ w : World, ∃ u, (execOp a.eval o).run X.P w = .ok (.value u) w ∧ den ρ v = some u := fun w => by
    exact core_ok hX.tab hm.fm hsat (hHρ w) (hm.nx _ (Nat.le_refl _)) hc (ChkO_pre h)
  obtain ⟨u, _, hu⟩ := hall w
  have hy : YieldsFenced X.P ops o u a := by
    refine ⟨.inl ⟨guard_none hg _, fun w => ?_⟩, fun w => ?_⟩
    · obtain ⟨u', h1, h2⟩ := hall w
      rw [hu] at h2; cases h2
      exact h1
    · unfold Oper.about
      cases hop : o.op <;> first | rfl | (rw [hop] at hnc; cases hnc)
  refine wpAnyIn_take (by rw [FW_round, hr]) ho hs hf hrd (fun c a w h => h) hy ?_
  rw [hd]
  exact hk.h ρ _ w (hm.put hp hu)

/-- One operation, whichever is ready. -/
def Qst (X : Cx) (ops : Array Oper) (fuel : Nat) (listed : Array Bool) (K : Ex → St → Prop) : Exit → Act → World → Prop := fun e a w => match e with
  | .normal => wpAnyIn (FW X.r) 0 X.P .any ops (Qnp X K) fuel listed a w
  | e => Qnp X K e a w
theorem cont_any {X : Cx} {ops : Array Oper} {fuel : Nat} {listed : Array Bool} {K : Ex → St → Prop} : Cont X (Qst X ops fuel listed K) (fun st => AnyS X ops fuel listed st K) (fun _ _ => False) where
  k ρ' st' a' w' hm' hk := hk.h ρ' a' w' hm'
  p ch ρ' st' a' w' hm' hk := hk.elim
def stepsK (X : Cx) (ops : Array Oper) (fuel : Nat) (listed : Array Bool) (st : St) (K : Ex → St → Prop) : List Nat → Prop
  | [] => True
  | i :: r => (match nth ops.toList i with
    | some o => (match o.guard with
      | none => execL X [o] (Qst X ops fuel (listed.setIfInBounds i true) K) (fun st' => AnyS X ops fuel (listed.setIfInBounds i true) st' K) (fun _ _ => False) 0 [o] st
      | some _ => False)
    | none => False) ∧ stepsK X ops fuel listed st K r
theorem stepsK_ok {X : Cx} {ops : Array Oper} {fuel : Nat} {listed : Array Bool} {st : St} {K : Ex → St → Prop} (hX : X.Ok) : ∀ {l : List Nat}, stepsK X ops fuel listed st K l → ∀ i ∈ l, ∀ ρ a w, Mod X ρ st a w →
    wpOpIn (FW X.r) 0 X.P ops (Qnp X K) i (wpAnyIn (FW X.r) 0 X.P .any ops (Qnp X K) fuel (listed.setIfInBounds i true)) a w
  | j :: r, h, i, hi, ρ, a, w, hm => by
    rcases List.mem_cons.1 hi with rfl | hi
    · have h1 := h.1
      split at h1
      · rename_i o e
        rw [nth_eq] at e
        have e : ops[i]? = some o := by simpa [Array.getElem?_toList] using e
        split at h1
        · rename_i hg
          have h2 := execL_ok hX (cont_any (X := X) (ops := ops) (fuel := fuel) (listed := listed.setIfInBounds i true) (K := K)).k cont_any.p [o] 0 ρ st a w rfl h1 hm
          have h2 : wpOpsIn (FW X.r) 0 X.P #[o] (Qst X ops fuel (listed.setIfInBounds i true) K) [0] a w := h2
          simp only [wpOpsIn] at h2
          have hw0 : ∀ y, Region.wanted o y = true := fun y => guard_none hg y
          simp only [List.getElem?_toArray, List.getElem?_cons_zero, hw0, if_true] at h2
          unfold wpOpIn
          simp only [e, hw0, if_true]
          have h3 : Oper.wpIn (FW X.r) 0 X.P o a w (wpAnyIn (FW X.r) 0 X.P .any ops (Qnp X K) fuel (listed.setIfInBounds i true)) (Qst X ops fuel (listed.setIfInBounds i true) K) := h2
          unfold Oper.wpIn at h3 ⊢
          refine ⟨h3.1, ?_⟩
          have h4 := h3.2
          generalize (o.semAt (FW X.r).round a.eval).run X.P w = res at h4 ⊢
          cases res with
          | ok x w' => cases x <;> exact h4
          | halt x w' => cases x <;> exact h4
        · exact h1.elim
      · exact h1.elim
    · exact stepsK_ok hX h.2 i hi ρ a w hm
theorem any_step {X : Cx} {st : St} {K : Ex → St → Prop} {ops : Array Oper} {fuel : Nat} {listed : Array Bool} (rs : List Nat) (hX : X.Ok) (hr : Region.ready .any ops listed = rs) (hne : rs ≠ []) (h : stepsK X ops fuel listed st K rs) : AnyS X ops (fuel + 1) listed st K :=
  ⟨fun ρ a w hm => wpAnyIn_all hr hne fun i hi => stepsK_ok hX h i hi ρ a w hm⟩
end Go.X
end

section
set_option linter.unusedVariables false
set_option linter.unusedSimpArgs false
set_option linter.unusedSectionVars false
/- A part of a slice is copied into a part of a slice of our own. -/
set_option linter.unusedVariables false
set_option linter.unusedSimpArgs false
set_option maxRecDepth 10000
namespace Go.X
open Go
section
variable {X : Cx} {st : St}

/-- A part's value, and its slice's. -/
theorem part_of {ρ : Env} {H : LH} {w : World} (hH : HM ρ H w) {sz id n off len tot : Nat} {get : Nat → List SV} (h : sliceOf sz H id = some (n, get)) {v : Value} (hv : den ρ (.ss id off len tot) = some v) :
    ∃ ad c, den ρ (.sl id) = some (.slice (some ad) n c) ∧ v = .slice (some (if c - off / sz = 0 then ad else ad.add off)) len (c - off / sz) ∧ n ≤ c ∧ 0 < sz := by
  simp only [den] at hv
  split at hv
  · rename_i nm hr
    have key : ∀ hb, H id = some hb → (∀ nb, nm = .blk nb → False) → (∀ A n' c s, (nm = .sl A n' c s ∨ ∃ k, nm = .row k n' c s ∧ A = some ⟨k, 0, none⟩) → n' = n ∧ s = sz ∧ n ≤ c) →
        ∃ ad c, den ρ (.sl id) = some (.slice (some ad) n c) ∧ v = .slice (some (if c - off / sz = 0 then ad else ad.add off)) len (c - off / sz) ∧ n ≤ c ∧ 0 < sz := by
      intro hb hf hnb hs
      cases nm with
      | blk nb => exact (hnb nb rfl).elim
      | sl A n' c s =>
        obtain ⟨rfl, rfl, hc⟩ := hs A n' c s (.inl rfl)
        cases A with
        | none => simp only [partOf] at hv; cases hv
        | some ad =>
          simp only [partOf] at hv
          split at hv
          · rename_i hq
            cases hv
            exact ⟨ad, c, by simp only [den, hr], rfl, hc, hq.2⟩
          · cases hv
      | row k n' c s =>
        obtain ⟨rfl, rfl, hc⟩ := hs (some ⟨k, 0, none⟩) n' c s (.inr ⟨k, rfl, rfl⟩)
        simp only [partOf] at hv
        split at hv
        · rename_i hq
          cases hv
          refine ⟨⟨k, 0, none⟩, c, by simp only [den, hr], ?_, hc, hq.2⟩
          rw [add_zero_mk]
        · cases hv
    unfold sliceOf at h
    split at h
    · rename_i s n' g e
      split at h
      · rename_i hb
        have : s = sz := by simpa using hb
        subst this; cases h
        obtain ⟨nm', h1, h2⟩ := hH.ok _ _ e
        rw [hr] at h1; cases h1
        refine key _ e (fun nb hn => by subst hn; exact h2.elim) fun A n' c s hA => ?_
        rcases hA with rfl | ⟨k, rfl, _⟩
        · obtain ⟨q1, q2, q3, _⟩ := h2; exact ⟨q1, q2, q3⟩
        · exact h2.elim
      · cases h
    · rename_i T s n' xs e
      split at h
      · rename_i hb
        have : s = sz := by simpa using hb
        subst this; cases h
        obtain ⟨nm', h1, h2⟩ := hH.ok _ _ e
        rw [hr] at h1; cases h1
        refine key _ e (fun nb hn => by subst hn; exact h2.elim) fun A n' c s hA => ?_
        rcases hA with rfl | ⟨k, rfl, _⟩
        · exact h2.elim
        · obtain ⟨q1, q2, ⟨q3, _⟩, _⟩ := h2; exact ⟨q1, q2, q3⟩
      · cases h
    · rename_i T s n' g e
      split at h
      · rename_i hb
        have : s = sz := by simpa using hb
        subst this; cases h
        obtain ⟨nm', h1, h2⟩ := hH.ok _ _ e
        rw [hr] at h1; cases h1
        refine key _ e (fun nb hn => by subst hn; exact h2.elim) fun A n' c s hA => ?_
        rcases hA with rfl | ⟨k, rfl, _⟩
        · obtain ⟨q1, q2, q3, q4, q5⟩ := h2; exact ⟨by omega, q5, by omega⟩
        · obtain ⟨q1, q2, ⟨q3, _⟩, _⟩ := h2; exact ⟨q1, q2, q3⟩
      · cases h
    · cases h
  · cases hv

theorem fb_copyP (did xid n m i j l1 l2 : Nat) (get get2 get' : Nat → List SV) {o1 o2 t1 t2 : Nat} {ops : List Oper} {k : Nat} {o : Oper} {r : List Oper} {Q : Exit → Act → World → Prop} {Kn : St → Prop} {Kp : List PanicEntry → St → Prop}
    {t u e : TypeId} {ti te : TI} {s x : Operand} {c : Call} {d : Nat} (hX : X.Ok) (hC : Cont X Q Kn Kp) (hi : ops.drop k = o :: r)
    (hc : o.op = .call c) (hcl : c.callee = .builtin .copy) (hca : c.args = #[s, x]) (hct : c.argTypes = #[t, u]) (hg : o.guard = none) (hdst : o.dst = some d) (hp : putN st.gs X.nt (some d) = false)
    (ht : X.T t = some ti) (hd : ti.desc = .slice e) (hte : X.T e = some te)
    (h1 : ev (findF st.F) [] s = some (.ss did o1 l1 t1)) (h2 : ev (findF st.F) [] x = some (.ss xid o2 l2 t2)) (h3 : findH st.H did = some (.vec e te.size n get)) (h4 : sliceOf te.size (findH st.H) xid = some (m, get2))
    (ho1 : o1 = i * te.size) (ho2 : o2 = j * te.size) (hl1 : i + l1 ≤ n) (hl2 : j + l2 ≤ m) (hlp : 0 < l1) (hl2p : 0 < l2)
    (hg' : ∀ q, q < n → get' q = if i ≤ q ∧ q < i + min l2 l1 then get2 (j + (q - i)) else get q)
    (h : stK st fun F gs H nx D => execL X ops Q Kn Kp (k + 1) r ⟨(d, ⟨[], .si .i64 (min l2 l1 : Nat)⟩) :: F, gs, (did, .vec e te.size n get') :: H, nx, D⟩) : FbO X ops Q Kn Kp k o r st := by
  refine fb_sem hX hC hi (by rw [hc]; intro c h; cases h) hg fun ρ a w hm => ?_
  have hs : GPsat a [] := fun x hx => by cases hx
  have e1 := ev_ok hm.fm hs h1
  have e2 := ev_ok hm.fm hs h2
  obtain ⟨ad2, c2, v2, p2, hmc, hsz⟩ := part_of hm.hm h4 e2
  obtain ⟨A, c2', news, s1, s2, s3, s4, s5, s6⟩ := slice_src hm.hm h4 v2
  cases s1
  have h3' : sliceOf te.size (findH st.H) did = some (n, get) := by
    unfold sliceOf
    rw [h3]
    simp
  obtain ⟨ad1, c1, v1, p1, hnc, _⟩ := part_of hm.hm h3' e1
  obtain ⟨nm, hn, hok⟩ := hm.hm.ok _ _ h3
  obtain ⟨hu, _, _⟩ := hX.tab t ti ht
  rw [hd] at hu
  rw [stK_eq] at h
  have hdiv1 : o1 / te.size = i := by rw [ho1]; exact Nat.mul_div_cancel _ hsz
  have hdiv2 : o2 / te.size = j := by rw [ho2]; exact Nat.mul_div_cancel _ hsz
  rw [hdiv1, if_neg (by omega)] at p1
  rw [hdiv2, if_neg (by omega)] at p2
  obtain ⟨cn, hcn⟩ : ∃ cn, min l2 l1 = cn := ⟨_, rfl⟩
  have hc1 : cn ≤ l1 := by omega
  have hc2 : cn ≤ l2 := by omega
  have hsrc : (j + cn) * te.size ≤ m * te.size := Nat.mul_le_mul_right _ (by omega)
  have hdst' : (i + cn) * te.size ≤ n * te.size := Nat.mul_le_mul_right _ (by omega)
  rw [Nat.add_mul] at hsrc hdst'
  have hcl' : ((news.drop o2).take (cn * te.size)).length = cn * te.size := by rw [List.length_take, List.length_drop, s3, ho2]; omega
  have hfc : (Builtin.firstCells te.size cn (a.eval x)).run X.P w = .ok ((news.drop o2).take (cn * te.size)).toArray w := by
    rw [p2]
    refine run_firstCells_some (P := X.P) w te.size cn _ _ _ _ hcl' fun q v hv => ?_
    rw [List.getElem?_take] at hv
    split at hv
    · rw [List.getElem?_drop] at hv
      rw [add_add]
      exact s6 ad2 rfl _ v hv
    · cases hv
  have hlen : (Builtin.lenOf (a.eval x)).run X.P w = .ok l2 w := by rw [p2]; rfl
  have hmin : Nat.min l2 l1 = cn := hcn
  cases nm <;> simp only [HBok] at hok
  · obtain ⟨rfl, rfl, rfl, rfl, rfl⟩ := hok
    omega
  · rename_i nb n2 cc s'
    obtain ⟨rfl, rfl, hle, cells, d5, d6, d7⟩ := hok
    simp only [den, hn, Option.some.injEq] at v1
    cases v1
    have hfit : o1 + cn * te.size ≤ cells.length := by
      have := Nat.mul_le_mul_right te.size hle.1
      rw [d6, ho1]; omega
    have hst := run_storeCells_at X.P nb o1 e ((news.drop o2).take (cn * te.size)) 0 cells.toArray w d5 (by simp only [List.size_toArray]; omega) (fun v hv => s4 v (List.mem_of_mem_drop (List.mem_of_mem_take hv)))
    simp only [Nat.add_zero, List.toList_toArray] at hst
    have hrun : (Builtin.copy_ #[t, u] o.type #[a.eval s, a.eval x]).run X.P w = .ok (goInt (cn : Nat)) (w.setRow nb (cells.take o1 ++ (news.drop o2).take (cn * te.size) ++ cells.drop (o1 + ((news.drop o2).take (cn * te.size)).length)).toArray) := by
      rw [p1]
      simp [Builtin.copy_, Sem.run_bind, run_underlying hu, hlen, run_size hX.tab hte, hfc, Result.andThen, hmin, add_zero_mk, hst]
    have hnb := setRow_heap w nb cells.toArray (cells.take o1 ++ (news.drop o2).take (cn * te.size) ++ cells.drop (o1 + ((news.drop o2).take (cn * te.size)).length)).toArray e (0, 0) d5
    refine ⟨_, _, ρ, _, .inl (run_builtin2 hc hcl hca hct (fun _ _ => rfl) hrun), (hm.turned (hb' := .vec e te.size n2 get') h3 rfl hn rfl (size_setRow _ _ _) (fun k hk => heap_setRow _ _ _ _ hk) ?_ rfl (fun _ _ _ h => by cases h)).put (d := o.dst) (s := .si .i64 (cn : Nat)) (by rw [hdst]; exact hp) rfl, by rw [hdst]; rw [hcn] at h; exact h⟩
    refine ⟨rfl, rfl, hle, _, hnb, by rw [List.length_append, List.length_append, List.length_drop, List.length_take, hcl']; omega, fun q hq => ?_⟩
    rw [hg' q hq, hcn]
    have htk : (cells.take o1).length = o1 := by rw [List.length_take]; omega
    split
    · rename_i him
      have hb1 : (q - i + 1) * te.size ≤ cn * te.size := Nat.mul_le_mul_right _ (by omega)
      rw [Nat.add_mul] at hb1
      have hb2 : (j + (q - i)) * te.size = o2 + (q - i) * te.size := by rw [ho2, Nat.add_mul]
      have hb3 : q * te.size = o1 + (q - i) * te.size := by
        rw [ho1, ← Nat.add_mul]; congr 1; omega
      have hb4 : (j + (q - i) + 1) * te.size ≤ m * te.size := Nat.mul_le_mul_right _ (by omega)
      rw [Nat.add_mul] at hb4
      refine ⟨_, s5 (j + (q - i)) (by omega), ?_, by simp only [List.length_take, List.length_drop, s3]; omega, fun jj v hv => ?_⟩
      · rw [List.all_eq_true]
        exact fun x hx => s4 x (List.mem_of_mem_drop (List.mem_of_mem_take hx))
      · rw [List.getElem?_take] at hv
        split at hv
        · rw [List.getElem?_drop] at hv
          rw [List.append_assoc, List.getElem?_append_right (by rw [htk]; omega), List.getElem?_append_left (by rw [hcl', htk]; omega), List.getElem?_take, if_pos (by rw [htk]; omega), List.getElem?_drop, htk, ← hv]
          congr 1; omega
        · cases hv
    · rename_i him
      obtain ⟨vs, c1, c2', c3, c4⟩ := d7 q hq
      refine ⟨vs, c1, c2', c3, fun jj v hv => ?_⟩
      have hjj : jj < te.size := by have := lt_of_get hv; omega
      have hv' := c4 jj v hv
      rcases Nat.lt_or_ge q i with hlt | hge
      · have hb1 : (q + 1) * te.size ≤ i * te.size := Nat.mul_le_mul_right _ hlt
        rw [Nat.add_mul] at hb1
        rw [List.append_assoc, List.getElem?_append_left (by rw [htk]; omega), List.getElem?_take, if_pos (by omega)]
        exact hv'
      · have hb1 : (i + cn) * te.size ≤ q * te.size := Nat.mul_le_mul_right _ (by omega)
        rw [Nat.add_mul] at hb1
        rw [List.getElem?_append_right (by rw [List.length_append, htk, hcl']; omega), List.getElem?_drop, List.length_append, htk, hcl', ← hv']
        congr 1; omega
end
end Go.X
end

section
set_option linter.unusedVariables false
set_option linter.unusedSimpArgs false
set_option linter.unusedSectionVars false
/- Calls: from a part of the heap, and with an empty slice as a piece. -/
set_option linter.unusedVariables false
set_option linter.unusedSimpArgs false
set_option maxRecDepth 10000
namespace Go.X
open Go

end Go.X
end
