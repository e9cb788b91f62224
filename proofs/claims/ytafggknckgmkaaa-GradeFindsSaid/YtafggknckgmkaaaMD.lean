/- The symbolic executor, continued: guarded calls, marks of ranges over functions, regions step by step, copies of parts, calls from a part of the heap. -/
import Derived.Test.YtafggknckgmkaaaMC
import Derived.OrdersIn

section
set_option linter.unusedVariables false
set_option linter.unusedSimpArgs false
set_option linter.unusedSectionVars false
/- Regions whose order Go leaves open, run through in each order. -/
set_option linter.unusedVariables false
set_option linter.unusedSimpArgs false
set_option linter.unusedSectionVars false
namespace Go.X
open Go

/-! ### The row, from a run through -/
open Go.ChangeShapes Go.WideShapes Go.ChangeAt Go.RowKit

/-! ### Several slices that came in -/
end Go.X
end

section
set_option linter.unusedVariables false
set_option linter.unusedSimpArgs false
set_option linter.unusedSectionVars false
/- Slices: an element's cells stored into; a row is called a slice of our own. -/
set_option linter.unusedVariables false
set_option linter.unusedSimpArgs false
set_option linter.unusedSectionVars false
set_option maxRecDepth 10000
namespace Go.X
open Go

section
variable {X : Cx} {st : St}

/-- A row is called a slice of our own. -/
theorem fb_row (id Tr s n : Nat) (xs : List SV) (get : Nat → List SV) {ops : List Oper} {i : Nat} {o : Oper} {r : List Oper} {Q : Exit → Act → World → Prop} {K : St → Prop} {Kp : List PanicEntry → St → Prop}
    (h1 : findH st.H id = some (.row Tr s n xs)) (hg : ∀ i, i < n → (xs.drop (i * s)).take s = get i)
    (h : stK st fun F gs H nx D => FbO X ops Q K Kp i o r ⟨F, gs, (id, .vec Tr s n get) :: H, nx, D⟩) : FbO X ops Q K Kp i o r st := by
  rw [stK_eq] at h
  refine ⟨fun ρ a w hm => ?_⟩
  obtain ⟨nm, hn, hok⟩ := hm.hm.ok _ _ h1
  exact h.h ρ a w (hm.swap h1 rfl hn (row_vec hok hg) (fun _ _ _ h => by cases h))

theorem chunk_ne {i j s k off m : Nat} (h : i ≠ k) (hj : j < s) (hf : off + m ≤ s) : i * s + j < k * s + off ∨ k * s + off + m ≤ i * s + j := by
  rcases Nat.lt_or_gt_of_ne h with h1 | h1
  · left
    have : (i + 1) * s ≤ k * s := Nat.mul_le_mul_right _ h1
    rw [Nat.add_mul] at this; omega
  · right
    have : (k + 1) * s ≤ i * s := Nat.mul_le_mul_right _ h1
    rw [Nat.add_mul] at this; omega

/-- An element of a slice of our own is stored into. -/
theorem fb_storeV (id Tr s n : Nat) (k : Int) (off : Nat) (get get' : Nat → List SV) (cs : List SV) {v : SV} {ops : List Oper} {i : Nat} {o : Oper} {r : List Oper} {Q : Exit → Act → World → Prop} {Kn : St → Prop} {Kp : List PanicEntry → St → Prop}
    {t : TypeId} {ti : TI} {x y : Operand} (hX : X.Ok) (hC : Cont X Q Kn Kp) (hi : ops.drop i = o :: r) (hc : o.op = .store t x y) (hg : o.guard = none) (hdst : o.dst = none) (ht : X.T t = some ti)
    (h1 : ev (findF st.F) [] x = some (.se id k off)) (h2 : ev (findF st.F) [] y = some v) (h3 : findH st.H id = some (.vec Tr s n get)) (h4 : cellsS v = some cs) (h5 : cs.length = ti.size)
    (hk : 0 ≤ k ∧ k < (n : Int)) (hfit : off + cs.length ≤ s) (hg' : ∀ j, j < n → get' j = if j = k.toNat then setL (get j) off cs else get j)
    (h : stK st fun F gs H nx D => execL X ops Q Kn Kp (i + 1) r ⟨F, gs, (id, .vec Tr s n get') :: H, nx, D⟩) : FbO X ops Q Kn Kp i o r st := by
  rw [stK_eq] at h
  refine fb_sem hX hC hi (by rw [hc]; intro c h; cases h) hg fun ρ a w hm => ?_
  have hs : GPsat a [] := fun x hx => by cases hx
  have e1 := ev_ok hm.fm hs h1
  have e2 := ev_ok hm.fm hs h2
  obtain ⟨nm, hn, hok⟩ := hm.hm.ok _ _ h3
  obtain ⟨us, u1, u2, u3⟩ := cellsS_ok h4 e2
  have hul := denL_len u1
  cases nm <;> simp only [HBok] at hok
  · obtain ⟨rfl, rfl, rfl, rfl, rfl⟩ := hok
    omega
  rename_i b n' c s'
  obtain ⟨rfl, rfl, hcap, cells, c1, c2, c3⟩ := hok
  have hkn : k.toNat < n' := by omega
  have e1' : a.eval x = .pointer (some ⟨b, k.toNat * s' + off, none⟩) := by
    simp only [den, hn, if_pos hkn, Option.some.injEq] at e1
    exact e1.symm
  have hle : k.toNat * s' + s' ≤ n' * s' := by
    have : (k.toNat + 1) * s' ≤ n' * s' := Nat.mul_le_mul_right _ hkn
    rw [Nat.add_mul] at this; omega
  have hle2 : n' * s' ≤ c * s' := Nat.mul_le_mul_right _ hcap.1
  have hsv := storeVar_ok hX.tab ht (w := w) (nm := b) (off := k.toNat * s' + off) u3 (by omega) u2 c1 (by omega)
  have hrun : (execOp a.eval o).run X.P w = .ok .skip (w.setRow b (cells.take (k.toNat * s' + off) ++ us ++ cells.drop (k.toNat * s' + off + us.length)).toArray) := by
    simp only [execOp, hc, e1', Instr.storeAt, Instr.sureAddr, Sem.run_bind, Sem.run_pure, Result.andThen, hsv]
  have hheap := setRow_heap w b cells.toArray (cells.take (k.toNat * s' + off) ++ us ++ cells.drop (k.toNat * s' + off + us.length)).toArray Tr (0, 0) c1
  refine ⟨undef, _, ρ, { st with H := (id, .vec Tr s' n' get') :: st.H }, .inr ⟨hrun, rfl⟩, ?_, h⟩
  have hput : a.put o.dst undef = a := by rw [hdst]; rfl
  rw [hput]
  refine hm.turned (b := b) h3 rfl hn rfl (size_setRow _ _ _) (fun k' hk' => heap_setRow _ _ _ _ hk') ?_ rfl (fun _ _ _ h => by cases h)
  refine ⟨rfl, rfl, hcap, _, hheap, ?_, fun j hj => ?_⟩
  · simp only [List.length_append, List.length_take, List.length_drop]; omega
  · obtain ⟨vs, d1, d2, d3, d4⟩ := c3 j hj
    have hjle : j * s' + s' ≤ n' * s' := by
      have : (j + 1) * s' ≤ n' * s' := Nat.mul_le_mul_right _ hj
      rw [Nat.add_mul] at this; omega
    have hgl := denL_len d1
    rw [hg' j hj]
    by_cases hjk : j = k.toNat
    · rw [if_pos hjk]
      refine ⟨_, denL_set d1 u1 off (by omega), ?_, ?_, fun q v' hv' => ?_⟩
      · rw [List.all_eq_true] at d2 u2 ⊢
        intro z hz
        simp only [List.mem_append] at hz
        rcases hz with (hz | hz) | hz
        · exact d2 z (List.mem_of_mem_take hz)
        · exact u2 z hz
        · exact d2 z (List.mem_of_mem_drop hz)
      · simp only [List.length_append, List.length_take, List.length_drop]; omega
      · have hql : q < s' := by
          have := lt_of_get hv'
          simp only [List.length_append, List.length_take, List.length_drop] at this; omega
        rw [← hjk]
        rcases Nat.lt_or_ge q off with hq | hq
        · rw [List.append_assoc, List.getElem?_append_left (by simp; omega), List.getElem?_take, if_pos hq] at hv'
          rw [List.append_assoc, List.getElem?_append_left (by simp; omega), List.getElem?_take, if_pos (by omega)]
          exact d4 q v' hv'
        · rcases Nat.lt_or_ge q (off + us.length) with hq2 | hq2
          · rw [List.getElem?_append_left (by simp; omega), List.getElem?_append_right (by simp; omega)] at hv'
            rw [List.getElem?_append_left (by simp; omega), List.getElem?_append_right (by simp; omega)]
            simp only [List.length_take] at hv' ⊢
            rw [← hv']
            congr 1
            omega
          · rw [List.getElem?_append_right (by simp; omega), List.getElem?_drop] at hv'
            rw [List.getElem?_append_right (by simp; omega), List.getElem?_drop]
            simp only [List.length_append, List.length_take] at hv' ⊢
            have := d4 q v' (by rw [← hv']; congr 1; omega)
            rw [← this]
            congr 1
            omega
    · rw [if_neg hjk]
      refine ⟨vs, d1, d2, d3, fun q v' hv' => ?_⟩
      have hq := lt_of_get hv'
      have := d4 q v' hv'
      rcases chunk_ne (i := j) (j := q) (s := s') (k := k.toNat) (off := off) (m := us.length) hjk (by omega) (by omega) with h6 | h6
      · rw [List.append_assoc, List.getElem?_append_left (by simp; omega), List.getElem?_take, if_pos h6]
        exact this
      · rw [List.getElem?_append_right (by simp; omega), List.getElem?_drop]
        simp only [List.length_append, List.length_take]
        rw [← this]
        congr 1
        omega
/-- append of all elements to an empty row. -/
theorem fb_append0 (sid xid m : Nat) (get2 : Nat → List SV) {ops : List Oper} {i : Nat} {o : Oper} {r : List Oper} {Q : Exit → Act → World → Prop} {Kn : St → Prop} {Kp : List PanicEntry → St → Prop}
    {t e : TypeId} {ti te : TI} {s x : Operand} {c : Call} {d : Nat} (hX : X.Ok) (hC : Cont X Q Kn Kp) (hi : ops.drop i = o :: r)
    (hc : o.op = .call c) (hcl : c.callee = .builtin .append) (hca : c.args = #[s, x]) (hct : c.argTypes = #[t, t]) (hg : o.guard = none) (hdst : o.dst = some d) (hp : putN st.gs X.nt (some d) = false)
    (ht : X.T t = some ti) (hd : ti.desc = .slice e) (hte : X.T e = some te) (hzs : te.zero.cells.size = te.size) (hpos : 0 < te.size) (hby : te.bytes ≤ 1000)
    (h1 : ev (findF st.F) [] s = some (.sl sid)) (h2 : ev (findF st.F) [] x = some (.sl xid)) (h3 : findH st.H sid = some (.row e te.size 0 [])) (h4 : sliceOf te.size (findH st.H) xid = some (m, get2)) (hne : sid ≠ xid)
    (hnm : m ≤ 1000000)
    (h : stK st fun F gs H nx D => natF (nx + 1) fun nx' => execL X ops Q Kn Kp (i + 1) r ⟨(d, ⟨[], .sl nx⟩) :: F, gs, (nx, .vec e te.size m get2) :: (sid, .dead) :: (sid, .vec e te.size 0 get2) :: H, nx', D⟩) : FbO X ops Q Kn Kp i o r st := by
  rw [stK_eq] at h
  refine fb_row sid e te.size 0 [] get2 h3 (fun i hi => absurd hi (by omega)) ?_
  rw [stK_eq]
  refine fb_append (Te := 0) sid xid 0 m get2 get2 get2 hX hC hi hc hcl hca hct hg hdst hp ht hd hte hzs hpos hby h1 h2 (by simp [findH]) ?_ (by omega) (fun i hi => by simp) ?_
  · have : findH ((sid, HB.vec e te.size 0 get2) :: st.H) xid = findH st.H xid := by rw [findH_cons, updL_ne _ _ hne]
    unfold sliceOf at h4 ⊢
    rw [this]; exact h4
  · rw [stK_eq, Nat.zero_add]
    exact h
end
end Go.X
end

section
set_option linter.unusedVariables false
set_option linter.unusedSimpArgs false
set_option linter.unusedSectionVars false
/- Guarded operations that the executor has no arm for: run as if unguarded, or passed over. -/
set_option linter.unusedVariables false
set_option linter.unusedSimpArgs false
set_option maxRecDepth 10000
namespace Go.X
open Go

def subG : GP → GP → Bool
  | [], _ => true
  | (s, w) :: r, π => (match memGP π s w with
    | true => subG r π
    | false => false)
where memGP : GP → Nat → Bool → Bool
  | [], _, _ => false
  | (t, v) :: r, s, w => match Nat.beq t s, v == w with
    | true, true => true
    | _, _ => memGP r s w
theorem memGP_ok : ∀ {π : GP} {s : Nat} {w : Bool}, subG.memGP π s w = true → (s, w) ∈ π
  | (t, v) :: r, s, w, h => by
    simp only [subG.memGP] at h
    split at h
    · rename_i h1 h2
      have h1 : t = s := by simpa using h1
      have h2 : v = w := by simpa using h2
      subst h1; subst h2
      exact List.mem_cons_self
    · exact List.mem_cons_of_mem _ (memGP_ok h)
theorem subG_ok : ∀ {σ π : GP}, subG σ π = true → ∀ x ∈ σ, x ∈ π
  | (s, w) :: r, π, h, x, hx => by
    simp only [subG] at h
    split at h
    · rename_i h1
      rcases List.mem_cons.1 hx with rfl | hx
      · exact memGP_ok h1
      · exact subG_ok h x hx
    · cases h
/-- Do the guards hold, as far as the state tells? -/
def satGP (F : LF) : GP → Prop
  | [] => True
  | (s, w) :: r => satGP F r ∧ match F s with
    | some ⟨gp, .sb q⟩ => subG gp r = true ∧ q = w
    | _ => False
theorem satGP_ok {ρ : Env} {F : LF} {a : Act} (hF : FM ρ F a) : ∀ {π : GP}, satGP F π → GPsat a π
  | [], _ => fun x hx => by cases hx
  | (s, w) :: r, h => by
    obtain ⟨h1, h2⟩ := h
    have hr := satGP_ok hF h1
    split at h2
    · rename_i gp q e
      obtain ⟨h3, rfl⟩ := h2
      obtain ⟨v, h4, h5⟩ := (hF s _ e).1 (fun x hx => hr x (subG_ok h3 x hx))
      simp only [den, Option.some.injEq] at h5
      subst h5
      intro x hx
      rcases List.mem_cons.1 hx with rfl | hx
      · exact h4
      · exact hr x hx
    · exact h2.elim

section
variable {X : Cx} {st : St} {F : Fence} {n : Nat} {P : Program} {Q : Exit → Act → World → Prop}

/-- One operation: o, from the executor's arm. -/
theorem fb_again {X : Cx} {st : St} (hX : X.Ok) {ops : List Oper} {i : Nat} {o : Oper} {r : List Oper} {Q : Exit → Act → World → Prop} {K : St → Prop} {Kp : List PanicEntry → St → Prop} (hC : Cont X Q K Kp) (hi : ops.drop i = o :: r)
    (h : execL X ops Q K Kp i (o :: r) st) : FbO X ops Q K Kp i o r st := by
  refine ⟨fun ρ a w hm => ?_⟩
  exact execL_ok hX hC.k hC.p (o :: r) i ρ st a w hi h hm

end
end Go.X
end

section
set_option linter.unusedVariables false
set_option linter.unusedSimpArgs false
set_option linter.unusedSectionVars false
/- Functions with a deferred answer that hold a range over a function. -/
set_option linter.unusedVariables false
set_option linter.unusedSimpArgs false
set_option maxRecDepth 10000
namespace Go.X
open Go
section
variable {X : Cx} {st : St} {ρ : Env} {a : Act} {w : World}

end
end Go.X
end

section
set_option linter.unusedVariables false
set_option linter.unusedSimpArgs false
set_option linter.unusedSectionVars false
/- Functions that hold a range over a function, run through in place. -/
set_option linter.unusedVariables false
set_option linter.unusedSimpArgs false
set_option maxRecDepth 10000
namespace Go.X
open Go

theorem callS_execM {P : Program} {T : Tab} {C : Nat → Option Ct} (hX : ∀ G r nt, (⟨P, T, C, G, r, nt⟩ : Cx).Ok) {n : Nat} {fn : Func} {c : Code} (hf : P.funcs[n]? = some fn) (hb : fn.body = some c)
    {l : List SV} (hlen : l.length ≤ fn.ntmps) {H : List (Nat × HB)} {nx : Nat} {Rv : SV → List (Nat × HB) → Nat → Prop} {Rp : List PanicEntry → List (Nat × HB) → Nat → Prop}
    (h : ∀ G : Base, (∀ j, nx ≤ j → G.ρ j = none) → exec ⟨P, T, C, G, none, fn.ntmps⟩ c (start l H nx) (FinM ⟨P, T, C, G, none, fn.ntmps⟩ fn.results.toList (fun v st => Rv v st.H st.nx) (fun ch st => Rp ch st.H st.nx))) :
    CallS P n l H nx Rv Rp := by
  intro ρ w vals hm hnx hd
  have hcall := calls_of_execM (X := ⟨P, T, C, ⟨w, Own ρ (findH H), ρ, Fz (findH H)⟩, none, fn.ntmps⟩) (hX _ _ _) rfl hf hb rfl hd hlen hm rfl hnx (fun x _ => by cases x with | tmp t => exact ⟨t, .inl rfl⟩ | cell t ty => exact ⟨t, .inr ⟨ty, rfl⟩⟩) (h _ hnx)
  refine hcall.mono ?_
  rintro e w' (⟨v, st, ρ', u, rfl, hv, hmh, hr⟩ | ⟨ch, st, ρ', rfl, hmh, hr⟩)
  · exact .inl ⟨v, st.H, st.nx, ρ', u, rfl, hv, hmh.hm, hmh.kp, hmh.nx, hr⟩
  · exact .inr ⟨ch, st.H, st.nx, ρ', rfl, hmh.hm, hmh.kp, hmh.nx, hr⟩

/-- So of each slot. -/
def allV (p : Nat → SV → Prop) : List (Nat × SV) → Prop
  | [] => True
  | (t, v) :: r => p t v ∧ allV p r
theorem allV_find {p : Nat → SV → Prop} : ∀ {l : List (Nat × SV)}, allV p l → ∀ t v, findV l t = some v → p t v
  | [], _, t, v, h => by cases h
  | (s, u) :: r, ha, t, v, h => by
    simp only [findV] at h
    split at h
    · rename_i e
      have e : s = t := by simpa using e
      subst e; cases h
      exact ha.1
    · exact allV_find ha.2 t v h

/-! ### Pieces that are handed on -/
def allP (p : Nat → HB → Prop) : List (Nat × HB) → Prop
  | [] => True
  | (c, h) :: r => p c h ∧ allP p r
theorem allP_get {p : Nat → HB → Prop} : ∀ {l : List (Nat × HB)}, allP p l → ∀ (j c : Nat) (h : HB), l[j]? = some (c, h) → p c h
  | (c', h') :: r, ha, 0, c, h, hj => by simp at hj; obtain ⟨rfl, rfl⟩ := hj; exact ha.1
  | (c', h') :: r, ha, j + 1, c, h, hj => allP_get ha.2 j c h (by simpa using hj)
def ownT : HB → Option Nat
  | .cells T _ => some T
  | .map _ _ => some 1000000
  | _ => none
def noT (T : Nat) : List (Nat × HB) → Bool
  | [] => true
  | (_, h) :: r => (match ownT h with
    | some U => (match Nat.beq T U with
      | true => false
      | false => noT T r)
    | none => noT T r)
def distT : List (Nat × HB) → Bool
  | [] => true
  | (_, h) :: r => (match ownT h with
    | some T => (match noT T r with
      | true => distT r
      | false => false)
    | none => distT r)
theorem noT_get : ∀ {T : Nat} {l : List (Nat × HB)}, noT T l = true → ∀ (j c : Nat) (h : HB), l[j]? = some (c, h) → ownT h ≠ some T
  | T, (c', h') :: r, hn, j, c, h, hj => by
    simp only [noT] at hn
    have key : noT T r = true ∧ ownT h' ≠ some T := by
      split at hn
      · rename_i U e
        split at hn
        · cases hn
        · rename_i e2
          refine ⟨hn, fun e3 => ?_⟩
          rw [e] at e3; cases e3
          simp at e2
      · rename_i e
        exact ⟨hn, by rw [e]; intro h; cases h⟩
    cases j with
    | zero => simp at hj; obtain ⟨rfl, rfl⟩ := hj; exact key.2
    | succ j => exact noT_get key.1 j c h (by simpa using hj)
theorem distT_get : ∀ {l : List (Nat × HB)}, distT l = true → ∀ (i j c c' : Nat) (h h' : HB) (T : Nat), i < j → l[i]? = some (c, h) → l[j]? = some (c', h') → ownT h = some T → ownT h' ≠ some T
  | (c₀, h₀) :: r, hd, i, j, c, c', h, h', T, hij, hi, hj, ho => by
    simp only [distT] at hd
    cases j with
    | zero => omega
    | succ j =>
      have hj : r[j]? = some (c', h') := by simpa using hj
      cases i with
      | zero =>
        simp at hi; obtain ⟨rfl, rfl⟩ := hi
        rw [ho] at hd
        dsimp only at hd
        split at hd
        · rename_i e; exact noT_get e j c' h' hj
        · cases hd
      | succ i =>
        have hi : r[i]? = some (c, h) := by simpa using hi
        have hd' : distT r = true := by
          split at hd
          · split at hd
            · exact hd
            · cases hd
          · exact hd
        exact distT_get hd' i j c c' h h' T (by omega) hi hj ho
theorem ownT_of {H : LH} {s : Nat → Nat} {c : Nat} {h h' : HB} (k : PieceOk H s c h) (k' : PieceOk H s c h') (o : ownP h = true) (o' : ownP h' = true) : ∃ T, ownT h = some T ∧ ownT h' = some T := by
  cases h <;> cases o <;> cases h' <;> cases o'
  · rename_i T cs T' cs'
    have k : H c = some (.cells T (renL s cs)) := k
    have k' : H c = some (.cells T' (renL s cs')) := k'
    rw [k] at k'
    simp only [Option.some.injEq, HB.cells.injEq] at k'
    exact ⟨T, rfl, by rw [k'.1]; rfl⟩
  · have k : H c = _ := k
    have k' : H c = _ := k'
    rw [k] at k'
    cases k'
  · have k : H c = _ := k
    have k' : H c = _ := k'
    rw [k] at k'
    cases k'
  · exact ⟨_, rfl, rfl⟩
theorem hand_mk {H : LH} {ps : List (Nat × HB)} (h1 : allP (fun c h => PieceOk H (sigP ps) c h) ps) (h2 : allP (fun _ h => InHB (fun i => i < ps.length) h) ps) (h3 : distT ps = true) : Hand H ps where
  ok := allP_get h1
  ids := allP_get h2
  inj i j c hb hb' e1 e2 o1 o2 := by
    obtain ⟨T, t1, t2⟩ := ownT_of (allP_get h1 i c hb e1) (allP_get h1 j c hb' e2) o1 o2
    rcases Nat.lt_trichotomy i j with h | h | h
    · exact absurd t2 (distT_get h3 i j c c hb hb' T h e1 e2 t1)
    · exact h
    · exact absurd t1 (distT_get h3 j i c c hb' hb T h e2 e1 t2)
end Go.X
end

section
set_option linter.unusedVariables false
set_option linter.unusedSimpArgs false
set_option linter.unusedSectionVars false
/- Loops in each round of which a function is ranged over: the marks that they leave. -/
set_option linter.unusedVariables false
set_option linter.unusedSimpArgs false
set_option maxRecDepth 10000
namespace Go.X
open Go

theorem findH_skip {a : Nat} {x : HB} {l : List (Nat × HB)} {t : Nat} (h : a ≠ t) : findH ((a, x) :: l) t = findH l t := by
  rw [findH_cons, updL_ne _ _ h]
theorem findH_app {A B : List (Nat × HB)} {t : Nat} : findH (A ++ B) t = match findH A t with
    | some x => some x
    | none => findH B t := by
  induction A with
  | nil => rfl
  | cons p r ih =>
    obtain ⟨a, x⟩ := p
    rw [List.cons_append]
    by_cases h : a = t
    · subst h; rw [findH_cons, updL_self, findH_cons, updL_self]
    · rw [findH_skip h, findH_skip h]; exact ih

section
variable {s s' : Nat → Nat} {n n' : Nat}
end

theorem apartI_id {t : Nat} : ∀ (H : List (Nat × HB)), apartI (fun j => j) t H = true
  | [] => rfl
  | (j, _) :: r => by
    simp only [apartI]
    cases Nat.beq t j <;> simp only [apartI_id r]
theorem injI_id : ∀ (H : List (Nat × HB)), injI (fun j => j) H = true
  | [] => rfl
  | (t, _) :: r => by simp only [injI, apartI_id, injI_id r]
theorem fixI_id : ∀ (n : Nat), fixI (fun j => j) n = true
  | 0 => rfl
  | n + 1 => by simp only [fixI, Nat.beq_refl, fixI_id n]
/-! ### Functions whose loops leave marks -/
section
variable {X : Cx} {st : St} {ρ : Env} {a : Act} {w : World}
end
end Go.X
end

section
set_option linter.unusedVariables false
set_option linter.unusedSimpArgs false
set_option linter.unusedSectionVars false
/- Calls that are run through without the marks that lie beside. -/
set_option linter.unusedVariables false
set_option linter.unusedSimpArgs false
set_option maxRecDepth 10000
namespace Go.X
open Go

end Go.X
end

section
set_option linter.unusedVariables false
set_option linter.unusedSimpArgs false
set_option linter.unusedSectionVars false
/- Regions whose order Go leaves open: operations that look at slots only are taken first, the rest step by step. -/
set_option linter.unusedVariables false
set_option linter.unusedSimpArgs false
set_option maxRecDepth 10000
namespace Go.X
open Go

def Qnp (X : Cx) (K : Ex → St → Prop) : Exit → Act → World → Prop := fun e a w => match e with
  | .panic _ => False
  | e => Qof X K e a w
/-- What is left to do, from a state, when some operations have run. -/
structure AnyS (X : Cx) (ops : Array Oper) (fuel : Nat) (listed : Array Bool) (st : St) (K : Ex → St → Prop) : Prop where
  h : ∀ ρ a w, Mod X ρ st a w → wpAnyIn (FW X.r) 0 X.P .any ops (Qnp X K) fuel listed a w

theorem any_region {X : Cx} {st : St} {K : Ex → St → Prop} {id : Nat} {ops : Array Oper} (hm : X.P.follows .mixedOrders = true) (h : AnyS X ops ops.size (Array.replicate ops.size false) st K) : SemC X (.region id ops true) st K := by
  intro ρ a w hmod
  have hmod' : Mod X ρ st a { w with drawn := w.drawn + 1 } := {
    fm := hmod.fm, gs := hmod.gs, df := hmod.df, hm := hmod.hm.world (Nat.le_refl _) (fun _ _ => rfl), kp := hmod.kp.world (Nat.le_refl _) (fun _ _ => rfl), nx := hmod.nx, sz := hmod.sz }
  refine wpIn_mono (Q := Qnp X K) (wpIn_region_any hm (h.h ρ a _ hmod')) ?_
  intro e a' w' hq
  cases e <;> first | exact hq | exact hq.elim

theorem any_done {X : Cx} {st : St} {K : Ex → St → Prop} {ops : Array Oper} {fuel : Nat} {listed : Array Bool} (hr : Region.ready .any ops listed = []) (h : K .normal st) : AnyS X ops fuel listed st K :=
  ⟨fun ρ a w hm => wpAnyIn_done hr ⟨.normal, st, ρ, rfl, hm, h⟩ fuel⟩

theorem any_take {X : Cx} {st : St} {K : Ex → St → Prop} (i : Nat) {d : Nat} {o : Oper} {pre : Option Prop} {v : SV} {ops : Array Oper} {fuel : Nat} {listed : Array Bool} (hX : X.Ok) (hr : X.r = none) (ho : ops[i]? = some o) (hd : o.dst = some d) (hg : o.guard = none)
    (hc : core X.T (findF st.F) [] (fun _ => none) st.nx o.op = some ⟨pre, v, .no⟩) (hnc : isCall o.op = none) (hp : putN st.gs X.nt (some d) = false) (hs : Region.noSelect ops = true) (hf : Region.free .any ops listed i = true)
    (hrd : (Region.ready .any ops listed).contains i = true)
    (h : ChkO pre (stK st fun F gs H nx D => fSV v fun v' => AnyS X ops fuel (listed.setIfInBounds i true) ⟨(d, ⟨[], v'⟩) :: F, gs, H, nx, D⟩ K)) : AnyS X ops (fuel + 1) listed st K := by
  refine ⟨fun ρ a w hm => ?_⟩
  have hsat : GPsat a [] := fun x hx => by cases hx
  have hHρ : ∀ w : World, HM ρ (fun _ => none) w := fun w => {
    ok := fun _ _ h => by cases h
    sep := fun _ _ _ _ _ _ _ h => by cases h
    ro := fun _ _ _ _ _ _ h => by cases h
    fam := fun _ ⟨_, _, _, _, _, _, h, _⟩ => by cases h }
  have hk := ChkO_k h
  rw [stK_eq, fSV_eq] at hk
  -- core's word in whatever world
  have hall : ∀ w : World, ∃ u, (execOp a.eval o).run X.P w = .ok (.value u) w ∧ den ρ v = some u := fun w => by
    exact core_ok hX.tab hm.fm hsat (hHρ w) (hm.nx _ (Nat.le_refl _)) hc (ChkO_pre h)
  obtain ⟨u, _, hu⟩ := hall w
  have hy : YieldsFenced X.P ops o u a := by
    refine ⟨.inl ⟨guard_none hg _, fun w => ?_⟩, fun w => ?_⟩
    · obtain ⟨u', h1, h2⟩ := hall w
      rw [hu] at h2; cases h2
      exact h1
    · unfold Oper.about
      cases hop : o.op <;> first | rfl | (rw [hop] at hnc; cases hnc)
  refine wpAnyIn_take (by rw [FW_round, hr]) ho hs hf hrd (fun c a w h => h) hy ?_
  rw [hd]
  exact hk.h ρ _ w (hm.put hp hu)

/-- One operation, whichever is ready. -/
def Qst (X : Cx) (ops : Array Oper) (fuel : Nat) (listed : Array Bool) (K : Ex → St → Prop) : Exit → Act → World → Prop := fun e a w => match e with
  | .normal => wpAnyIn (FW X.r) 0 X.P .any ops (Qnp X K) fuel listed a w
  | e => Qnp X K e a w
theorem cont_any {X : Cx} {ops : Array Oper} {fuel : Nat} {listed : Array Bool} {K : Ex → St → Prop} : Cont X (Qst X ops fuel listed K) (fun st => AnyS X ops fuel listed st K) (fun _ _ => False) where
  k ρ' st' a' w' hm' hk := hk.h ρ' a' w' hm'
  p ch ρ' st' a' w' hm' hk := hk.elim
def stepsK (X : Cx) (ops : Array Oper) (fuel : Nat) (listed : Array Bool) (st : St) (K : Ex → St → Prop) : List Nat → Prop
  | [] => True
  | i :: r => (match nth ops.toList i with
    | some o => (match o.guard with
      | none => execL X [o] (Qst X ops fuel (listed.setIfInBounds i true) K) (fun st' => AnyS X ops fuel (listed.setIfInBounds i true) st' K) (fun _ _ => False) 0 [o] st
      | some _ => False)
    | none => False) ∧ stepsK X ops fuel listed st K r
theorem stepsK_ok {X : Cx} {ops : Array Oper} {fuel : Nat} {listed : Array Bool} {st : St} {K : Ex → St → Prop} (hX : X.Ok) : ∀ {l : List Nat}, stepsK X ops fuel listed st K l → ∀ i ∈ l, ∀ ρ a w, Mod X ρ st a w →
    wpOpIn (FW X.r) 0 X.P ops (Qnp X K) i (wpAnyIn (FW X.r) 0 X.P .any ops (Qnp X K) fuel (listed.setIfInBounds i true)) a w
  | j :: r, h, i, hi, ρ, a, w, hm => by
    rcases List.mem_cons.1 hi with rfl | hi
    · have h1 := h.1
      split at h1
      · rename_i o e
        rw [nth_eq] at e
        have e : ops[i]? = some o := by simpa [Array.getElem?_toList] using e
        split at h1
        · rename_i hg
          have h2 := execL_ok hX (cont_any (X := X) (ops := ops) (fuel := fuel) (listed := listed.setIfInBounds i true) (K := K)).k cont_any.p [o] 0 ρ st a w rfl h1 hm
          have h2 : wpOpsIn (FW X.r) 0 X.P #[o] (Qst X ops fuel (listed.setIfInBounds i true) K) [0] a w := h2
          simp only [wpOpsIn] at h2
          have hw0 : ∀ y, Region.wanted o y = true := fun y => guard_none hg y
          simp only [List.getElem?_toArray, List.getElem?_cons_zero, hw0, if_true] at h2
          unfold wpOpIn
          simp only [e, hw0, if_true]
          have h3 : Oper.wpIn (FW X.r) 0 X.P o a w (wpAnyIn (FW X.r) 0 X.P .any ops (Qnp X K) fuel (listed.setIfInBounds i true)) (Qst X ops fuel (listed.setIfInBounds i true) K) := h2
          unfold Oper.wpIn at h3 ⊢
          refine ⟨h3.1, ?_⟩
          have h4 := h3.2
          generalize (o.semAt (FW X.r).round a.eval).run X.P w = res at h4 ⊢
          cases res with
          | ok x w' => cases x <;> exact h4
          | halt x w' => cases x <;> exact h4
        · exact h1.elim
      · exact h1.elim
    · exact stepsK_ok hX h.2 i hi ρ a w hm
theorem any_step {X : Cx} {st : St} {K : Ex → St → Prop} {ops : Array Oper} {fuel : Nat} {listed : Array Bool} (rs : List Nat) (hX : X.Ok) (hr : Region.ready .any ops listed = rs) (hne : rs ≠ []) (h : stepsK X ops fuel listed st K rs) : AnyS X ops (fuel + 1) listed st K :=
  ⟨fun ρ a w hm => wpAnyIn_all hr hne fun i hi => stepsK_ok hX h i hi ρ a w hm⟩
end Go.X
end

section
set_option linter.unusedVariables false
set_option linter.unusedSimpArgs false
set_option linter.unusedSectionVars false
/- A part of a slice is copied into a part of a slice of our own. -/
set_option linter.unusedVariables false
set_option linter.unusedSimpArgs false
set_option maxRecDepth 10000
namespace Go.X
open Go
section
variable {X : Cx} {st : St}

end
end Go.X
end

section
set_option linter.unusedVariables false
set_option linter.unusedSimpArgs false
set_option linter.unusedSectionVars false
/- Calls: from a part of the heap, and with an empty slice as a piece. -/
set_option linter.unusedVariables false
set_option linter.unusedSimpArgs false
set_option maxRecDepth 10000
namespace Go.X
open Go

theorem envR_id {ρ : Env} {n : Nat} (h : ∀ j, n ≤ j → ρ j = none) : envR ρ (fun j => j) n = ρ := by
  funext j
  unfold envR
  split
  · rfl
  · rename_i hj
    exact (h j (by omega)).symm

/-- A call needs a part of the heap only. -/
theorem callS_sub {P : Program} {n : Nat} {l : List SV} {H : List (Nat × HB)} {nx : Nat} {Rv : SV → List (Nat × HB) → Nat → Prop} {Rp : List PanicEntry → List (Nat × HB) → Nat → Prop} (A : List (Nat × HB)) (hA : weakRH (fun j => j) nx H A)
    (h : CallS P n l A nx Rv Rp) : CallS P n l H nx Rv Rp := by
  intro ρ w vals hm hnx hd
  have he := envR_id hnx
  have hmA : HM ρ (findH A) w := {
    ok := fun id hb hf => by
      obtain ⟨h1, hc, h2, h3⟩ := weakRH_ok hA id hb hf
      obtain ⟨nm, h4, h5⟩ := hm.ok _ _ h2
      exact ⟨nm, h4, by rw [← he]; exact lessHB_ok h3 h5⟩
    sep := fun i j x y n₁ n₂ b h1 h2 l1 l2 r1 r2 o1 o2 => by
      obtain ⟨a1, c1, a2, a3⟩ := weakRH_ok hA i x h1
      obtain ⟨b1, c2, b2, b3⟩ := weakRH_ok hA j y h2
      exact hm.sep _ _ c1 c2 n₁ n₂ b a2 b2 (lessHB_live a3 l1) (lessHB_live b3 l2) r1 r2 o1 o2
    ro := fun j size m get nm b hf hm' hr hb ho => by
      obtain ⟨a1, c1, a2, a3⟩ := weakRH_ok hA j _ hf
      obtain ⟨g', rfl⟩ := lessHB_ro a3
      refine hm.ro _ size m g' nm b a2 hm' hr hb ?_
      obtain ⟨id, x, nm', h1, h2, h3, h4⟩ := ho
      obtain ⟨b1, c2, b2, b3⟩ := weakRH_ok hA id x h1
      exact ⟨_, c2, nm', b2, lessHB_live b3 h2, h3, h4⟩
    fam := fun b hz ho => by
      refine hm.fam b (weakRH_fz hA hz) ?_
      obtain ⟨id, x, nm', h1, h2, h3, h4⟩ := ho
      obtain ⟨b1, c2, b2, b3⟩ := weakRH_ok hA id x h1
      exact ⟨_, c2, nm', b2, lessHB_live b3 h2, h3, h4⟩ }
  have hown : ∀ b, Own ρ (findH A) b → Own ρ (findH H) b := fun b ⟨id, x, nm', h1, h2, h3, h4⟩ => by
    obtain ⟨b1, c2, b2, b3⟩ := weakRH_ok hA id x h1
    exact ⟨_, c2, nm', b2, lessHB_live b3 h2, h3, h4⟩
  have hk : ∀ {ρ' : Env} {H' : LH} {w' : World}, Keep ⟨w, Own ρ (findH A), ρ, Fz (findH A)⟩ ρ' H' w' → Keep ⟨w, Own ρ (findH H), ρ, Fz (findH H)⟩ ρ' H' w' := fun k =>
    { str := k.str, size := k.size, same := fun b hb hn => k.same b hb fun ho => hn (hown b ho), own := fun b ho => (k.own b ho).imp (hown b) id, ext := k.ext, fz := fun b hz => (k.fz b hz).imp (hown b) (Or.imp id (weakRH_fz hA)) }
  refine (h ρ w vals hmA hnx hd).mono ?_
  rintro e w' (⟨v, H', nx', ρ', u, rfl, h1, h2, h3, h4, h5⟩ | ⟨ch, H', nx', ρ', rfl, h2, h3, h4, h5⟩)
  · exact .inl ⟨v, H', nx', ρ', u, rfl, h1, h2, hk h3, h4, h5⟩
  · exact .inr ⟨ch, H', nx', ρ', rfl, h2, hk h3, h4, h5⟩

/-- A slice that is nil may be handed over as an empty piece. -/
theorem callS_nil {P : Program} {n : Nat} {l l' : List SV} {H : List (Nat × HB)} {nx : Nat} {Rv : SV → List (Nat × HB) → Nat → Prop} {Rp : List PanicEntry → List (Nat × HB) → Nat → Prop} (T s : Nat) (g : Nat → List SV)
    (hl : ∀ ρ : Env, ρ nx = some (.sl none 0 0 s) → ∀ vals, denL ρ l = some vals → denL ρ l' = some vals)
    (h : CallS P n l' ((nx, .vec T s 0 g) :: H) (nx + 1) Rv Rp) : CallS P n l H nx Rv Rp := by
  intro ρ w vals hm hnx hd
  have hf := hnx nx (Nat.le_refl _)
  have hext : Ext ρ (upd ρ nx (.sl none 0 0 s)) := Ext.upd _ hf
  have hm2 : HM (upd ρ nx (.sl none 0 0 s)) (findH ((nx, .vec T s 0 g) :: H)) w := by
    rw [findH_cons]
    refine hm.add (g := w.heap.size) hf (Nat.le_refl _) (fun k _ _ => rfl) (fun ho => Nat.lt_irrefl _ (hm.lt ho)) ?_ ⟨rfl, rfl, rfl, rfl, rfl⟩ (fun b hb => by cases hb) rfl (fun hz => Nat.lt_irrefl _ (hm.fz_lt hz))
    intro j size m get nm h1 h2 h3 h4
    obtain ⟨nm', h5, h6⟩ := hm.ok _ _ h1
    rw [h3] at h5; cases h5
    cases nm <;> simp only [HBok] at h6
    obtain ⟨_, _, _, h7⟩ := h6
    obtain ⟨ad, rfl, h8, _⟩ := h7 h2
    simp only [roBlock, Option.some.injEq] at h4
    omega
  have hown : ∀ b, Own (upd ρ nx (.sl none 0 0 s)) (findH ((nx, .vec T s 0 g) :: H)) b → Own ρ (findH H) b := fun b ⟨id, x, nm', h1, h2, h3, h4⟩ => by
    rw [findH_cons] at h1
    by_cases e : nx = id
    · subst e
      have : upd ρ nx (.sl none 0 0 s) nx = some (.sl none 0 0 s) := by simp [upd]
      rw [this] at h3; cases h3
      cases h4
    · rw [updL_ne _ _ e] at h1
      exact ⟨id, x, nm', h1, h2, by rw [← h3]; simp [upd, Ne.symm e], h4⟩
  have hk : ∀ {ρ' : Env} {H' : LH} {w' : World}, Keep ⟨w, Own (upd ρ nx (.sl none 0 0 s)) (findH ((nx, .vec T s 0 g) :: H)), upd ρ nx (.sl none 0 0 s), Fz (findH ((nx, .vec T s 0 g) :: H))⟩ ρ' H' w' → Keep ⟨w, Own ρ (findH H), ρ, Fz (findH H)⟩ ρ' H' w' := fun k =>
    { str := k.str, size := k.size, same := fun b hb hn => k.same b hb fun ho => hn (hown b ho), own := fun b ho => (k.own b ho).imp (hown b) id, ext := hext.trans k.ext, fz := fun b hz => (k.fz b hz).imp (hown b) (Or.imp id fun h => by rw [findH_cons] at h; exact h.upd fun s C h => by cases h) }
  refine (h _ w vals hm2 (fun j hj => by
    have : j ≠ nx := by omega
    simp only [upd, if_neg this]
    exact hnx j (by omega)) (hl _ (by simp [upd]) vals (denL_ext hext _ _ hd))).mono ?_
  rintro e w' (⟨v, H', nx', ρ', u, rfl, h1, h2, h3, h4, h5⟩ | ⟨ch, H', nx', ρ', rfl, h2, h3, h4, h5⟩)
  · exact .inl ⟨v, H', nx', ρ', u, rfl, h1, h2, hk h3, h4, h5⟩
  · exact .inr ⟨ch, H', nx', ρ', rfl, h2, hk h3, h4, h5⟩
end Go.X
end
