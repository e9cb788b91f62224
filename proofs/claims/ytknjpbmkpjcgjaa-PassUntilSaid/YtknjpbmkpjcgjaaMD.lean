/- The symbolic executor, continued: guarded calls, marks of ranges over functions, regions step by step, copies of parts, calls from a part of the heap. -/
import Derived.Test.YtknjpbmkpjcgjaaMC
import Derived.OrdersIn

section
set_option linter.unusedVariables false
set_option linter.unusedSimpArgs false
set_option linter.unusedSectionVars false
/- Regions whose order Go leaves open, run through in each order. -/
set_option linter.unusedVariables false
set_option linter.unusedSimpArgs false
set_option linter.unusedSectionVars false
namespace Go.X
open Go

def extsA (ready : Array Bool → List Nat) : Nat → Array Bool → List (List Nat)
  | 0, _ => [[]]
  | n + 1, listed => match ready listed with
    | [] => [[]]
    | x :: r => (x :: r).flatMap fun i => (extsA ready n (listed.setIfInBounds i true)).map (i :: ·)
def readyA (ops : Array Oper) (listed : Array Bool) : List Nat := (List.range ops.size).filter fun i =>
  !listed.getD i true && ((ops[i]?).map (·.after.all fun e => !Region.binds .any e || listed.getD e.on false)).getD false
def exts (ops : Array Oper) : List (List Nat) := extsA (readyA ops) ops.size (Array.replicate ops.size false)

theorem go_acc (md : Region.Mode) (ops : Array Oper) : ∀ (fuel t : Nat) (listed : Array Bool) (acc : List Nat), Region.linearise.go md ops fuel t listed acc = acc.reverse ++ Region.linearise.go md ops fuel t listed []
  | 0, t, listed, acc => by simp [Region.linearise.go]
  | fuel + 1, t, listed, acc => by
    simp only [Region.linearise.go]
    split
    · rename_i i _
      rw [go_acc md ops fuel _ _ (i :: acc), go_acc md ops fuel _ _ [i]]
      simp
    · simp

theorem go_mem (ops : Array Oper) : ∀ (fuel t : Nat) (listed : Array Bool), Region.linearise.go .any ops fuel t listed [] ∈ extsA (readyA ops) fuel listed
  | 0, t, listed => by simp [Region.linearise.go, extsA]
  | fuel + 1, t, listed => by
    simp only [Region.linearise.go, extsA]
    have e : ((List.range ops.size).filter fun i => !listed.getD i true && ((ops[i]?).map (·.after.all fun e => !Region.binds .any e || listed.getD e.on false)).getD false) = readyA ops listed := rfl
    rw [e]
    generalize readyA ops listed = rs
    cases rs with
    | nil => simp
    | cons x r =>
      have hlt : t % (x :: r).length < (x :: r).length := Nat.mod_lt _ (by simp)
      rw [List.getElem?_eq_getElem hlt]
      simp only
      rw [go_acc]
      simp only [List.reverse_cons, List.reverse_nil, List.nil_append, List.singleton_append]
      refine List.mem_flatMap.2 ⟨(x :: r)[t % (x :: r).length], List.getElem_mem hlt, ?_⟩
      exact List.mem_map.2 ⟨_, go_mem ops fuel _ _, rfl⟩

def permK (ops : List Oper) : List Nat → (List Oper → Prop) → Prop
  | [], k => k []
  | i :: r, k => match nth ops i with
    | some o => permK ops r fun l => k (o :: l)
    | none => False
theorem permK_ok {ops : List Oper} : ∀ {l : List Nat} {k : List Oper → Prop}, permK ops l k → ∃ m : List Oper, k m ∧ l.map (fun i => ops[i]?) = m.map some
  | [], k, h => ⟨[], h, rfl⟩
  | i :: r, k, h => by
    simp only [permK] at h
    split at h
    · rename_i o e
      obtain ⟨m, h1, h2⟩ := permK_ok h
      rw [nth_eq] at e
      exact ⟨o :: m, h1, by simp [e, h2]⟩
    · exact h.elim

def bare : List Oper → Bool
  | [] => true
  | o :: r => match o.guard with
    | none => bare r
    | some _ => false
theorem bare_ok : ∀ {l : List Oper}, bare l = true → ∀ o ∈ l, o.guard = none
  | [], _, o, h => by cases h
  | x :: r, h, o, ho => by
    simp only [bare] at h
    split at h
    · rename_i e
      rcases List.mem_cons.1 ho with rfl | ho
      · exact e
      · exact bare_ok h o ho
    · cases h

theorem perm_wp {F : Fence} {n : Nat} {P : Program} {ops : Array Oper} {Q : Exit → Act → World → Prop} (hb : ∀ o ∈ ops.toList, o.guard = none) : ∀ (l : List Nat) (pre m : List Oper) (a : Act) (w : World), l.map (fun i => ops[i]?) = m.map some →
    wpOpsIn F n P (pre ++ m).toArray Q (List.range' pre.length l.length) a w → wpOpsIn F n P ops Q l a w
  | [], pre, m, a, w, hm, h => h
  | i :: r, pre, [], a, w, hm, h => by simp at hm
  | i :: r, pre, o :: m, a, w, hm, h => by
    simp only [List.map_cons, List.cons.injEq] at hm
    obtain ⟨h1, h2⟩ := hm
    have hg : o.guard = none := hb o (by
      have := Array.getElem?_eq_some_iff.1 h1
      obtain ⟨hlt, e⟩ := this
      rw [← e]; exact Array.getElem_mem_toList hlt)
    have e0 : (pre ++ o :: m).toArray[pre.length]? = some o := by simp
    have e1 : List.range' pre.length (i :: r).length = pre.length :: List.range' (pre.length + 1) r.length := by simp [List.range'_succ]
    rw [e1] at h
    simp only [wpOpsIn, e0, h1] at h ⊢
    have hw : ∀ y, Region.wanted o y = true := fun y => by simp [Region.wanted, hg]
    simp only [hw, if_true] at h ⊢
    refine Oper.wpIn_mono (fun a w hk => ?_) h
    refine perm_wp hb r (pre ++ [o]) m a w h2 ?_
    simpa using hk

def allO : List (List Nat) → (List Nat → Prop) → Prop
  | [], _ => True
  | [x], k => k x
  | x :: r, k => k x ∧ allO r k
theorem allO_ok : ∀ {E : List (List Nat)} {k : List Nat → Prop}, allO E k → ∀ x ∈ E, k x
  | [], _, _, x, h => by cases h
  | [y], k, h, x, hx => by
    rcases List.mem_cons.1 hx with rfl | hx
    · exact h
    · cases hx
  | y :: z :: r, k, h, x, hx => by
    rcases List.mem_cons.1 hx with rfl | hx
    · exact h.1
    · exact allO_ok h.2 x hx

/-- Each order: one run through. -/
theorem orders_ok {X : Cx} (hX : X.Ok) (hm : X.P.follows .mixedOrders = true) {st : St} {K : Ex → St → Prop} {id : Nat} {ops : Array Oper} (hb : bare ops.toList = true) (E : List (List Nat)) (hE : exts ops = E)
    (h : allO E fun o => permK ops.toList o fun l => execL X l (Qof X K) (fun st => endRegion st (K .normal)) (fun ch st => K (.panic ch) st) 0 l st) : SemC X (.region id ops true) st K := by
  intro ρ a w hmod
  refine wpIn_region_draw fun t => ?_
  simp only [Region.schedule, hm, Bool.true_or, if_true]
  have hmem : Region.linearise .any ops t ∈ E := by rw [← hE]; exact go_mem ops ops.size t _
  obtain ⟨m, h1, h2⟩ := permK_ok (allO_ok h _ hmem)
  have hlen : m.length = (Region.linearise .any ops t).length := by
    have := congrArg List.length h2
    simpa using this.symm
  have hmod' : Mod X ρ st a { w with drawn := w.drawn + 1 } := {
    fm := hmod.fm, gs := hmod.gs, df := hmod.df, hm := hmod.hm.world (Nat.le_refl _) (fun _ _ => rfl), kp := hmod.kp.world (Nat.le_refl _) (fun _ _ => rfl), nx := hmod.nx, sz := hmod.sz }
  have := execL_ok hX (ops := m) (Q := Qof X K) (K := fun st => endRegion st (K .normal)) (Kp := fun ch st => K (.panic ch) st)
    (fun ρ' st' a' w' hm' hk => ⟨.normal, st', ρ', rfl, hm', by unfold endRegion at hk; split at hk <;> exact hk⟩)
    (fun ch ρ' st' a' w' hm' hk => ⟨.panic ch, st', ρ', rfl, hm', hk⟩) m 0 ρ st a { w with drawn := w.drawn + 1 } rfl h1 hmod'
  refine perm_wp (bare_ok hb) (Region.linearise .any ops t) [] m a _ ?_ ?_
  · simpa [Array.getElem?_toList] using h2
  · rw [← hlen]; exact this

/-! ### The row, from a run through -/
open Go.ChangeShapes Go.WideShapes Go.ChangeAt Go.RowKit

/-- What a statement's call comes to. -/
def LawEnd (P : Program) (f : Nat) (W : World) (vals : List Value) : Prop :=
  Calls P f vals.toArray W fun e W' => e = .returned (.bool true) ∧ W.heap.size ≤ W'.heap.size ∧ (∀ b, b < W.heap.size → W'.heap[b]? = W.heap[b]?) ∧ Str W W'

theorem LawEnd.of_opened {P : Program} {f : Nat} {W : World} {vals : List Value} (h : Opened P f W vals) : LawEnd P f W vals := by
  obtain ⟨ρ, L, l, fr, ct, pr, hk, hro, hfr, hd, hc, hp⟩ := h
  refine (hk ρ L W fr l vals _ hro.hm (fun j h1 _ => hfr j h1) hd hc hp).mono fun e W' hpost => ?_
  obtain ⟨ρ', v, rfl, hend⟩ := hpost
  have hv := hend.den
  simp only [den, Option.some.injEq] at hv
  subst hv
  exact ⟨rfl, hend.size, hend.same, hend.str⟩

theorem LawEnd.of_exec {P : Program} {T : Tab} {C : Nat → Option Ct} (hX : ∀ G r nt, (⟨P, T, C, G, r, nt⟩ : Cx).Ok) {f : Nat} {fn : Func} {c : Code} (hf : P.funcs[f]? = some fn) (hb : fn.body = some c) {W : World} {vals : List Value}
    {ρ : Env} {H : List (Nat × HB)} {nx : Nat} {l : List SV} (hro : RoH ρ (findH H) W) (hnx : ∀ j, nx ≤ j → ρ j = none) (hd : denL ρ l = some vals) (hlen : l.length ≤ fn.ntmps)
    (h : ∀ G : Base, (∀ j, nx ≤ j → G.ρ j = none) → exec ⟨P, T, C, G, none, fn.ntmps⟩ c (start l H nx) (Fin ⟨P, T, C, G, none, fn.ntmps⟩ fn.results.toList (fun v _ => SVeq v (.sb true)) (fun _ _ => False))) : LawEnd P f W vals := by
  have hcall := calls_of_exec (X := ⟨P, T, C, ⟨W, Own ρ (findH H), ρ, Fz (findH H)⟩, none, fn.ntmps⟩) (hX _ _ _) rfl hf hb rfl hd hlen hro.hm rfl hnx (h _ hnx)
  refine hcall.mono ?_
  rintro e w' (⟨v, st, ρ', u, rfl, hv, hmh, hr⟩ | ⟨ch, st, ρ', rfl, hmh, hr⟩)
  · rw [SVeq_eq _ _ hr] at hv
    simp only [den, Option.some.injEq] at hv
    subst hv
    exact ⟨rfl, hmh.kp.size, fun b hb => hmh.kp.same b hb hro.own, hmh.kp.str⟩
  · exact hr.elim

theorem row_law {H : Type} {enc : TypeId × Value → H} {C : Checked} {a : Assume} {os : Os} {f tb : Nat} {fn : Func} {s : ChangeSpec} {conds : List PathCond} (hl : laidOutB C.prog = true) (own : ownKnob C.prog.godebug = none) (started : os.Started) (noInit : C.prog.inits.idxOf? f = none)
    (hfn : C.prog.funcs[f]? = some fn)
    (witness : ∃ (w : World) (tape : Tape) (i : Input), w.os = os ∧ (w.forCall tape i).Shaped C.prog ∧ i.vars = [] ∧ Input.okWide C.prog (w.forCall tape i) .any w.heap.size f i ∧
      s.pre6 enc C.prog fn conds false (w.forCall tape i).memory i.args ∧ a.holds C.prog (lone (Frame.enter C.prog f i.args .normal) [] (w.forCall tape i)))
    (hvars : s.vars = []) (hres : fn.resultTypes = #[tb]) (htb : C.prog.underlying tb = some .bool) (hread : (fn.params.toList.all fun t => C.prog.readableRec t && decide (t < C.prog.types.size)) = true)
    (hspec : ∀ ds : List (DataW H), ds.length = fn.params.toList.length → s.fn H (ds ++ []) = { results := [.lit (.bool true)], args := ds })
    (hw : ∀ (W : World) (base : Nat) (args : Array Value) (ds : List (DataW H)) (p : List MemPlace), (∀ (j : Nat) t v, fn.params[j]? = some t → args[j]? = some v → Value.okWide C.prog W .any base t v) →
      DataW.TrodAll enc C.prog W 0 (fun _ => true) true fn.params.toList args.toList ds p → LawEnd C.prog f W args.toList) :
    ReturnsInHanded a C os f .any (s.pre6 enc C.prog fn conds false) (s.post enc C.prog fn false true false false) := by
  refine returnsInHanded_of_change own started noInit hfn witness ?_
  intro W base args ds gs before hval hW hcnd _
  have hW' := hW
  obtain ⟨p, q, hA, hV, rfl, hfz, hnd⟩ := hW
  rw [hvars] at hV
  obtain ⟨rfl, rfl⟩ := trodVars_none hV
  refine (hw W base args ds p hval hA).mono fun e W' hpost => ?_
  obtain ⟨rfl, hsz, hsm, hstr⟩ := hpost
  have hsame : ∀ p' ∈ p, W.sameAt W' p' := by
    intro p' hp'
    have hlt := trodAll_lt hA p' hp'
    cases p' with
    | cell b o => exact World.cell?_of_block (w := W) (hsm b hlt)
    | map b => exact hsm b hlt
  have hs := hspec ds (by simpa using trodAll_length hA)
  refine ⟨_, rfl, ds, [], p ++ [], [], p, [], hW', ?_, ?_, ?_, ?_, fun h => by cases h⟩
  · rw [hs, hres]
    exact trodAll_mk1 (shut_bool htb _)
  · rw [hs]
    refine trodAll_carry hl (fun t ht => ?_) hA hsame (fun x hx => by simpa using trodAll_lt hA x hx)
    have := List.all_eq_true.1 hread t ht
    simpa using this
  · rw [hs, hvars]
    rfl
  · refine ⟨hstr.1, hstr.2, fun i hi => ?_⟩
    rw [hsm i hi]
    split <;> simp_all

/-! ### Several slices that came in -/
def numbH : Nat → List (HB × Nm) → List (Nat × HB)
  | _, [] => []
  | i, (hb, _) :: r => (i, hb) :: numbH (i + 1) r
def envH (L : List (HB × Nm)) : Env := fun j => (L[j]?).map (·.2)
theorem numbH_find : ∀ (L : List (HB × Nm)) (i j : Nat) (hb : HB), findH (numbH i L) j = some hb → i ≤ j ∧ ∃ nm, L[j - i]? = some (hb, nm)
  | [], i, j, hb, h => by cases h
  | (x, nm) :: r, i, j, hb, h => by
    simp only [numbH, findH] at h
    split at h
    · rename_i e
      have : i = j := by simpa using e
      subst this; cases h
      exact ⟨Nat.le_refl _, nm, by simp⟩
    · obtain ⟨h1, nm', h2⟩ := numbH_find r (i + 1) j hb h
      refine ⟨by omega, nm', ?_⟩
      have e : j - i = (j - (i + 1)) + 1 := by omega
      rw [e]; simpa using h2
theorem roH_of {L : List (HB × Nm)} {W : World} (h : ∀ p ∈ L, (∀ ρ, HBok ρ W p.1 p.2) ∧ p.2.owner = none) : RoH (envH L) (findH (numbH 0 L)) W := by
  intro id hb hf
  obtain ⟨_, nm, h1⟩ := numbH_find L 0 id hb hf
  rw [Nat.sub_zero] at h1
  have hm := h _ (List.mem_of_getElem? h1)
  exact ⟨nm, by simp [envH, h1], hm.1 _, hm.2⟩
theorem envH_none (L : List (HB × Nm)) (j : Nat) (h : L.length ≤ j) : envH L j = none := by simp [envH, List.getElem?_eq_none h]
end Go.X
end

section
set_option linter.unusedVariables false
set_option linter.unusedSimpArgs false
set_option linter.unusedSectionVars false
/- Slices: an element's cells stored into; a row is called a slice of our own. -/
set_option linter.unusedVariables false
set_option linter.unusedSimpArgs false
set_option linter.unusedSectionVars false
set_option maxRecDepth 10000
namespace Go.X
open Go

section
variable {X : Cx} {st : St}

/-- A row is called a slice of our own. -/
theorem fb_row (id Tr s n : Nat) (xs : List SV) (get : Nat → List SV) {ops : List Oper} {i : Nat} {o : Oper} {r : List Oper} {Q : Exit → Act → World → Prop} {K : St → Prop} {Kp : List PanicEntry → St → Prop}
    (h1 : findH st.H id = some (.row Tr s n xs)) (hg : ∀ i, i < n → (xs.drop (i * s)).take s = get i)
    (h : stK st fun F gs H nx D => FbO X ops Q K Kp i o r ⟨F, gs, (id, .vec Tr s n get) :: H, nx, D⟩) : FbO X ops Q K Kp i o r st := by
  rw [stK_eq] at h
  refine ⟨fun ρ a w hm => ?_⟩
  obtain ⟨nm, hn, hok⟩ := hm.hm.ok _ _ h1
  exact h.h ρ a w (hm.swap h1 rfl hn (row_vec hok hg) (fun _ _ _ h => by cases h))

theorem chunk_ne {i j s k off m : Nat} (h : i ≠ k) (hj : j < s) (hf : off + m ≤ s) : i * s + j < k * s + off ∨ k * s + off + m ≤ i * s + j := by
  rcases Nat.lt_or_gt_of_ne h with h1 | h1
  · left
    have : (i + 1) * s ≤ k * s := Nat.mul_le_mul_right _ h1
    rw [Nat.add_mul] at this; omega
  · right
    have : (k + 1) * s ≤ i * s := Nat.mul_le_mul_right _ h1
    rw [Nat.add_mul] at this; omega

/-- An element of a slice of our own is stored into. -/
theorem fb_storeV (id Tr s n : Nat) (k : Int) (off : Nat) (get get' : Nat → List SV) (cs : List SV) {v : SV} {ops : List Oper} {i : Nat} {o : Oper} {r : List Oper} {Q : Exit → Act → World → Prop} {Kn : St → Prop} {Kp : List PanicEntry → St → Prop}
    {t : TypeId} {ti : TI} {x y : Operand} (hX : X.Ok) (hC : Cont X Q Kn Kp) (hi : ops.drop i = o :: r) (hc : o.op = .store t x y) (hg : o.guard = none) (hdst : o.dst = none) (ht : X.T t = some ti)
    (h1 : ev (findF st.F) [] x = some (.se id k off)) (h2 : ev (findF st.F) [] y = some v) (h3 : findH st.H id = some (.vec Tr s n get)) (h4 : cellsS v = some cs) (h5 : cs.length = ti.size)
    (hk : 0 ≤ k ∧ k < (n : Int)) (hfit : off + cs.length ≤ s) (hg' : ∀ j, j < n → get' j = if j = k.toNat then setL (get j) off cs else get j)
    (h : stK st fun F gs H nx D => execL X ops Q Kn Kp (i + 1) r ⟨F, gs, (id, .vec Tr s n get') :: H, nx, D⟩) : FbO X ops Q Kn Kp i o r st := by
  rw [stK_eq] at h
  refine fb_sem hX hC hi (by rw [hc]; intro c h; cases h) hg fun ρ a w hm => ?_
  have hs : GPsat a [] := fun x hx => by cases hx
  have e1 := ev_ok hm.fm hs h1
  have e2 := ev_ok hm.fm hs h2
  obtain ⟨nm, hn, hok⟩ := hm.hm.ok _ _ h3
  obtain ⟨us, u1, u2, u3⟩ := cellsS_ok h4 e2
  have hul := denL_len u1
  cases nm <;> simp only [HBok] at hok
  · obtain ⟨rfl, rfl, rfl, rfl, rfl⟩ := hok
    omega
  rename_i b n' c s'
  obtain ⟨rfl, rfl, hcap, cells, c1, c2, c3⟩ := hok
  have hkn : k.toNat < n' := by omega
  have e1' : a.eval x = .pointer (some ⟨b, k.toNat * s' + off, none⟩) := by
    simp only [den, hn, if_pos hkn, Option.some.injEq] at e1
    exact e1.symm
  have hle : k.toNat * s' + s' ≤ n' * s' := by
    have : (k.toNat + 1) * s' ≤ n' * s' := Nat.mul_le_mul_right _ hkn
    rw [Nat.add_mul] at this; omega
  have hle2 : n' * s' ≤ c * s' := Nat.mul_le_mul_right _ hcap.1
  have hsv := storeVar_ok hX.tab ht (w := w) (nm := b) (off := k.toNat * s' + off) u3 (by omega) u2 c1 (by omega)
  have hrun : (execOp a.eval o).run X.P w = .ok .skip (w.setRow b (cells.take (k.toNat * s' + off) ++ us ++ cells.drop (k.toNat * s' + off + us.length)).toArray) := by
    simp only [execOp, hc, e1', Instr.storeAt, Instr.sureAddr, Sem.run_bind, Sem.run_pure, Result.andThen, hsv]
  have hheap := setRow_heap w b cells.toArray (cells.take (k.toNat * s' + off) ++ us ++ cells.drop (k.toNat * s' + off + us.length)).toArray Tr (0, 0) c1
  refine ⟨undef, _, ρ, { st with H := (id, .vec Tr s' n' get') :: st.H }, .inr ⟨hrun, rfl⟩, ?_, h⟩
  have hput : a.put o.dst undef = a := by rw [hdst]; rfl
  rw [hput]
  refine hm.turned (b := b) h3 rfl hn rfl (size_setRow _ _ _) (fun k' hk' => heap_setRow _ _ _ _ hk') ?_ rfl (fun _ _ _ h => by cases h)
  refine ⟨rfl, rfl, hcap, _, hheap, ?_, fun j hj => ?_⟩
  · simp only [List.length_append, List.length_take, List.length_drop]; omega
  · obtain ⟨vs, d1, d2, d3, d4⟩ := c3 j hj
    have hjle : j * s' + s' ≤ n' * s' := by
      have : (j + 1) * s' ≤ n' * s' := Nat.mul_le_mul_right _ hj
      rw [Nat.add_mul] at this; omega
    have hgl := denL_len d1
    rw [hg' j hj]
    by_cases hjk : j = k.toNat
    · rw [if_pos hjk]
      refine ⟨_, denL_set d1 u1 off (by omega), ?_, ?_, fun q v' hv' => ?_⟩
      · rw [List.all_eq_true] at d2 u2 ⊢
        intro z hz
        simp only [List.mem_append] at hz
        rcases hz with (hz | hz) | hz
        · exact d2 z (List.mem_of_mem_take hz)
        · exact u2 z hz
        · exact d2 z (List.mem_of_mem_drop hz)
      · simp only [List.length_append, List.length_take, List.length_drop]; omega
      · have hql : q < s' := by
          have := lt_of_get hv'
          simp only [List.length_append, List.length_take, List.length_drop] at this; omega
        rw [← hjk]
        rcases Nat.lt_or_ge q off with hq | hq
        · rw [List.append_assoc, List.getElem?_append_left (by simp; omega), List.getElem?_take, if_pos hq] at hv'
          rw [List.append_assoc, List.getElem?_append_left (by simp; omega), List.getElem?_take, if_pos (by omega)]
          exact d4 q v' hv'
        · rcases Nat.lt_or_ge q (off + us.length) with hq2 | hq2
          · rw [List.getElem?_append_left (by simp; omega), List.getElem?_append_right (by simp; omega)] at hv'
            rw [List.getElem?_append_left (by simp; omega), List.getElem?_append_right (by simp; omega)]
            simp only [List.length_take] at hv' ⊢
            rw [← hv']
            congr 1
            omega
          · rw [List.getElem?_append_right (by simp; omega), List.getElem?_drop] at hv'
            rw [List.getElem?_append_right (by simp; omega), List.getElem?_drop]
            simp only [List.length_append, List.length_take] at hv' ⊢
            have := d4 q v' (by rw [← hv']; congr 1; omega)
            rw [← this]
            congr 1
            omega
    · rw [if_neg hjk]
      refine ⟨vs, d1, d2, d3, fun q v' hv' => ?_⟩
      have hq := lt_of_get hv'
      have := d4 q v' hv'
      rcases chunk_ne (i := j) (j := q) (s := s') (k := k.toNat) (off := off) (m := us.length) hjk (by omega) (by omega) with h6 | h6
      · rw [List.append_assoc, List.getElem?_append_left (by simp; omega), List.getElem?_take, if_pos h6]
        exact this
      · rw [List.getElem?_append_right (by simp; omega), List.getElem?_drop]
        simp only [List.length_append, List.length_take]
        rw [← this]
        congr 1
        omega
theorem denL_swap {ρ ρ' : Env} (hx : Ext ρ ρ') {x y : SV} {v : Value} (h : den ρ x = some v) (k : den ρ' y = some v) : ∀ (a b : List SV) (vs : List Value), denL ρ (a ++ x :: b) = some vs → denL ρ' (a ++ y :: b) = some vs
  | [], b, vs, e => by
    obtain ⟨u, us, h1, h2, rfl⟩ := denL_cons e
    rw [h] at h1; cases h1
    exact denL_mk k (denL_ext hx _ _ h2)
  | z :: a, b, vs, e => by
    obtain ⟨u, us, h1, h2, rfl⟩ := denL_cons e
    exact denL_mk (den_ext hx _ _ h1) (denL_swap hx h k a b us h2)

/-- A cell among others that holds nil. -/
theorem nil_at {c : Code} {K : Ex → St → Prop} (id Tc T s : Nat) (get : Nat → List SV) (p q : List SV) (h1 : findH st.H id = some (.cells Tc (p ++ .sv (.slice none 0 0) :: q)))
    (h : stK st fun F gs H nx D => natF (nx + 1) fun nx' => SemC X c ⟨F, gs, (id, .cells Tc (p ++ .sl nx :: q)) :: (nx, .vec T s 0 get) :: H, nx', D⟩ K) : SemC X c st K := by
  intro ρ a w hm
  rw [stK_eq, natF_eq] at h
  have hid : id ≠ st.nx := fun e => by
    obtain ⟨nm, h2, _⟩ := hm.hm.ok _ _ h1
    rw [hm.nx id (by omega)] at h2; cases h2
  have h2 := hm.nilNew T s get
  obtain ⟨nm, h3, h4⟩ := hm.hm.ok _ _ h1
  have h5 : findH ((st.nx, .vec T s 0 get) :: st.H) id = some (.cells Tc (p ++ .sv (.slice none 0 0) :: q)) := by
    rw [findH_cons, updL_ne _ _ (Ne.symm hid)]; exact h1
  refine h _ a w (h2.swap (hb' := .cells Tc (p ++ .sl st.nx :: q)) h5 rfl (nm := nm) (by rw [upd_ne _ _ hid]; exact h3) ?_ (fun _ _ _ h => by cases h))
  cases nm <;> simp only [HBok] at h4 ⊢
  obtain ⟨vs, d1, d2, d3⟩ := h4
  exact ⟨vs, denL_swap (Ext.upd _ (hm.nx _ (Nat.le_refl _))) (v := .slice none 0 0) (by simp [den, Value.oneCell']) (by simp [den, upd_self]) _ _ _ d1, d2, d3⟩
/-- append of all elements to an empty row. -/
theorem fb_append0 (sid xid m : Nat) (get2 : Nat → List SV) {ops : List Oper} {i : Nat} {o : Oper} {r : List Oper} {Q : Exit → Act → World → Prop} {Kn : St → Prop} {Kp : List PanicEntry → St → Prop}
    {t e : TypeId} {ti te : TI} {s x : Operand} {c : Call} {d : Nat} (hX : X.Ok) (hC : Cont X Q Kn Kp) (hi : ops.drop i = o :: r)
    (hc : o.op = .call c) (hcl : c.callee = .builtin .append) (hca : c.args = #[s, x]) (hct : c.argTypes = #[t, t]) (hg : o.guard = none) (hdst : o.dst = some d) (hp : putN st.gs X.nt (some d) = false)
    (ht : X.T t = some ti) (hd : ti.desc = .slice e) (hte : X.T e = some te) (hzs : te.zero.cells.size = te.size) (hpos : 0 < te.size) (hby : te.bytes ≤ 1000)
    (h1 : ev (findF st.F) [] s = some (.sl sid)) (h2 : ev (findF st.F) [] x = some (.sl xid)) (h3 : findH st.H sid = some (.row e te.size 0 [])) (h4 : sliceOf te.size (findH st.H) xid = some (m, get2)) (hne : sid ≠ xid)
    (hnm : m ≤ 1000000)
    (h : stK st fun F gs H nx D => natF (nx + 1) fun nx' => execL X ops Q Kn Kp (i + 1) r ⟨(d, ⟨[], .sl nx⟩) :: F, gs, (nx, .vec e te.size m get2) :: (sid, .dead) :: (sid, .vec e te.size 0 get2) :: H, nx', D⟩) : FbO X ops Q Kn Kp i o r st := by
  rw [stK_eq] at h
  refine fb_row sid e te.size 0 [] get2 h3 (fun i hi => absurd hi (by omega)) ?_
  rw [stK_eq]
  refine fb_append (Te := 0) sid xid 0 m get2 get2 get2 hX hC hi hc hcl hca hct hg hdst hp ht hd hte hzs hpos hby h1 h2 (by simp [findH]) ?_ (by omega) (fun i hi => by simp) ?_
  · have : findH ((sid, HB.vec e te.size 0 get2) :: st.H) xid = findH st.H xid := by rw [findH_cons, updL_ne _ _ hne]
    unfold sliceOf at h4 ⊢
    rw [this]; exact h4
  · rw [stK_eq, Nat.zero_add]
    exact h
/-- An operation from a state that says less. -/
theorem fb_weaken {ops : List Oper} {i : Nat} {o : Oper} {r : List Oper} {Q : Exit → Act → World → Prop} {K : St → Prop} {Kp : List PanicEntry → St → Prop} {st' : St} (n0 : Nat) (s : Nat → Nat) (hn : ∀ j, n0 ≤ j → X.G.ρ j = none)
    (h : WeakR n0 s st st') (hk : FbO X ops Q K Kp i o r st') : FbO X ops Q K Kp i o r st := ⟨fun ρ a w hm => hk.h _ a w (hm.ren h hn)⟩
end
end Go.X
end

section
set_option linter.unusedVariables false
set_option linter.unusedSimpArgs false
set_option linter.unusedSectionVars false
/- Guarded operations that the executor has no arm for: run as if unguarded, or passed over. -/
set_option linter.unusedVariables false
set_option linter.unusedSimpArgs false
set_option maxRecDepth 10000
namespace Go.X
open Go

def subG : GP → GP → Bool
  | [], _ => true
  | (s, w) :: r, π => (match memGP π s w with
    | true => subG r π
    | false => false)
where memGP : GP → Nat → Bool → Bool
  | [], _, _ => false
  | (t, v) :: r, s, w => match Nat.beq t s, v == w with
    | true, true => true
    | _, _ => memGP r s w
theorem memGP_ok : ∀ {π : GP} {s : Nat} {w : Bool}, subG.memGP π s w = true → (s, w) ∈ π
  | (t, v) :: r, s, w, h => by
    simp only [subG.memGP] at h
    split at h
    · rename_i h1 h2
      have h1 : t = s := by simpa using h1
      have h2 : v = w := by simpa using h2
      subst h1; subst h2
      exact List.mem_cons_self
    · exact List.mem_cons_of_mem _ (memGP_ok h)
theorem subG_ok : ∀ {σ π : GP}, subG σ π = true → ∀ x ∈ σ, x ∈ π
  | (s, w) :: r, π, h, x, hx => by
    simp only [subG] at h
    split at h
    · rename_i h1
      rcases List.mem_cons.1 hx with rfl | hx
      · exact memGP_ok h1
      · exact subG_ok h x hx
    · cases h
/-- Do the guards hold, as far as the state tells? -/
def satGP (F : LF) : GP → Prop
  | [] => True
  | (s, w) :: r => satGP F r ∧ match F s with
    | some ⟨gp, .sb q⟩ => subG gp r = true ∧ q = w
    | _ => False
theorem satGP_ok {ρ : Env} {F : LF} {a : Act} (hF : FM ρ F a) : ∀ {π : GP}, satGP F π → GPsat a π
  | [], _ => fun x hx => by cases hx
  | (s, w) :: r, h => by
    obtain ⟨h1, h2⟩ := h
    have hr := satGP_ok hF h1
    split at h2
    · rename_i gp q e
      obtain ⟨h3, rfl⟩ := h2
      obtain ⟨v, h4, h5⟩ := (hF s _ e).1 (fun x hx => hr x (subG_ok h3 x hx))
      simp only [den, Option.some.injEq] at h5
      subst h5
      intro x hx
      rcases List.mem_cons.1 hx with rfl | hx
      · exact h4
      · exact hr x hx
    · exact h2.elim

section
variable {X : Cx} {st : St} {F : Fence} {n : Nat} {P : Program} {Q : Exit → Act → World → Prop}

theorem yielded_set {ops : List Oper} {i : Nat} {o o' : Oper} (ho : ops[i]? = some o) (hd : o'.dst = o.dst) (tmps : Array Value) : yielded (ops.set i o').toArray tmps = yielded ops.toArray tmps := by
  funext j
  simp only [yielded, List.getElem?_toArray, List.getElem?_set]
  by_cases h : i = j
  · subst h
    have hlt : i < ops.length := by
      rcases Nat.lt_or_ge i ops.length with h | h
      · exact h
      · rw [List.getElem?_eq_none h] at ho; cases ho
    simp only [if_true, hlt, ho, Option.bind_some, hd]
  · simp only [h, if_false]

theorem wpOps_set {ops : List Oper} {i : Nat} {o o' : Oper} (ho : ops[i]? = some o) (hd : o'.dst = o.dst) : ∀ (l : List Nat) (a : Act) (w : World), (∀ k ∈ l, k ≠ i) →
    wpOpsIn F n P (ops.set i o').toArray Q l a w → wpOpsIn F n P ops.toArray Q l a w
  | [], a, w, _, h => h
  | k :: l, a, w, hk, h => by
    have hne : ¬ i = k := fun e => hk k List.mem_cons_self e.symm
    have ih := fun a w => wpOps_set ho hd l a w (fun k hk' => hk k (List.mem_cons_of_mem _ hk'))
    have e1 : (ops.set i o').toArray[k]? = ops.toArray[k]? := by simp only [List.getElem?_toArray, List.getElem?_set, hne, if_false]
    simp only [wpOpsIn] at h ⊢
    rw [e1] at h
    split at h
    · exact ih _ _ h
    · rename_i o₁ e
      rw [yielded_set ho hd] at h
      split at h
      · rename_i hw
        rw [if_pos hw]
        exact Oper.wpIn_mono (fun a w h => ih a w h) h
      · rename_i hw
        rw [if_neg hw]
        exact ⟨h.1, ih _ _ h.2⟩

/-- One operation: o, from the executor's arm. -/
theorem fb_again {X : Cx} {st : St} (hX : X.Ok) {ops : List Oper} {i : Nat} {o : Oper} {r : List Oper} {Q : Exit → Act → World → Prop} {K : St → Prop} {Kp : List PanicEntry → St → Prop} (hC : Cont X Q K Kp) (hi : ops.drop i = o :: r)
    (h : execL X ops Q K Kp i (o :: r) st) : FbO X ops Q K Kp i o r st := by
  refine ⟨fun ρ a w hm => ?_⟩
  exact execL_ok hX hC.k hC.p (o :: r) i ρ st a w hi h hm

/-- What was laid under guards that hold needs them no more. -/
def stripF (π : GP) : List (Nat × FE) → List (Nat × FE)
  | [] => []
  | (t, ⟨gp, v⟩) :: r => match subG gp π with
    | true => (t, ⟨[], v⟩) :: stripF π r
    | false => (t, ⟨gp, v⟩) :: stripF π r
def fStrip (π : GP) : List (Nat × FE) → (List (Nat × FE) → Prop) → Prop
  | [], K => K []
  | (t, ⟨gp, v⟩) :: r, K => match subG gp π with
    | true => fStrip π r fun r' => K ((t, ⟨[], v⟩) :: r')
    | false => fStrip π r fun r' => K ((t, ⟨gp, v⟩) :: r')
theorem fStrip_eq (π : GP) : ∀ (F : List (Nat × FE)) (K : List (Nat × FE) → Prop), fStrip π F K = K (stripF π F)
  | [], K => rfl
  | (t, ⟨gp, v⟩) :: r, K => by
    simp only [fStrip, stripF]
    cases subG gp π <;> simp only [fStrip_eq π r]
theorem stripF_find {π : GP} : ∀ {F : List (Nat × FE)} {t : Nat} {e : FE}, findF (stripF π F) t = some e → ∃ gp, findF F t = some ⟨gp, e.v⟩ ∧ (e.gp = gp ∨ e.gp = [] ∧ subG gp π = true)
  | (s, ⟨gp, v⟩) :: r, t, e, h => by
    simp only [stripF] at h
    cases hs : subG gp π with
    | true =>
      rw [hs] at h
      simp only [findF] at h ⊢
      split at h
      · rename_i e1
        cases h
        rw [if_pos e1]
        exact ⟨gp, rfl, .inr ⟨rfl, hs⟩⟩
      · rename_i e1
        rw [if_neg e1]
        exact stripF_find h
    | false =>
      rw [hs] at h
      simp only [findF] at h ⊢
      split at h
      · rename_i e1
        cases h
        rw [if_pos e1]
        exact ⟨gp, rfl, .inl rfl⟩
      · rename_i e1
        rw [if_neg e1]
        exact stripF_find h
theorem Mod.strip {X : Cx} {st : St} {ρ : Env} {a : Act} {w : World} {π : GP} (hm : Mod X ρ st a w) (hs : GPsat a π) : Mod X ρ { st with F := stripF π st.F } a w where
  fm t e hf := by
    obtain ⟨gp, h1, h2⟩ := stripF_find hf
    have h3 := hm.fm t _ h1
    rcases h2 with h2 | ⟨h2, h4⟩
    · rw [h2]; exact h3
    · rw [h2]
      exact ⟨fun _ => h3.1 (fun x hx => hs x (subG_ok h4 x hx)), fun h => absurd (fun x hx => by cases hx) h⟩
  gs t e hf x hx := by
    obtain ⟨gp, h1, h2⟩ := stripF_find hf
    rcases h2 with h2 | ⟨h2, h4⟩
    · rw [h2] at hx; exact hm.gs t _ h1 x hx
    · rw [h2] at hx; cases hx
  df := hm.df
  hm := hm.hm
  kp := hm.kp
  nx := hm.nx
  sz := hm.sz

/-- The guards hold: the operation runs as if it had none. -/
theorem fb_run {X : Cx} {st : St} {π : GP} {ops : List Oper} {i : Nat} {o : Oper} {r : List Oper} {Q : Exit → Act → World → Prop} {K : St → Prop} {Kp : List PanicEntry → St → Prop} (hi : ops.drop i = o :: r)
    (hg : guardOf ops (findF st.F) o.guard = some π) (hs : satGP (findF st.F) π)
    (h : stK st fun F gs H nx D => fStrip π F fun F' => FbO X (ops.set i { o with guard := none }) Q K Kp i { o with guard := none } r ⟨F', gs, H, nx, D⟩) : FbO X ops Q K Kp i o r st := by
  rw [stK_eq, fStrip_eq] at h
  refine ⟨fun ρ a w hm => ?_⟩
  have ho : ops[i]? = some o := by
    have := congrArg (fun l => l[0]?) hi
    simpa using this
  have hlt : i < ops.length := by
    rcases Nat.lt_or_ge i ops.length with h | h
    · exact h
    · rw [List.getElem?_eq_none h] at ho; cases ho
  have h1 := h.h ρ a w (hm.strip (satGP_ok hm.fm hs))
  have hw := (guardOf_ok hm.fm hg).2 (satGP_ok hm.fm hs)
  rw [List.range'_succ] at h1 ⊢
  have e1 : (ops.set i { o with guard := none }).toArray[i]? = some { o with guard := none } := by
    simp only [List.getElem?_toArray, List.getElem?_set, if_true, hlt]
  simp only [wpOpsIn, e1] at h1
  rw [if_pos (guard_none rfl _)] at h1
  refine wpOps_cons (by simpa using ho) (fun _ => ?_) (fun hf => by rw [hw] at hf; cases hf)
  have h2 : Oper.wpIn (FW X.r) 0 X.P o a w (wpOpsIn (FW X.r) 0 X.P (ops.set i { o with guard := none }).toArray Q (List.range' (i + 1) r.length)) Q := h1
  exact Oper.wpIn_mono (fun a w h => wpOps_set (o' := { o with guard := none }) ho rfl _ a w (fun k hk => by have := (List.mem_range'_1.1 hk).1; omega) h) h2

/-- A guard does not hold: the operation is passed over. -/
theorem fb_skip (s : Nat) (w : Bool) {X : Cx} {st : St} {π gp : GP} {q : Bool} {d : Nat} {ops : List Oper} {i : Nat} {o : Oper} {r : List Oper} {Q : Exit → Act → World → Prop} {K : St → Prop} {Kp : List PanicEntry → St → Prop} (hX : X.Ok)
    (hC : Cont X Q K Kp) (hi : ops.drop i = o :: r) (hg : guardOf ops (findF st.F) o.guard = some π) (hdst : o.dst = some d) (hp : putN st.gs X.nt (some d) = false) (hfree : findF st.F d = none)
    (hm : subG [(s, w)] π = true) (hf : findF st.F s = some ⟨gp, .sb q⟩) (hs : satGP (findF st.F) gp) (hq : q = !w)
    (h : stK st fun F gs H nx D => fGP π fun π' => fNs (gpSlots π gs) fun gs' => execL X ops Q K Kp (i + 1) r ⟨(d, ⟨π', .sb false⟩) :: F, gs', H, nx, D⟩) : FbO X ops Q K Kp i o r st := by
  refine ⟨fun ρ a w' hmod => ?_⟩
  have ho : ops[i]? = some o := by
    have := congrArg (fun l => l[0]?) hi
    simpa using this
  have hd' : ops.drop (i + 1) = r := by
    have := congrArg List.tail hi
    simpa using this
  have hns : ¬ GPsat a π := by
    intro hsat
    have h1 := hsat (s, w) (subG_ok hm _ List.mem_cons_self)
    obtain ⟨v, h2, h3⟩ := (hmod.fm s _ hf).1 (satGP_ok hmod.fm hs)
    simp only [den, Option.some.injEq] at h3
    subst h3
    rw [h2, hq] at h1
    cases w <;> cases h1
  have hw : Region.wanted o (yielded ops.toArray a.tmps) = false := by
    cases e : Region.wanted o (yielded ops.toArray a.tmps) with
    | false => rfl
    | true => exact absurd ((guardOf_ok hmod.fm hg).1 e) hns
  obtain ⟨hp1, hp2⟩ := putN_ok hp
  have hne := guard_ne hg hmod.gs hfree hp2
  rw [stK_eq, fGP_eq, fNs_eq] at h
  rw [List.range'_succ]
  refine wpOps_cons (by simpa using ho) (fun hf => by rw [hw] at hf; cases hf) (fun _ => ?_)
  rw [hdst]
  exact execL_ok hX hC.k hC.p r (i + 1) ρ _ _ w' hd' h (hmod.putG hp hne (fun h => absurd h hns) (fun _ => rfl))
end
end Go.X
end

section
set_option linter.unusedVariables false
set_option linter.unusedSimpArgs false
set_option linter.unusedSectionVars false
/- Functions with a deferred answer that hold a range over a function. -/
set_option linter.unusedVariables false
set_option linter.unusedSimpArgs false
set_option maxRecDepth 10000
namespace Go.X
open Go
section
variable {X : Cx} {st : St} {ρ : Env} {a : Act} {w : World}

/-- The marks of ranges over functions that lie before a deferred call are taken away. -/
def killD : List SDef → List (Nat × HB) → Option (List (Nat × HB) × List SDef)
  | [], H => some (H, [])
  | (f, args) :: r, H => match Nat.beq f 1000000 with
    | false => some (H, (f, args) :: r)
    | true => (match args with
      | [.sp id 0] => (match findH H id with
        | some .dfr => killD r ((id, .dead) :: H)
        | _ => none)
      | _ => none)

theorem leavesD {P : Program} {fn : Func} {R : Ending → World → Prop} {u : FrameMode} (hu : u ≠ .run) {F : List (Nat × FE)} {gs : List Nat} {nx : Nat} {H' : List (Nat × HB)} {D' : List SDef} : ∀ {D : List SDef} {H : List (Nat × HB)} {a : Act} {w : World},
    killD D H = some (H', D') → Mod X ρ ⟨F, gs, H, nx, D⟩ a w → (∀ a' w'', a'.tmps = a.tmps → Mod X ρ ⟨F, gs, H', nx, D'⟩ a' w'' → LeavesInM Fence.wide 0 P fn a.tmps R a'.defers u w'') →
    LeavesInM Fence.wide 0 P fn a.tmps R a.defers u w
  | [], H, a, w, hk, hm, hfin => by
    simp only [killD] at hk; cases hk
    exact hfin a w rfl hm
  | (f, args) :: r, H, a, w, hk, hm, hfin => by
    simp only [killD] at hk
    split at hk
    · cases hk
      exact hfin a w rfl hm
    · rename_i e1
      split at hk
      · rename_i id
        split at hk
        · rename_i e2
          have hdf := hm.df
          cases hds : a.defers with
          | nil => rw [hds] at hdf; exact hdf.elim
          | cons d ds =>
            rw [hds] at hdf
            obtain ⟨⟨vals, h1, h2⟩, h3⟩ := hdf
            obtain ⟨v, vs, g1, g2, rfl⟩ := denL_cons h1
            simp only [denL, Option.some.injEq] at g2
            subst g2
            obtain ⟨b, hb, rfl⟩ := den_sp g1
            have hd : d = { target := .collected b, args := #[] } := by rw [h2]; simp only [mkDef, e1]
            obtain ⟨nm, k1, k2⟩ := hm.hm.ok _ _ e2
            rw [hb] at k1; cases k1
            refine ⟨hu, .inl ⟨b, _, by rw [hd], run_takeDeferred (P := P) k2, ?_⟩⟩
            have hm1 := hm.killAt (w' := w.putObj b (.deferred none)) e2 rfl hb rfl World.putObj_size (fun k hk => World.putObj_heap_other hk)
            have hm2 : Mod X ρ ⟨F, gs, (id, .dead) :: H, nx, r⟩ { a with defers := ds } (w.putObj b (.deferred none)) := {
              fm := hm1.fm, gs := hm1.gs, df := h3, hm := hm1.hm, kp := hm1.kp, nx := hm1.nx, sz := hm1.sz }
            exact leavesD hu (a := { a with defers := ds }) hk hm2 (fun a' w'' q1 q3 => hfin a' w'' q1 q3)
        · cases hk
      · cases hk

def FinDM (X : Cx) (n tRef tErr : Nat) (rs : List ResultVar) (Rv : SV → St → Prop) (e : Ex) (st : St) : Prop :=
  match killD st.D st.H with
  | some (H', D') => FinD X n tRef tErr rs Rv e ⟨st.F, st.gs, H', st.nx, D'⟩
  | none => False

/-- From a body with a deferred answer to its call. -/
theorem calls_of_execDM (hX : X.Ok) (hr : X.r = none) {n tRef tErr : Nat} (hA : AnswerOk X.P n tRef tErr) {f : Nat} {fn : Func} {c : Code} (hf : X.P.funcs[f]? = some fn) (hb : fn.body = some c) (hnt : fn.ntmps = X.nt)
    {args : List SV} {vals : List Value} {H : List (Nat × HB)} {nx : Nat} (hd : denL ρ args = some vals) (hlen : args.length ≤ X.nt) (hH : HM ρ (findH H) w)
    (hG : X.G = ⟨w, Own ρ (findH H), ρ, Fz (findH H)⟩) (hnx : ∀ j, nx ≤ j → ρ j = none) {Rv : SV → St → Prop}
    (h : exec X c (start args H nx) (FinDM X n tRef tErr fn.results.toList Rv)) : Calls X.P f vals.toArray w (CEnd X Rv fun _ _ => False) := by
  refine (callsIn_wide (n := 0)).1 ?_
  have hm := start_mod (X := X) hd hlen hH hG hnx
  have hw := exec_ok hX c _ _ h ρ _ w hm
  rw [hr] at hw
  refine callsIn_of_wp_marks (F := Fence.wide) hf hb trivial (wpIn_mono (by rw [hnt]; exact hw) ?_)
  rintro e a₀ w₀ ⟨x, st₀, ρ', rfl, hm₀, hk₀⟩
  unfold FinDM at hk₀
  split at hk₀
  case h_2 => exact hk₀.elim
  rename_i H' D' hkD
  have hgo : ∀ u, u ≠ FrameMode.run → (∀ a' w'', a'.tmps = a₀.tmps → Mod X ρ' ⟨st₀.F, st₀.gs, H', st₀.nx, D'⟩ a' w'' → LeavesInM Fence.wide 0 X.P fn a₀.tmps (CEnd X Rv fun _ _ => False) a'.defers u w'') →
      LeavesInM Fence.wide 0 X.P fn a₀.tmps (CEnd X Rv fun _ _ => False) a₀.defers u w₀ := fun u hu hf => leavesD (X := X) (F := st₀.F) (gs := st₀.gs) (nx := st₀.nx) hu hkD (by cases st₀; exact hm₀) hf
  obtain ⟨st', hst₀⟩ : ∃ st' : St, (⟨st₀.F, st₀.gs, H', st₀.nx, D'⟩ : St) = st' := ⟨_, rfl⟩
  rw [hst₀] at hk₀
  have hk := hk₀
  have hret : (errOf n tErr st' fun _ => (match resAll X st' fn.results.toList with
      | some l => fSVL l fun l' => Rv (resV l') st'
      | none => False)) → LeavesInM Fence.wide 0 X.P fn a₀.tmps (CEnd X Rv fun _ _ => False) a₀.defers .returning w₀ := by
    intro hk
    refine hgo _ (by intro h; cases h) fun a' w' hat hm' => ?_
    rw [hst₀] at hm'
    rw [← hat]
    obtain ⟨id, y, hD, hfi, hmk, hk⟩ := errOf_ok hk
    obtain ⟨b, u, g1, g2, g0, g3⟩ := def_arg hm' hD hfi hmk
    rw [g1]
    refine ⟨(by intro h; cases h), .inr ⟨(by intro h; cases h), _, _, _, _, rfl, hA.body _ _, (fun g _ => trivial), ?_⟩⟩
    refine (hA.ret w' b u g0 g3).mono ?_
    rintro e u' w₂ ⟨⟨v, rfl⟩, rfl, hs, hk2, hst⟩
    have hm₂ : Mod X ρ' st' a' w₂ := { hm' with hm := hm'.hm.world hs hk2, kp := hm'.kp.world hs hk2 hst }
    split at hk
    · rename_i l e1
      rw [fSVL_eq] at hk
      obtain ⟨u, h1, h2⟩ := results_ok hX hm₂ e1
      exact ⟨u, h1, .inl ⟨_, st', ρ', u, rfl, h2, hm₂.mh, hk⟩⟩
    · exact hk.elim
  cases x with
  | normal => exact hret hk
  | ret => exact hret hk
  | panic ch =>
    obtain ⟨id, y, hD, hfi, hmk, hk⟩ := errOf_ok hk
    obtain ⟨k, m, rfl, hkk⟩ := isRef_ok hk
    refine hgo _ (by intro h; cases h) fun a' w' hat hm' => ?_
    rw [hst₀] at hm'
    rw [← hat]
    obtain ⟨b, u, g1, g2, g0, g3⟩ := def_arg hm' hD hfi hmk
    rw [g1]
    refine ⟨(by intro h; cases h), .inr ⟨(by intro h; cases h), _, _, _, _, rfl, hA.body _ _, (fun g _ => trivial), ?_⟩⟩
    refine (hA.pan w' b u k m g0 g3).mono ?_
    rintro e u' w₂ ⟨⟨v, rfl⟩, rfl, hs, hk2, hk3, hst⟩
    obtain ⟨F, gs, H, nx, D⟩ := st'
    have hm₂ : Mod X ρ' ⟨F, gs, (id, .cells tErr [.si k m]) :: H, nx, D⟩ a' w₂ := {
      fm := hm'.fm
      gs := hm'.gs
      df := hm'.df
      hm := hm'.hm.put hfi rfl g2 rfl hs hk2 (by exact ⟨[.int k m], by simp [denL, den], by simp [Value.oneCell'], hk3⟩) rfl (fun _ _ _ h => by cases h)
      kp := hm'.kp.put hfi rfl g2 rfl hs hk2 hst
      nx := hm'.nx
      sz := hm'.sz }
    simp only at hkk
    split at hkk
    · rename_i l e1
      rw [fSVL_eq] at hkk
      obtain ⟨u, h1, h2⟩ := results_ok hX hm₂ e1
      exact ⟨u, h1, .inl ⟨_, _, ρ', u, rfl, h2, hm₂.mh, hkk⟩⟩
    · exact hkk.elim
  | exit n => exact hk.elim

/-- What a contract of a function with a deferred answer rests on. -/
def WalkDM (P : Program) (T : Tab) (C : Nat → Option Ct) (n tRef tErr : Nat) (fn : Func) (c : Code) (H : LH) (args : List SV) (fr : Nat) (out : COut) : Prop :=
  ∃ (ps : List (Nat × HB)) (args₀ : List SV) (H₀ : List (Nat × HB)) (n₀ : Nat) (K : List Nat), args = renL (sigP ps) args₀ ∧ knL ps.length [] args₀ = true ∧ args₀.length ≤ fn.ntmps ∧ Hand H ps ∧ H₀ = numb 0 ps ∧ n₀ = ps.length ∧
    ∀ G : Base, (∀ j, n₀ ≤ j → G.ρ j = none) → exec ⟨P, T, C, G, none, fn.ntmps⟩ c (start args₀ H₀ n₀) (FinDM ⟨P, T, C, G, none, fn.ntmps⟩ n tRef tErr fn.results.toList
      (fun v st => (out.pan = none ∨ ∃ ch, out.pan = some (false, ch)) ∧ EndOk ps K fr out v st))

theorem cokDM {P : Program} {T : Tab} {C : Nat → Option Ct} (hX : ∀ G r nt, (⟨P, T, C, G, r, nt⟩ : Cx).Ok) {n tRef tErr : Nat} (hA : AnswerOk P n tRef tErr) {f : Nat} {fn : Func} {c : Code} (hf : P.funcs[f]? = some fn) (hb : fn.body = some c) {ct : Ct}
    (h : ∀ fr args H out, ct fr args H = some out → PreH out.pre → WalkDM P T C n tRef tErr fn c H args fr out) : COk P f ct :=
  cokC (nt := fn.ntmps) fun fr args H out h1 h2 => by
    obtain ⟨ps, args₀, H₀, n₀, K, h1, h2, h3, h4, h5, h6, hex⟩ := h fr args H out h1 h2
    refine ⟨ps, args₀, H₀, n₀, K, h1, h2, h3, h4, h5, h6, fun ρ w vals hd hm hnx => ?_⟩
    exact (calls_of_execDM (X := ⟨P, T, C, ⟨w, Own ρ (findH H₀), ρ, Fz (findH H₀)⟩, none, fn.ntmps⟩) (hX _ _ _) rfl hA hf hb rfl hd h3 hm rfl hnx (hex _ hnx)).mono fun e w' he => he.mono (fun _ _ h => h) (fun _ _ h => h.elim)
end
end Go.X
end

section
set_option linter.unusedVariables false
set_option linter.unusedSimpArgs false
set_option linter.unusedSectionVars false
/- Functions that hold a range over a function, run through in place. -/
set_option linter.unusedVariables false
set_option linter.unusedSimpArgs false
set_option maxRecDepth 10000
namespace Go.X
open Go

theorem callS_execM {P : Program} {T : Tab} {C : Nat → Option Ct} (hX : ∀ G r nt, (⟨P, T, C, G, r, nt⟩ : Cx).Ok) {n : Nat} {fn : Func} {c : Code} (hf : P.funcs[n]? = some fn) (hb : fn.body = some c)
    {l : List SV} (hlen : l.length ≤ fn.ntmps) {H : List (Nat × HB)} {nx : Nat} {Rv : SV → List (Nat × HB) → Nat → Prop} {Rp : List PanicEntry → List (Nat × HB) → Nat → Prop}
    (h : ∀ G : Base, (∀ j, nx ≤ j → G.ρ j = none) → exec ⟨P, T, C, G, none, fn.ntmps⟩ c (start l H nx) (FinM ⟨P, T, C, G, none, fn.ntmps⟩ fn.results.toList (fun v st => Rv v st.H st.nx) (fun ch st => Rp ch st.H st.nx))) :
    CallS P n l H nx Rv Rp := by
  intro ρ w vals hm hnx hd
  have hcall := calls_of_execM (X := ⟨P, T, C, ⟨w, Own ρ (findH H), ρ, Fz (findH H)⟩, none, fn.ntmps⟩) (hX _ _ _) rfl hf hb rfl hd hlen hm rfl hnx (fun x _ => by cases x with | tmp t => exact ⟨t, .inl rfl⟩ | cell t ty => exact ⟨t, .inr ⟨ty, rfl⟩⟩) (h _ hnx)
  refine hcall.mono ?_
  rintro e w' (⟨v, st, ρ', u, rfl, hv, hmh, hr⟩ | ⟨ch, st, ρ', rfl, hmh, hr⟩)
  · exact .inl ⟨v, st.H, st.nx, ρ', u, rfl, hv, hmh.hm, hmh.kp, hmh.nx, hr⟩
  · exact .inr ⟨ch, st.H, st.nx, ρ', rfl, hmh.hm, hmh.kp, hmh.nx, hr⟩


/-- So of each slot. -/
def allV (p : Nat → SV → Prop) : List (Nat × SV) → Prop
  | [] => True
  | (t, v) :: r => p t v ∧ allV p r
theorem allV_find {p : Nat → SV → Prop} : ∀ {l : List (Nat × SV)}, allV p l → ∀ t v, findV l t = some v → p t v
  | [], _, t, v, h => by cases h
  | (s, u) :: r, ha, t, v, h => by
    simp only [findV] at h
    split at h
    · rename_i e
      have e : s = t := by simpa using e
      subst e; cases h
      exact ha.1
    · exact allV_find ha.2 t v h

/-! ### Pieces that are handed on -/
def allP (p : Nat → HB → Prop) : List (Nat × HB) → Prop
  | [] => True
  | (c, h) :: r => p c h ∧ allP p r
theorem allP_get {p : Nat → HB → Prop} : ∀ {l : List (Nat × HB)}, allP p l → ∀ (j c : Nat) (h : HB), l[j]? = some (c, h) → p c h
  | (c', h') :: r, ha, 0, c, h, hj => by simp at hj; obtain ⟨rfl, rfl⟩ := hj; exact ha.1
  | (c', h') :: r, ha, j + 1, c, h, hj => allP_get ha.2 j c h (by simpa using hj)
def ownT : HB → Option Nat
  | .cells T _ => some T
  | .map _ _ => some 1000000
  | _ => none
def noT (T : Nat) : List (Nat × HB) → Bool
  | [] => true
  | (_, h) :: r => (match ownT h with
    | some U => (match Nat.beq T U with
      | true => false
      | false => noT T r)
    | none => noT T r)
def distT : List (Nat × HB) → Bool
  | [] => true
  | (_, h) :: r => (match ownT h with
    | some T => (match noT T r with
      | true => distT r
      | false => false)
    | none => distT r)
theorem noT_get : ∀ {T : Nat} {l : List (Nat × HB)}, noT T l = true → ∀ (j c : Nat) (h : HB), l[j]? = some (c, h) → ownT h ≠ some T
  | T, (c', h') :: r, hn, j, c, h, hj => by
    simp only [noT] at hn
    have key : noT T r = true ∧ ownT h' ≠ some T := by
      split at hn
      · rename_i U e
        split at hn
        · cases hn
        · rename_i e2
          refine ⟨hn, fun e3 => ?_⟩
          rw [e] at e3; cases e3
          simp at e2
      · rename_i e
        exact ⟨hn, by rw [e]; intro h; cases h⟩
    cases j with
    | zero => simp at hj; obtain ⟨rfl, rfl⟩ := hj; exact key.2
    | succ j => exact noT_get key.1 j c h (by simpa using hj)
theorem distT_get : ∀ {l : List (Nat × HB)}, distT l = true → ∀ (i j c c' : Nat) (h h' : HB) (T : Nat), i < j → l[i]? = some (c, h) → l[j]? = some (c', h') → ownT h = some T → ownT h' ≠ some T
  | (c₀, h₀) :: r, hd, i, j, c, c', h, h', T, hij, hi, hj, ho => by
    simp only [distT] at hd
    cases j with
    | zero => omega
    | succ j =>
      have hj : r[j]? = some (c', h') := by simpa using hj
      cases i with
      | zero =>
        simp at hi; obtain ⟨rfl, rfl⟩ := hi
        rw [ho] at hd
        dsimp only at hd
        split at hd
        · rename_i e; exact noT_get e j c' h' hj
        · cases hd
      | succ i =>
        have hi : r[i]? = some (c, h) := by simpa using hi
        have hd' : distT r = true := by
          split at hd
          · split at hd
            · exact hd
            · cases hd
          · exact hd
        exact distT_get hd' i j c c' h h' T (by omega) hi hj ho
theorem ownT_of {H : LH} {s : Nat → Nat} {c : Nat} {h h' : HB} (k : PieceOk H s c h) (k' : PieceOk H s c h') (o : ownP h = true) (o' : ownP h' = true) : ∃ T, ownT h = some T ∧ ownT h' = some T := by
  cases h <;> cases o <;> cases h' <;> cases o'
  · rename_i T cs T' cs'
    have k : H c = some (.cells T (renL s cs)) := k
    have k' : H c = some (.cells T' (renL s cs')) := k'
    rw [k] at k'
    simp only [Option.some.injEq, HB.cells.injEq] at k'
    exact ⟨T, rfl, by rw [k'.1]; rfl⟩
  · have k : H c = _ := k
    have k' : H c = _ := k'
    rw [k] at k'
    cases k'
  · have k : H c = _ := k
    have k' : H c = _ := k'
    rw [k] at k'
    cases k'
  · exact ⟨_, rfl, rfl⟩
theorem hand_mk {H : LH} {ps : List (Nat × HB)} (h1 : allP (fun c h => PieceOk H (sigP ps) c h) ps) (h2 : allP (fun _ h => InHB (fun i => i < ps.length) h) ps) (h3 : distT ps = true) : Hand H ps where
  ok := allP_get h1
  ids := allP_get h2
  inj i j c hb hb' e1 e2 o1 o2 := by
    obtain ⟨T, t1, t2⟩ := ownT_of (allP_get h1 i c hb e1) (allP_get h1 j c hb' e2) o1 o2
    rcases Nat.lt_trichotomy i j with h | h | h
    · exact absurd t2 (distT_get h3 i j c c hb hb' T h e1 e2 t1)
    · exact h
    · exact absurd t1 (distT_get h3 j i c c hb' hb T h e2 e1 t2)
end Go.X
end

section
set_option linter.unusedVariables false
set_option linter.unusedSimpArgs false
set_option linter.unusedSectionVars false
/- Loops in each round of which a function is ranged over: the marks that they leave. -/
set_option linter.unusedVariables false
set_option linter.unusedSimpArgs false
set_option maxRecDepth 10000
namespace Go.X
open Go

/-- The marks' blocks, and the marks: their ids go from 1000 on. -/
def dfrL : Nat → List (Nat × HB)
  | 0 => []
  | k + 1 => (1000 + k, .dfr) :: dfrL k
def markL : Nat → List SDef
  | 0 => []
  | k + 1 => (MARK, [.sp (1000 + k) 0]) :: markL k
def withM (st : St) (k : Nat) : St := match st with | ⟨F, gs, H, nx, D⟩ => ⟨F, gs, H ++ dfrL k, 2000, markL k⟩
theorem dfrL_find : ∀ {k t : Nat}, findH (dfrL k) t = if 1000 ≤ t ∧ t < 1000 + k then some .dfr else none
  | 0, t => by
    rw [if_neg (by omega)]; rfl
  | k + 1, t => by
    simp only [dfrL]
    by_cases h : 1000 + k = t
    · subst h
      rw [findH_cons, updL_self, if_pos (by omega)]
    · rw [findH_cons, updL_ne _ _ h, dfrL_find]
      by_cases h2 : 1000 ≤ t ∧ t < 1000 + k
      · rw [if_pos h2, if_pos (by omega)]
      · rw [if_neg h2, if_neg (by omega)]
theorem findH_skip {a : Nat} {x : HB} {l : List (Nat × HB)} {t : Nat} (h : a ≠ t) : findH ((a, x) :: l) t = findH l t := by
  rw [findH_cons, updL_ne _ _ h]
theorem findH_app {A B : List (Nat × HB)} {t : Nat} : findH (A ++ B) t = match findH A t with
    | some x => some x
    | none => findH B t := by
  induction A with
  | nil => rfl
  | cons p r ih =>
    obtain ⟨a, x⟩ := p
    rw [List.cons_append]
    by_cases h : a = t
    · subst h; rw [findH_cons, updL_self, findH_cons, updL_self]
    · rw [findH_skip h, findH_skip h]; exact ih

/-- The ids of marks apart, and one mark more. -/
def sMark (s : Nat → Nat) (id k : Nat) (j : Nat) : Nat := if j < 1000 then s j else if j = 1000 + k then id else j
/-- The ids' new numbers are none of a mark's. -/
def outI (s : Nat → Nat) (id : Nat) : List (Nat × HB) → Bool
  | [] => true
  | (t, _) :: r => match Nat.ble 1000 (s t), Nat.ble 2000 (s t), Nat.beq (s t) id with
    | false, _, false => outI s id r
    | true, true, false => outI s id r
    | _, _, _ => false
theorem outI_ok {s : Nat → Nat} {id : Nat} : ∀ {H : List (Nat × HB)}, outI s id H = true → ∀ t x, findH H t = some x → (s t < 1000 ∨ 2000 ≤ s t) ∧ s t ≠ id
  | (a, y) :: r, h, t, x, hf => by
    simp only [outI] at h
    have key : ((s a < 1000 ∨ 2000 ≤ s a) ∧ s a ≠ id) ∧ outI s id r = true := by
      split at h
      · rename_i h1 h2
        refine ⟨⟨.inl ?_, fun e => by rw [e, Nat.beq_refl] at h2; cases h2⟩, h⟩
        have : ¬ 1000 ≤ s a := fun hle => by rw [Nat.ble_eq_true_of_le hle] at h1; cases h1
        omega
      · rename_i h1 h2 h3
        exact ⟨⟨.inr (Nat.le_of_ble_eq_true h2), fun e => by rw [e, Nat.beq_refl] at h3; cases h3⟩, h⟩
      · cases h
    by_cases e : a = t
    · subst e; exact key.1
    · rw [findH_skip e] at hf
      exact outI_ok key.2 t x hf

/-- What a round has to come to, if it leaves a mark more. -/
def RoundM {α : Type} (n0 : Nat) (J : α → St) (kk : α → Nat) (μ : α → Nat) (x : α) (K : Ex → St → Prop) : Ex → St → Prop
  | .normal, st => ∃ (x' : α) (s : Nat → Nat) (id : Nat), WeakR n0 s ⟨st.F, st.gs, st.H, st.nx, []⟩ (J x') ∧ (J x').nx ≤ 1000 ∧ kk x' = kk x + 1 ∧ kk x < 900 ∧ st.D = (MARK, [.sp id 0]) :: markL (kk x) ∧ Nat.ble 2000 id = true ∧ findH st.H id = some .dfr ∧
      (∀ t, 1000 ≤ t → t < 2000 → findH st.H t = findH (dfrL (kk x)) t) ∧ outI s id (J x').H = true ∧ μ x' < μ x
  | e, st => K e st

section
variable {s s' : Nat → Nat} {n n' : Nat}
theorem Mod.ren2 {X : Cx} {ρ : Env} {st st' : St} {a : Act} {w : World} (n0 : Nat) (s : Nat → Nat) (hm : Mod X ρ st a w) (hn : ∀ j, n0 ≤ j → X.G.ρ j = none)
    (hF : ∀ t e, findF st'.F t = some e → e.gp = [] ∧ idsSV st'.nx e.v = true ∧ findF st.F t = some ⟨[], renSV s e.v⟩)
    (hH : ∀ id hb, findH st'.H id = some hb → id < st'.nx ∧ ∃ hc, findH st.H (s id) = some hc ∧ lessHB s st'.nx hc hb)
    (hinj : ∀ i j hb hb', findH st'.H i = some hb → findH st'.H j = some hb' → s i = s j → i = j) (hfix : ∀ j, j < n0 → s j = j) (hge : n0 ≤ st'.nx) (hD : weakRD s st'.nx st.D st'.D) : Mod X (envR ρ s st'.nx) st' a w where
  fm t e hf := by
    obtain ⟨h1, h2, h3⟩ := hF t e hf
    rw [den_envR _ h2, h1]
    exact hm.fm t _ h3
  gs t e hf x hx := by
    obtain ⟨h1, _⟩ := hF t e hf
    rw [h1] at hx; cases hx
  df := weakRD_ok hD hm.df
  hm := {
    ok := fun id hb hf => by
      obtain ⟨h1, hc, h2, h3⟩ := hH id hb hf
      obtain ⟨nm, h4, h5⟩ := hm.hm.ok _ _ h2
      exact ⟨nm, by rw [envR_lt h1]; exact h4, lessHB_ok h3 h5⟩
    sep := fun i j x y n₁ n₂ b h1 h2 l1 l2 r1 r2 o1 o2 => by
      obtain ⟨a1, c1, a2, a3⟩ := hH i x h1
      obtain ⟨b1, c2, b2, b3⟩ := hH j y h2
      have := hm.hm.sep _ _ c1 c2 n₁ n₂ b a2 b2 (lessHB_live a3 l1) (lessHB_live b3 l2) (envR_some r1).2 (envR_some r2).2 o1 o2
      exact hinj i j x y h1 h2 this
    ro := fun j size m get nm b hf hm' hr hb ho => by
      obtain ⟨a1, c1, a2, a3⟩ := hH j _ hf
      obtain ⟨g', rfl⟩ := lessHB_ro a3
      refine hm.hm.ro _ size m g' nm b a2 hm' (envR_some hr).2 hb ?_
      obtain ⟨id, x, nm', h1, h2, h3, h4⟩ := ho
      obtain ⟨b1, c2, b2, b3⟩ := hH id x h1
      exact ⟨_, c2, nm', b2, lessHB_live b3 h2, (envR_some h3).2, h4⟩
    fam := fun b hz ho => by
      refine hm.hm.fam b (hz.mono fun id size C hf => by
        obtain ⟨a1, c1, a2, a3⟩ := hH id _ hf
        obtain ⟨C', rfl, hc⟩ := lessHB_fam a3
        exact ⟨_, C', a2, hc⟩) ?_
      obtain ⟨id, x, nm', h1, h2, h3, h4⟩ := ho
      obtain ⟨b1, c2, b2, b3⟩ := hH id x h1
      exact ⟨_, c2, nm', b2, lessHB_live b3 h2, (envR_some h3).2, h4⟩ }
  kp := {
    str := hm.kp.str
    size := hm.kp.size
    same := hm.kp.same
    own := fun b ho => by
      obtain ⟨id, x, nm', h1, h2, h3, h4⟩ := ho
      obtain ⟨b1, c2, b2, b3⟩ := hH id x h1
      exact hm.kp.own b ⟨_, c2, nm', b2, lessHB_live b3 h2, (envR_some h3).2, h4⟩
    ext := fun j nm hj => by
      have hlt : j < n0 := by
        rcases Nat.lt_or_ge j n0 with h | h
        · exact h
        · rw [hn j h] at hj; cases hj
      rw [envR_lt (by omega), hfix j hlt]; exact hm.kp.ext j nm hj
    fz := fun b hz => hm.kp.fz b (hz.mono fun id size C hf => by
        obtain ⟨a1, c1, a2, a3⟩ := hH id _ hf
        obtain ⟨C', rfl, hc⟩ := lessHB_fam a3
        exact ⟨_, C', a2, hc⟩) }
  nx := fun j hj => by unfold envR; rw [if_neg (by omega)]
  sz := hm.sz

mutual
theorem idsSV_up (h : n ≤ n') : ∀ (x : SV), idsSV n x = true → idsSV n' x = true
  | .sv _, _ => by simp [idsSV]
  | .si _ _, _ => by simp [idsSV]
  | .sb _, _ => by simp [idsSV]
  | .sp i _, k => by simp only [idsSV, ltN_iff] at k ⊢; omega
  | .se i _ _, k => by simp only [idsSV, ltN_iff] at k ⊢; omega
  | .sl i, k => by simp only [idsSV, ltN_iff] at k ⊢; omega
  | .sm i, k => by simp only [idsSV, ltN_iff] at k ⊢; omega
  | .fy i, k => by simp only [idsSV, ltN_iff] at k ⊢; omega
  | .ss i _ _ _, k => by simp only [idsSV, ltN_iff] at k ⊢; omega
  | .agg l, k => by simp only [idsSV] at k ⊢; exact idsL_up h l k
  | .tup l, k => by simp only [idsSV] at k ⊢; exact idsL_up h l k
  | .fn _ a b, k => by
    simp only [idsSV] at k ⊢
    split at k
    · rename_i e; rw [idsL_up h a e]; exact idsL_up h b k
    · cases k
  | .ifc _ x, k => by simp only [idsSV] at k ⊢; exact idsSV_up h x k
theorem idsL_up (h : n ≤ n') : ∀ (x : List SV), idsL n x = true → idsL n' x = true
  | [], _ => by simp [idsL]
  | x :: r, k => by
    simp only [idsL] at k ⊢
    split at k
    · rename_i e; rw [idsSV_up h x e]; exact idsL_up h r k
    · cases k
end
mutual
theorem renSV_congr (h : ∀ j, j < n → s j = s' j) : ∀ (x : SV), idsSV n x = true → renSV s x = renSV s' x
  | .sv _, _ => rfl
  | .si _ _, _ => rfl
  | .sb _, _ => rfl
  | .sp i _, k => by simp only [idsSV, ltN_iff] at k; simp only [renSV, h i k]
  | .se i _ _, k => by simp only [idsSV, ltN_iff] at k; simp only [renSV, h i k]
  | .sl i, k => by simp only [idsSV, ltN_iff] at k; simp only [renSV, h i k]
  | .sm i, k => by simp only [idsSV, ltN_iff] at k; simp only [renSV, h i k]
  | .fy i, k => by simp only [idsSV, ltN_iff] at k; simp only [renSV, h i k]
  | .ss i _ _ _, k => by simp only [idsSV, ltN_iff] at k; simp only [renSV, h i k]
  | .agg l, k => by simp only [idsSV] at k; simp only [renSV, renL_congr h l k]
  | .tup l, k => by simp only [idsSV] at k; simp only [renSV, renL_congr h l k]
  | .fn _ a b, k => by
    simp only [idsSV] at k
    split at k
    · rename_i e; simp only [renSV, renL_congr h a e, renL_congr h b k]
    · cases k
  | .ifc _ x, k => by simp only [idsSV] at k; simp only [renSV, renSV_congr h x k]
theorem renL_congr (h : ∀ j, j < n → s j = s' j) : ∀ (x : List SV), idsL n x = true → renL s x = renL s' x
  | [], _ => rfl
  | x :: r, k => by
    simp only [idsL] at k
    split at k
    · rename_i e; simp only [renL, renSV_congr h x e, renL_congr h r k]
    · cases k
end
theorem lessHB_up (h : ∀ j, j < n → s j = s' j) (hn : n ≤ n') {x y : HB} (k : lessHB s n x y) : lessHB s' n' x y := by
  cases y with
  | dead => cases x <;> exact trivial
  | dfr => cases x <;> simp only [lessHB] at k ⊢
  | fam y C => cases x <;> simp only [lessHB] at k ⊢; exact k
  | cells U ds =>
    cases x <;> simp only [lessHB] at k ⊢
    obtain ⟨h1, h2, h3⟩ := k
    exact ⟨h1, by rw [← renL_congr h ds h3]; exact h2, idsL_up hn _ h3⟩
  | row U y k' ys =>
    cases x <;> simp only [lessHB] at k ⊢
    obtain ⟨h1, h2, h3, h4, h5⟩ := k
    exact ⟨h1, h2, h3, by rw [← renL_congr h ys h5]; exact h4, idsL_up hn _ h5⟩
  | vec U y k' g =>
    cases x <;> simp only [lessHB] at k ⊢
    · obtain ⟨h1, h2, h3, h4⟩ := k
      exact ⟨h1, h2, h3, fun i hi => ⟨by rw [← renL_congr h _ (h4 i hi).2]; exact (h4 i hi).1, idsL_up hn _ (h4 i hi).2⟩⟩
    · obtain ⟨h1, h2, h3, h4⟩ := k
      exact ⟨h1, h2, h3, fun i hi => ⟨by rw [← renL_congr h _ (h4 i hi).2]; exact (h4 i hi).1, idsL_up hn _ (h4 i hi).2⟩⟩
  | ro y k' g =>
    cases x <;> simp only [lessHB] at k ⊢
    obtain ⟨h1, h2, h4⟩ := k
    exact ⟨h1, h2, fun i hi => ⟨by rw [← renL_congr h _ (h4 i hi).2]; exact (h4 i hi).1, idsL_up hn _ (h4 i hi).2⟩⟩
  | map fs d => cases x <;> simp only [lessHB] at k ⊢; exact k
  | mp l => cases x <;> simp only [lessHB] at k ⊢ <;> exact k
  | it a b c d =>
    cases x <;> simp only [lessHB] at k ⊢
    obtain ⟨h1, h2, h3, h4, h5⟩ := k
    rw [ltN_iff] at h5
    exact ⟨by rw [← h a h5]; exact h1, h2, h3, h4, by rw [ltN_iff]; omega⟩
  | loop F nt fn ps a b db st pd =>
    cases x <;> simp only [lessHB] at k ⊢
    obtain ⟨h1, h2, h3, h4, h5, h6, h7, h8, h9, h10⟩ := k
    rw [ltN_iff] at h7
    exact ⟨h1, h2, h3, h4, h5, by rw [← h db h7]; exact h6, by rw [ltN_iff]; omega, h8, h9, fun t v hv => ⟨by rw [← renSV_congr h v (h10 t v hv).2]; exact (h10 t v hv).1, idsSV_up hn _ (h10 t v hv).2⟩⟩
end

theorem markL_weak {s : Nat → Nat} : ∀ {k : Nat}, k ≤ 1000 → (∀ i, i < k → s (1000 + i) = 1000 + i) → weakRD s 2000 (markL k) (markL k)
  | 0, _, _ => trivial
  | k + 1, h, hs => ⟨rfl, ⟨⟨(hs k (by omega)).symm, rfl⟩, trivial⟩, by simp only [idsL, idsSV, show ltN (1000 + k) 2000 = true from ltN_iff.2 (by omega)], markL_weak (by omega) fun i hi => hs i (by omega)⟩

theorem loop_okM {X : Cx} (hX : X.Ok) {body : Code} {st : St} {K : Ex → St → Prop} {α : Type} (n0 : Nat) (J : α → St) (kk : α → Nat) (μ : α → Nat) (hn : ∀ j, n0 ≤ j → X.G.ρ j = none) (x0 : α) (s0 : Nat → Nat)
    (h0 : WeakR n0 s0 st (J x0)) (hk0 : kk x0 = 0) (hnx : (J x0).nx ≤ 1000) (hD : st.D = []) (hr : ∀ x, exec X body (withM (J x) (kk x)) (RoundM n0 J kk μ x K)) : SemC X (.loop body) st K := by
  intro ρ a w hm
  have hstart : ∃ ρ, Mod X ρ (withM (J x0) (kk x0)) a w := by
    have h1 := hm.ren h0 hn
    have h2 : Mod X (envR ρ s0 (J x0).nx) { J x0 with nx := 2000 } a w := {
      fm := h1.fm, gs := h1.gs, df := h1.df, hm := h1.hm, kp := h1.kp, nx := fun j hj => h1.nx j (by have : 2000 ≤ j := hj; omega), sz := h1.sz }
    have e : withM (J x0) (kk x0) = { J x0 with nx := 2000 } := by
      have hDD : (J x0).D = [] := by
        have := h0.D
        rw [hD] at this
        cases e : (J x0).D with
        | nil => rfl
        | cons a r => rw [e] at this; exact this.elim
      rw [hk0]
      cases hj : J x0 with
      | mk F gs H nx D =>
        rw [hj] at hDD
        simp only at hDD
        subst hDD
        simp [withM, dfrL, markL]
    exact ⟨_, by rw [e]; exact h2⟩
  refine wpIn_loop_rel (fun j a w => ∃ x ρ, μ x = j ∧ Mod X ρ (withM (J x) (kk x)) a w) ⟨x0, hstart.choose, rfl, hstart.choose_spec⟩ ?_
  rintro j a' w' ⟨x, ρ', rfl, hm'⟩
  refine wpIn_mono (exec_ok hX body _ _ (hr x) ρ' a' w' hm') ?_
  rintro e a₂ w₂ ⟨y, st₂, ρ₂, rfl, hm₂, hk⟩
  cases y with
  | normal =>
    obtain ⟨x', s, id, hw, hnx', hkk, hlt, hD₂, hid, hfd, hmk, hout, hμ⟩ := hk
    have hid := Nat.le_of_ble_eq_true hid
    have hnx2 : (withM (J x') (kk x')).nx = 2000 := by cases J x'; rfl
    have hF2 : (withM (J x') (kk x')).F = (J x').F := by cases J x'; rfl
    have hH2 : (withM (J x') (kk x')).H = (J x').H ++ dfrL (kk x + 1) := by rw [← hkk]; cases J x'; rfl
    have hD2 : (withM (J x') (kk x')).D = markL (kk x + 1) := by rw [← hkk]; cases J x'; rfl
    have hag : ∀ j, j < (J x').nx → s j = sMark s id (kk x) j := fun j hj => by unfold sMark; rw [if_pos (by omega)]
    have hdec : ∀ t hb, findH (withM (J x') (kk x')).H t = some hb → (t < 1000 ∧ t < (J x').nx ∧ findH (J x').H t = some hb) ∨ (1000 ≤ t ∧ t < 1000 + (kk x + 1) ∧ hb = .dfr) := by
      intro t hb hf
      rw [hH2, findH_app] at hf
      split at hf
      · rename_i y e
        cases hf
        have := (weakRH_ok hw.H t hb e).1
        exact .inl ⟨by omega, this, e⟩
      · rw [dfrL_find] at hf
        split at hf
        · rename_i h; cases hf; exact .inr ⟨h.1, h.2, rfl⟩
        · cases hf
    refine ⟨_, hμ, x', _, rfl, Mod.ren2 n0 (sMark s id (kk x)) hm₂ hn ?_ ?_ ?_ ?_ ?_ ?_⟩
    · intro t e hf
      rw [hF2] at hf
      obtain ⟨h1, h2, h3⟩ := weakRF_ok hw.F t e hf
      rw [hnx2]
      exact ⟨h1, idsSV_up (by omega) _ h2, by rw [← renSV_congr hag _ h2]; exact h3⟩
    · intro t hb hf
      rw [hnx2]
      rcases hdec t hb hf with ⟨h1, h2, h3⟩ | ⟨h1, h2, rfl⟩
      · obtain ⟨_, hc, q1, q2⟩ := weakRH_ok hw.H t hb h3
        exact ⟨by omega, hc, by rw [← hag t h2]; exact q1, lessHB_up hag (by omega) q2⟩
      · refine ⟨by omega, .dfr, ?_, trivial⟩
        unfold sMark
        rw [if_neg (by omega)]
        split
        · exact hfd
        · rw [hmk t h1 (by omega), dfrL_find, if_pos (by omega)]
    · intro i j x1 x2 h1 h2 he
      have hs1 : ∀ t hb, findH (J x').H t = some hb → (s t < 1000 ∨ 2000 ≤ s t) ∧ s t ≠ id := fun t hb h => outI_ok hout t hb h
      have cold : ∀ t hb, t < 1000 → t < (J x').nx → findH (J x').H t = some hb → ∀ u, 1000 ≤ u → u < 1000 + (kk x + 1) → sMark s id (kk x) t ≠ sMark s id (kk x) u := by
        intro t hb q1 q2 q3 u u1 u2 heq
        have := hs1 t hb q3
        unfold sMark at heq
        rw [if_pos q1, if_neg (by omega)] at heq
        split at heq
        · exact this.2 heq
        · omega
      rcases hdec i x1 h1 with ⟨p1, p2, p3⟩ | ⟨p1, p2, rfl⟩ <;> rcases hdec j x2 h2 with ⟨r1, r2, r3⟩ | ⟨r1, r2, rfl⟩
      · rw [← hag i p2, ← hag j r2] at he
        exact injI_ok hw.inj i j x1 x2 p3 r3 he
      · exact absurd he (cold i x1 p1 p2 p3 j r1 r2)
      · exact absurd he.symm (cold j x2 r1 r2 r3 i p1 p2)
      · have e1 : ∀ u, 1000 ≤ u → sMark s id (kk x) u = if u = 1000 + kk x then id else u := fun u hu => by unfold sMark; rw [if_neg (by omega)]
        rw [e1 i p1, e1 j r1] at he
        split at he <;> split at he <;> omega
    · intro j hj
      have hge := Nat.le_of_ble_eq_true hw.ge
      rw [← hag j (by omega)]
      exact fixI_ok hw.fix j hj
    · have hge := Nat.le_of_ble_eq_true hw.ge
      rw [hnx2]; omega
    · rw [hnx2, hD2, hD₂]
      refine ⟨rfl, ⟨⟨?_, rfl⟩, trivial⟩, by simp only [idsL, idsSV, show ltN (1000 + kk x) 2000 = true from ltN_iff.2 (by omega)], markL_weak (by omega) fun i hi => ?_⟩
      · unfold sMark
        rw [if_neg (by omega), if_pos rfl]
      · unfold sMark
        rw [if_neg (by omega), if_neg (by omega)]
  | ret => exact ⟨.ret, st₂, ρ₂, rfl, hm₂, hk⟩
  | exit n => exact ⟨.exit n, st₂, ρ₂, rfl, hm₂, hk⟩
  | panic ch => exact ⟨.panic ch, st₂, ρ₂, rfl, hm₂, hk⟩

/-- The marks are taken away. -/
theorem killM_marks : ∀ {k : Nat} {H : List (Nat × HB)}, k ≤ 1000 → (∀ t, 1000 ≤ t → t < 1000 + k → findH H t = some .dfr) → ∃ H', killM (markL k) H = some H' ∧ ∀ t, t < 1000 ∨ 2000 ≤ t → findH H' t = findH H t
  | 0, H, _, _ => ⟨H, rfl, fun _ _ => rfl⟩
  | k + 1, H, hk, h => by
    have h1 := h (1000 + k) (by omega) (by omega)
    obtain ⟨H', h2, h3⟩ := killM_marks (k := k) (H := (1000 + k, .dead) :: H) (by omega) (fun t t1 t2 => by
      rw [findH_skip (by omega)]; exact h t t1 (by omega))
    refine ⟨H', ?_, fun t ht => by rw [h3 t ht, findH_skip (by omega)]⟩
    simp only [markL, killM]
    rw [h1]
    exact h2
theorem finM_ret {X : Cx} {rs : List ResultVar} {Rv : SV → St → Prop} {Rp : List PanicEntry → St → Prop} {st : St} (k : Nat) {l : List SV} (hD : st.D = markL k) (hk : k ≤ 1000)
    (hm : ∀ t, 1000 ≤ t → t < 2000 → findH st.H t = findH (dfrL k) t) (hl : resAll X st rs = some l)
    (h : ∀ H', (∀ t, t < 1000 ∨ 2000 ≤ t → findH H' t = findH st.H t) → Rv (resV l) ⟨st.F, st.gs, H', st.nx, []⟩) : FinM X rs Rv Rp .ret st := by
  obtain ⟨H', h1, h2⟩ := killM_marks (k := k) (H := st.H) hk (fun t t1 t2 => by rw [hm t t1 (by omega), dfrL_find, if_pos ⟨t1, t2⟩])
  simp only [FinM, hD, hl, h1, fSVL_eq]
  exact h H' h2
theorem keepP_same {H H' : List (Nat × HB)} (h : ∀ t, t < 1000 ∨ 2000 ≤ t → findH H' t = findH H t) : ∀ {l : List (Nat × HB)}, (l.all fun x => Nat.ble x.1 999) = true → keepP H l → keepP H' l
  | [], _, _ => trivial
  | (i, x) :: r, hl, hk => by
    simp only [List.all_cons, Bool.and_eq_true] at hl
    have hi := Nat.le_of_ble_eq_true hl.1
    simp only [keepP] at hk ⊢
    rw [h i (.inl (by omega))]
    exact ⟨hk.1, keepP_same h hl.2 hk.2⟩
theorem apartI_id {t : Nat} : ∀ (H : List (Nat × HB)), apartI (fun j => j) t H = true
  | [] => rfl
  | (j, _) :: r => by
    simp only [apartI]
    cases Nat.beq t j <;> simp only [apartI_id r]
theorem injI_id : ∀ (H : List (Nat × HB)), injI (fun j => j) H = true
  | [] => rfl
  | (t, _) :: r => by simp only [injI, apartI_id, injI_id r]
theorem fixI_id : ∀ (n : Nat), fixI (fun j => j) n = true
  | 0 => rfl
  | n + 1 => by simp only [fixI, Nat.beq_refl, fixI_id n]
theorem dfrL_some {k t : Nat} (h1 : 1000 ≤ t) (h2 : t < 1000 + k) : findH (dfrL k) t = some .dfr := by rw [dfrL_find, if_pos ⟨h1, h2⟩]
theorem weakRH_tail {n : Nat} {H : List (Nat × HB)} : ∀ {k : Nat}, k ≤ 1000 → 2000 ≤ n → (∀ t, 1000 ≤ t → t < 1000 + k → findH H t = some .dfr) → weakRH (fun j => j) n H (dfrL k)
  | 0, _, _, _ => trivial
  | k + 1, hk, hn, h => by
    simp only [dfrL, weakRH, h (1000 + k) (by omega) (by omega)]
    exact ⟨⟨trivial, ltN_iff.2 (by omega)⟩, weakRH_tail (by omega) hn fun t t1 t2 => h t t1 (by omega)⟩
def outN (a : Nat) : Bool := match Nat.ble 1000 a with
  | false => true
  | true => Nat.ble 2000 a
theorem findH_out {a : Nat} {x : HB} {l : List (Nat × HB)} {t : Nat} (h : outN a = true) (t1 : 1000 ≤ t) (t2 : t < 2000) : findH ((a, x) :: l) t = findH l t := by
  refine findH_skip fun e => ?_
  subst e
  unfold outN at h
  rw [Nat.ble_eq_true_of_le t1] at h
  have := Nat.le_of_ble_eq_true h
  omega

/-! ### Functions whose loops leave marks -/
/-- The ends of a body, not looked into. -/
structure FinB (X : Cx) (rs : List ResultVar) (Rv : SV → St → Prop) (Rp : List PanicEntry → St → Prop) (e : Ex) (st : St) : Prop where
  h : FinM X rs Rv Rp e st
section
variable {X : Cx} {st : St} {ρ : Env} {a : Act} {w : World}
theorem calls_of_execB (hX : X.Ok) (hr : X.r = none) {f : Nat} {fn : Func} {c : Code} (hf : X.P.funcs[f]? = some fn) (hb : fn.body = some c) (hnt : fn.ntmps = X.nt)
    {args : List SV} {vals : List Value} {H : List (Nat × HB)} {nx : Nat} (hd : denL ρ args = some vals) (hlen : args.length ≤ X.nt) (hH : HM ρ (findH H) w)
    (hG : X.G = ⟨w, Own ρ (findH H), ρ, Fz (findH H)⟩) (hnx : ∀ j, nx ≤ j → ρ j = none) {Rv : SV → St → Prop} {Rp : List PanicEntry → St → Prop}
    (hcells : ∀ x ∈ fn.results.toList, ∃ t, x = .tmp t ∨ ∃ ty, x = .cell t ty)
    (h : exec X c (start args H nx) (fun e st => FinB X fn.results.toList Rv Rp e st)) : Calls X.P f vals.toArray w (CEnd X Rv Rp) := by
  refine (callsIn_wide (n := 0)).1 ?_
  have hm := start_mod (X := X) hd hlen hH hG hnx
  have hw := exec_ok hX c _ _ h ρ _ w hm
  rw [hr] at hw
  refine callsIn_of_wp_marks (F := Fence.wide) hf hb trivial (wpIn_mono (by rw [hnt]; exact hw) ?_)
  rintro e a' w' ⟨x, st', ρ', rfl, hm', hk⟩
  have hk := hk.h
  have hret : (match resAll X st' fn.results.toList, killM st'.D st'.H with
      | some l, some H' => fSVL l fun l' => Rv (resV l') ⟨st'.F, st'.gs, H', st'.nx, []⟩
      | _, _ => False) → LeavesInM Fence.wide 0 X.P fn a'.tmps (CEnd X Rv Rp) a'.defers .returning w' := by
    intro hk
    split at hk
    · rename_i l H' e1 e2
      rw [fSVL_eq] at hk
      refine leavesM (X := X) (ρ := ρ') (F := st'.F) (gs := st'.gs) (nx := st'.nx) (by intro h; cases h) (D := st'.D) (H := st'.H) e2 hm' (fun w'' q3 => ?_)
      have hres : resAll X ⟨st'.F, st'.gs, H', st'.nx, []⟩ fn.results.toList = some l := by
        have : ∀ (rs : List ResultVar) (l : List SV), resAll X st' rs = some l → resAll X ⟨st'.F, st'.gs, H', st'.nx, []⟩ rs = some l := by
          intro rs
          induction rs with
          | nil => intro l h; exact h
          | cons x r ih =>
            intro l h
            simp only [resAll] at h ⊢
            split at h
            · rename_i v l' h1 h2
              rw [ih _ h2]
              have : resOne X ⟨st'.F, st'.gs, H', st'.nx, []⟩ x = some v := by
                cases x with
                | tmp t => exact h1
                | cell t ty =>
                  simp only [resOne] at h1 ⊢
                  split at h1
                  · rename_i ti id off g1 g2
                    split at h1
                    · rename_i T cs g3
                      rw [killM_cells _ _ _ e2 id T cs g3]; exact h1
                    · cases h1
                  · cases h1
              rw [this]; exact h
            · cases h
        exact this _ _ e1
      obtain ⟨u, h1, h2⟩ := results_ok hX q3 hres
      exact ⟨u, h1, .inl ⟨_, _, ρ', u, rfl, h2, q3.mh, hk⟩⟩
    · exact hk.elim
  cases x with
  | normal => exact hret hk
  | ret => exact hret hk
  | panic ch =>
    simp only [FinM] at hk
    split at hk
    · rename_i H' e2
      exact leavesM (X := X) (ρ := ρ') (F := st'.F) (gs := st'.gs) (nx := st'.nx) (by intro h; cases h) (D := st'.D) (H := st'.H) e2 hm' (fun w'' q3 => .inr ⟨ch, _, ρ', rfl, q3.mh, hk⟩)
    · exact hk.elim
  | exit n => exact hk.elim

/-- What a contract rests on. -/
def WalkB (P : Program) (T : Tab) (C : Nat → Option Ct) (fn : Func) (c : Code) (H : LH) (args : List SV) (fr : Nat) (out : COut) : Prop :=
  ∃ (ps : List (Nat × HB)) (args₀ : List SV) (H₀ : List (Nat × HB)) (n₀ : Nat) (K : List Nat), args = renL (sigP ps) args₀ ∧ knL ps.length [] args₀ = true ∧ args₀.length ≤ fn.ntmps ∧ Hand H ps ∧ H₀ = numb 0 ps ∧ n₀ = ps.length ∧
    ∀ G : Base, (∀ j, n₀ ≤ j → G.ρ j = none) → exec ⟨P, T, C, G, none, fn.ntmps⟩ c (start args₀ H₀ n₀) (fun e st => FinB ⟨P, T, C, G, none, fn.ntmps⟩ fn.results.toList
      (fun v st => (out.pan = none ∨ ∃ ch, out.pan = some (false, ch)) ∧ EndOk ps K fr out v st) (fun ch st => out.pan = some (true, ch) ∧ keepP st.H H₀) e st)
theorem cokB {P : Program} {T : Tab} {C : Nat → Option Ct} (hX : ∀ G r nt, (⟨P, T, C, G, r, nt⟩ : Cx).Ok) {f : Nat} {fn : Func} {c : Code} (hf : P.funcs[f]? = some fn) (hb : fn.body = some c) {ct : Ct}
    (h : ∀ fr args H out, ct fr args H = some out → PreH out.pre → WalkB P T C fn c H args fr out) : COk P f ct :=
  cokC fun fr args H out h1 h2 => by
    obtain ⟨ps, args₀, H₀, n₀, K, h1, h2, h3, h4, h5, h6, hex⟩ := h fr args H out h1 h2
    refine ⟨ps, args₀, H₀, n₀, K, h1, h2, h3, h4, h5, h6, fun ρ w vals hd hm hnx => ?_⟩
    exact calls_of_execB (X := ⟨P, T, C, ⟨w, Own ρ (findH H₀), ρ, Fz (findH H₀)⟩, none, fn.ntmps⟩) (hX _ _ _) rfl hf hb rfl hd h3 hm rfl hnx (fun x _ => by cases x with | tmp t => exact ⟨t, .inl rfl⟩ | cell t ty => exact ⟨t, .inr ⟨ty, rfl⟩⟩) (hex _ hnx)
end
end Go.X
end

section
set_option linter.unusedVariables false
set_option linter.unusedSimpArgs false
set_option linter.unusedSectionVars false
/- Calls that are run through without the marks that lie beside. -/
set_option linter.unusedVariables false
set_option linter.unusedSimpArgs false
set_option maxRecDepth 10000
namespace Go.X
open Go

def outL : List (Nat × HB) → Bool
  | [] => true
  | (a, _) :: r => match outN a with
    | true => outL r
    | false => false
theorem outL_find : ∀ {A : List (Nat × HB)}, outL A = true → ∀ t x, findH A t = some x → t < 1000 ∨ 2000 ≤ t
  | (a, y) :: r, h, t, x, hf => by
    simp only [outL] at h
    split at h
    · rename_i ha
      by_cases e : a = t
      · subst e
        unfold outN at ha
        split at ha
        · rename_i hb
          have : ¬ 1000 ≤ a := fun hle => by rw [Nat.ble_eq_true_of_le hle] at hb; cases hb
          omega
        · exact .inr (Nat.le_of_ble_eq_true ha)
      · rw [findH_skip e] at hf
        exact outL_find h t x hf
    · cases h

def roPos : List (Nat × HB) → Bool
  | [] => true
  | (_, .ro 0 _ _) :: _ => false
  | _ :: r => roPos r
theorem roPos_find : ∀ {A : List (Nat × HB)}, roPos A = true → ∀ t s n g, findH A t = some (.ro s n g) → 0 < s
  | (a, y) :: r, h, t, s, n, g, hf => by
    by_cases e : a = t
    · subst e
      rw [findH_cons, updL_self] at hf
      cases hf
      cases s with
      | zero => simp [roPos] at h
      | succ s => omega
    · rw [findH_skip e] at hf
      refine roPos_find (A := r) ?_ t s n g hf
      cases y with
      | ro s2 n2 g2 =>
        cases s2 with
        | zero => simp [roPos] at h
        | succ s2 => exact h
      | _ => exact h
theorem callS_frame {P : Program} {n : Nat} {l : List SV} {H : List (Nat × HB)} {nx : Nat} {Rv : SV → List (Nat × HB) → Nat → Prop} {Rp : List PanicEntry → List (Nat × HB) → Nat → Prop} (A : List (Nat × HB)) (k : Nat) (hA : H = A ++ dfrL k) (hk : k ≤ 1000) (ho : outL A = true)
    (h : CallS P n l A nx (fun v H' nx' => roPos H' = true ∧ Rv v (H' ++ dfrL k) nx') (fun ch H' nx' => roPos H' = true ∧ Rp ch (H' ++ dfrL k) nx')) : CallS P n l H nx Rv Rp := by
  subst hA
  intro ρ w vals hm hnx hd
  have hsub : ∀ t x, findH A t = some x → findH (A ++ dfrL k) t = some x := fun t x hx => by rw [findH_app, hx]
  have hdis : ∀ t x, findH (dfrL k) t = some x → 1000 ≤ t ∧ t < 2000 ∧ findH A t = none ∧ x = .dfr := fun t x hx => by
    rw [dfrL_find] at hx
    split at hx
    · rename_i h
      cases hx
      refine ⟨h.1, by omega, ?_, rfl⟩
      cases e : findH A t with
      | none => rfl
      | some y => have := outL_find ho t y e; omega
    · cases hx
  have hmA : HM ρ (findH A) w := {
    ok := fun id hb hf => hm.ok id hb (hsub _ _ hf)
    sep := fun i j x y n₁ n₂ b h1 h2 => hm.sep i j x y n₁ n₂ b (hsub _ _ h1) (hsub _ _ h2)
    ro := fun j size m get nm b hf hpos hr hb hO => by
      refine hm.ro j size m get nm b (hsub _ _ hf) hpos hr hb ?_
      obtain ⟨id, x, nm', h1, h2, h3, h4⟩ := hO
      exact ⟨id, x, nm', hsub _ _ h1, h2, h3, h4⟩
    fam := fun b hz ho => by
      refine hm.fam b (hz.sub fun id size C h => hsub _ _ h) ?_
      obtain ⟨id, x, nm', h1, h2, h3, h4⟩ := ho
      exact ⟨id, x, nm', hsub _ _ h1, h2, h3, h4⟩ }
  have hownA : ∀ b, Own ρ (findH A) b → Own ρ (findH (A ++ dfrL k)) b := fun b ⟨id, x, nm', h1, h2, h3, h4⟩ => ⟨id, x, nm', hsub _ _ h1, h2, h3, h4⟩
  -- what the marks own lies apart
  have hR : ∀ t x, findH (dfrL k) t = some x → findH (A ++ dfrL k) t = some x := fun t x hx => by
    rw [findH_app, (hdis t x hx).2.2.1]; exact hx
  have hRown : ∀ t x nm b, findH (dfrL k) t = some x → ρ t = some nm → nm.owner = some b → ¬ Own ρ (findH A) b := by
    intro t x nm b h1 h2 h3 ⟨id, y, nm', g1, g2, g3, g4⟩
    have hx := (hdis t x h1).2.2.2
    have := hm.sep id t y x nm' nm b (hsub _ _ g1) (hR _ _ h1) g2 (by rw [hx]; rfl) g3 h2 g4 h3
    subst this
    rw [(hdis _ x h1).2.2.1] at g1
    cases g1
  have back : ∀ {H' : List (Nat × HB)} {ρ' : Env} {w' : World}, roPos H' = true → HM ρ' (findH H') w' → Keep ⟨w, Own ρ (findH A), ρ, Fz (findH A)⟩ ρ' (findH H') w' →
      HM ρ' (findH (H' ++ dfrL k)) w' ∧ Keep ⟨w, Own ρ (findH (A ++ dfrL k)), ρ, Fz (findH (A ++ dfrL k))⟩ ρ' (findH (H' ++ dfrL k)) w' := by
    intro H' ρ' w' hpo hm' hk'
    have cases' : ∀ t x, findH (H' ++ dfrL k) t = some x → findH H' t = some x ∨ findH H' t = none ∧ findH (dfrL k) t = some x := by
      intro t x hx
      rw [findH_app] at hx
      split at hx
      · rename_i e; cases hx; exact .inl e
      · rename_i e; exact .inr ⟨e, hx⟩
    -- a mark's place in the new environment
    have hmk : ∀ t x, findH (dfrL k) t = some x → ∃ b, ρ t = some (.blk b) ∧ ρ' t = some (.blk b) ∧ w.heap[b]? = some (.deferred (some [])) ∧ b < w.heap.size ∧ ¬ Own ρ (findH A) b := by
      intro t x hx
      obtain ⟨nm, h1, h2⟩ := hm.ok _ _ (hR _ _ hx)
      have hxd := (hdis t x hx).2.2.2
      subst hxd
      cases nm <;> simp only [HBok] at h2
      rename_i b
      refine ⟨b, h1, hk'.ext _ _ h1, h2, ?_, hRown t _ _ b hx h1 rfl⟩
      rcases Nat.lt_or_ge b w.heap.size with h | h
      · exact h
      · rw [Array.getElem?_eq_none h] at h2; cases h2
    have fzNew : ∀ b, Fz (findH (H' ++ dfrL k)) b → Fz (findH H') b := fun b hz => hz.sub fun id size C hf => by
      rcases cases' id _ hf with h1 | ⟨_, h1⟩
      · exact h1
      · have := (hdis id _ h1).2.2.2
        cases this
    have ownNew : ∀ b, Own ρ' (findH H') b → Own ρ (findH A) b ∨ w.heap.size ≤ b := fun b hO => hk'.own b hO
    refine ⟨?_, ?_⟩
    · exact {
        ok := fun id hb hf => by
          rcases cases' id hb hf with h1 | ⟨_, h1⟩
          · exact hm'.ok id hb h1
          · obtain ⟨b, q1, q2, q3, q4, q5⟩ := hmk id hb h1
            have hxd := (hdis id hb h1).2.2.2
            subst hxd
            exact ⟨_, q2, by show w'.heap[b]? = _; rw [hk'.same b q4 q5]; exact q3⟩
        sep := fun i j x y n₁ n₂ b h1 h2 l1 l2 r1 r2 o1 o2 => by
          rcases cases' i x h1 with h1 | ⟨_, h1⟩ <;> rcases cases' j y h2 with h2 | ⟨_, h2⟩
          · exact hm'.sep i j x y n₁ n₂ b h1 h2 l1 l2 r1 r2 o1 o2
          · obtain ⟨c, q1, q2, q3, q4, q5⟩ := hmk j y h2
            rw [q2] at r2; cases r2
            simp only [Nm.owner, Option.some.injEq] at o2
            subst o2
            rcases ownNew _ ⟨i, x, n₁, h1, l1, r1, o1⟩ with h | h
            · exact absurd h q5
            · omega
          · obtain ⟨c, q1, q2, q3, q4, q5⟩ := hmk i x h1
            rw [q2] at r1; cases r1
            simp only [Nm.owner, Option.some.injEq] at o1
            subst o1
            rcases ownNew _ ⟨j, y, n₂, h2, l2, r2, o2⟩ with h | h
            · exact absurd h q5
            · omega
          · obtain ⟨c, q1, q2, q3, q4, q5⟩ := hmk i x h1
            obtain ⟨c', p1, p2, p3, p4, p5⟩ := hmk j y h2
            rw [q2] at r1; cases r1
            rw [p2] at r2; cases r2
            exact hm.sep i j x y _ _ b (hR _ _ h1) (hR _ _ h2) l1 l2 q1 p1 o1 o2
        ro := fun j size m get nm b hf hpos hr hb hO => by
          rcases cases' j _ hf with h1 | ⟨_, h1⟩
          · obtain ⟨id, x, nm', g1, g2, g3, g4⟩ := hO
            rcases cases' id x g1 with g1 | ⟨_, g1⟩
            · exact hm'.ro j size m get nm b h1 hpos hr hb ⟨id, x, nm', g1, g2, g3, g4⟩
            · obtain ⟨c, q1, q2, q3, q4, q5⟩ := hmk id x g1
              rw [q2] at g3; cases g3
              simp only [Nm.owner, Option.some.injEq] at g4
              subst g4
              obtain ⟨nm2, k1, k2⟩ := hm'.ok j _ h1
              rw [hr] at k1; cases k1
              cases nm <;> simp only [HBok] at k2
              rename_i a n' c' s'
              obtain ⟨_, _, _, k3⟩ := k2
              obtain ⟨ad, rfl, klt, k4⟩ := k3 hpos
              simp only [roBlock, Option.some.injEq] at hb
              obtain ⟨vs, d1, d2, d3, d4⟩ := k4 0 hpos
              have hz : w'.heap[c]? = some (.deferred (some [])) := by rw [hk'.same c q4 q5]; exact q3
              have hs0 := roPos_find hpo j _ _ _ h1
              obtain ⟨v, hv⟩ : ∃ v, vs[0]? = some v := ⟨_, List.getElem?_eq_getElem (by omega)⟩
              have := d4 0 v hv
              simp only [World.cell?, add_block, hb, hz] at this
              cases this
          · have := (hdis j _ h1).2.2.2
            cases this
        fam := fun b hz hO => by
          have hz := fzNew b hz
          obtain ⟨id, x, nm', g1, g2, g3, g4⟩ := hO
          rcases cases' id x g1 with g1 | ⟨_, g1⟩
          · exact hm'.fam b hz ⟨id, x, nm', g1, g2, g3, g4⟩
          · obtain ⟨c, q1, q2, q3, q4, q5⟩ := hmk id x g1
            rw [q2] at g3; cases g3
            simp only [Nm.owner, Option.some.injEq] at g4
            subst g4
            rcases hk'.fz _ hz with h | h | h
            · exact q5 h
            · have h : w.heap.size ≤ c := h
              omega
            · exact hm.fam c (h.sub fun id size C h => hsub _ _ h) ⟨id, x, _, hR _ _ g1, g2, q1, rfl⟩ }
    · exact {
        str := hk'.str
        size := hk'.size
        same := fun b hb hnM => hk'.same b hb (fun h => hnM (hownA b h))
        own := fun b ⟨id, x, nm', g1, g2, g3, g4⟩ => by
          rcases cases' id x g1 with g1 | ⟨_, g1⟩
          · rcases ownNew b ⟨id, x, nm', g1, g2, g3, g4⟩ with h | h
            · exact .inl (hownA b h)
            · exact .inr h
          · obtain ⟨c, q1, q2, q3, q4, q5⟩ := hmk id x g1
            rw [q2] at g3; cases g3
            exact .inl ⟨id, x, _, hR _ _ g1, g2, q1, g4⟩
        ext := hk'.ext
        fz := fun b hz => (hk'.fz b (fzNew b hz)).imp (hownA b) (Or.imp id fun h => h.sub fun id size C h => hsub _ _ h) }
  refine (h ρ w vals hmA hnx hd).mono ?_
  rintro e w' (⟨v, H', nx', ρ', u, rfl, h1, h2, h3, h4, h0, h5⟩ | ⟨ch, H', nx', ρ', rfl, h2, h3, h4, h0, h5⟩)
  · obtain ⟨b1, b2⟩ := back h0 h2 h3
    exact .inl ⟨v, _, nx', ρ', u, rfl, h1, b1, b2, h4, h5⟩
  · obtain ⟨b1, b2⟩ := back h0 h2 h3
    exact .inr ⟨ch, _, nx', ρ', rfl, b1, b2, h4, h5⟩
end Go.X
end

section
set_option linter.unusedVariables false
set_option linter.unusedSimpArgs false
set_option linter.unusedSectionVars false
/- Regions whose order Go leaves open: operations that look at slots only are taken first, the rest step by step. -/
set_option linter.unusedVariables false
set_option linter.unusedSimpArgs false
set_option maxRecDepth 10000
namespace Go.X
open Go

def Qnp (X : Cx) (K : Ex → St → Prop) : Exit → Act → World → Prop := fun e a w => match e with
  | .panic _ => False
  | e => Qof X K e a w
/-- What is left to do, from a state, when some operations have run. -/
structure AnyS (X : Cx) (ops : Array Oper) (fuel : Nat) (listed : Array Bool) (st : St) (K : Ex → St → Prop) : Prop where
  h : ∀ ρ a w, Mod X ρ st a w → wpAnyIn (FW X.r) 0 X.P .any ops (Qnp X K) fuel listed a w

theorem any_region {X : Cx} {st : St} {K : Ex → St → Prop} {id : Nat} {ops : Array Oper} (hm : X.P.follows .mixedOrders = true) (h : AnyS X ops ops.size (Array.replicate ops.size false) st K) : SemC X (.region id ops true) st K := by
  intro ρ a w hmod
  have hmod' : Mod X ρ st a { w with drawn := w.drawn + 1 } := {
    fm := hmod.fm, gs := hmod.gs, df := hmod.df, hm := hmod.hm.world (Nat.le_refl _) (fun _ _ => rfl), kp := hmod.kp.world (Nat.le_refl _) (fun _ _ => rfl), nx := hmod.nx, sz := hmod.sz }
  refine wpIn_mono (Q := Qnp X K) (wpIn_region_any hm (h.h ρ a _ hmod')) ?_
  intro e a' w' hq
  cases e <;> first | exact hq | exact hq.elim

theorem any_done {X : Cx} {st : St} {K : Ex → St → Prop} {ops : Array Oper} {fuel : Nat} {listed : Array Bool} (hr : Region.ready .any ops listed = []) (h : K .normal st) : AnyS X ops fuel listed st K :=
  ⟨fun ρ a w hm => wpAnyIn_done hr ⟨.normal, st, ρ, rfl, hm, h⟩ fuel⟩

theorem any_take {X : Cx} {st : St} {K : Ex → St → Prop} (i : Nat) {d : Nat} {o : Oper} {pre : Option Prop} {v : SV} {ops : Array Oper} {fuel : Nat} {listed : Array Bool} (hX : X.Ok) (hr : X.r = none) (ho : ops[i]? = some o) (hd : o.dst = some d) (hg : o.guard = none)
    (hc : core X.T (findF st.F) [] (fun _ => none) st.nx o.op = some ⟨pre, v, .no⟩) (hnc : isCall o.op = none) (hp : putN st.gs X.nt (some d) = false) (hs : Region.noSelect ops = true) (hf : Region.free .any ops listed i = true)
    (hrd : (Region.ready .any ops listed).contains i = true)
    (h : ChkO pre (stK st fun F gs H nx D => fSV v fun v' => AnyS X ops fuel (listed.setIfInBounds i true) ⟨(d, ⟨[], v'⟩) :: F, gs, H, nx, D⟩ K)) : AnyS X ops (fuel + 1) listed st K := by
  refine ⟨fun ρ a w hm => ?_⟩
  have hsat : GPsat a [] := fun x hx => by cases hx
  have hHρ : ∀ w : World, HM ρ (fun _ => none) w := fun w => {
    ok := fun _ _ h => by cases h
    sep := fun _ _ _ _ _ _ _ h => by cases h
    ro := fun _ _ _ _ _ _ h => by cases h
    fam := fun _ ⟨_, _, _, _, _, _, h, _⟩ => by cases h }
  have hk := ChkO_k h
  rw [stK_eq, fSV_eq] at hk
  -- core's word in whatever world
  have hall : ∀ w : World, ∃ u, (execOp a.eval o).run X.P w = .ok (.value u) w ∧ den ρ v = some u := fun w => by
    exact core_ok hX.tab hm.fm hsat (hHρ w) (hm.nx _ (Nat.le_refl _)) hc (ChkO_pre h)
  obtain ⟨u, _, hu⟩ := hall w
  have hy : YieldsFenced X.P ops o u a := by
    refine ⟨.inl ⟨guard_none hg _, fun w => ?_⟩, fun w => ?_⟩
    · obtain ⟨u', h1, h2⟩ := hall w
      rw [hu] at h2; cases h2
      exact h1
    · unfold Oper.about
      cases hop : o.op <;> first | rfl | (rw [hop] at hnc; cases hnc)
  refine wpAnyIn_take (by rw [FW_round, hr]) ho hs hf hrd (fun c a w h => h) hy ?_
  rw [hd]
  exact hk.h ρ _ w (hm.put hp hu)

/-- One operation, whichever is ready. -/
def Qst (X : Cx) (ops : Array Oper) (fuel : Nat) (listed : Array Bool) (K : Ex → St → Prop) : Exit → Act → World → Prop := fun e a w => match e with
  | .normal => wpAnyIn (FW X.r) 0 X.P .any ops (Qnp X K) fuel listed a w
  | e => Qnp X K e a w
theorem cont_any {X : Cx} {ops : Array Oper} {fuel : Nat} {listed : Array Bool} {K : Ex → St → Prop} : Cont X (Qst X ops fuel listed K) (fun st => AnyS X ops fuel listed st K) (fun _ _ => False) where
  k ρ' st' a' w' hm' hk := hk.h ρ' a' w' hm'
  p ch ρ' st' a' w' hm' hk := hk.elim
def stepsK (X : Cx) (ops : Array Oper) (fuel : Nat) (listed : Array Bool) (st : St) (K : Ex → St → Prop) : List Nat → Prop
  | [] => True
  | i :: r => (match nth ops.toList i with
    | some o => (match o.guard with
      | none => execL X [o] (Qst X ops fuel (listed.setIfInBounds i true) K) (fun st' => AnyS X ops fuel (listed.setIfInBounds i true) st' K) (fun _ _ => False) 0 [o] st
      | some _ => False)
    | none => False) ∧ stepsK X ops fuel listed st K r
theorem stepsK_ok {X : Cx} {ops : Array Oper} {fuel : Nat} {listed : Array Bool} {st : St} {K : Ex → St → Prop} (hX : X.Ok) : ∀ {l : List Nat}, stepsK X ops fuel listed st K l → ∀ i ∈ l, ∀ ρ a w, Mod X ρ st a w →
    wpOpIn (FW X.r) 0 X.P ops (Qnp X K) i (wpAnyIn (FW X.r) 0 X.P .any ops (Qnp X K) fuel (listed.setIfInBounds i true)) a w
  | j :: r, h, i, hi, ρ, a, w, hm => by
    rcases List.mem_cons.1 hi with rfl | hi
    · have h1 := h.1
      split at h1
      · rename_i o e
        rw [nth_eq] at e
        have e : ops[i]? = some o := by simpa [Array.getElem?_toList] using e
        split at h1
        · rename_i hg
          have h2 := execL_ok hX (cont_any (X := X) (ops := ops) (fuel := fuel) (listed := listed.setIfInBounds i true) (K := K)).k cont_any.p [o] 0 ρ st a w rfl h1 hm
          have h2 : wpOpsIn (FW X.r) 0 X.P #[o] (Qst X ops fuel (listed.setIfInBounds i true) K) [0] a w := h2
          simp only [wpOpsIn] at h2
          have hw0 : ∀ y, Region.wanted o y = true := fun y => guard_none hg y
          simp only [List.getElem?_toArray, List.getElem?_cons_zero, hw0, if_true] at h2
          unfold wpOpIn
          simp only [e, hw0, if_true]
          have h3 : Oper.wpIn (FW X.r) 0 X.P o a w (wpAnyIn (FW X.r) 0 X.P .any ops (Qnp X K) fuel (listed.setIfInBounds i true)) (Qst X ops fuel (listed.setIfInBounds i true) K) := h2
          unfold Oper.wpIn at h3 ⊢
          refine ⟨h3.1, ?_⟩
          have h4 := h3.2
          generalize (o.semAt (FW X.r).round a.eval).run X.P w = res at h4 ⊢
          cases res with
          | ok x w' => cases x <;> exact h4
          | halt x w' => cases x <;> exact h4
        · exact h1.elim
      · exact h1.elim
    · exact stepsK_ok hX h.2 i hi ρ a w hm
theorem any_step {X : Cx} {st : St} {K : Ex → St → Prop} {ops : Array Oper} {fuel : Nat} {listed : Array Bool} (rs : List Nat) (hX : X.Ok) (hr : Region.ready .any ops listed = rs) (hne : rs ≠ []) (h : stepsK X ops fuel listed st K rs) : AnyS X ops (fuel + 1) listed st K :=
  ⟨fun ρ a w hm => wpAnyIn_all hr hne fun i hi => stepsK_ok hX h i hi ρ a w hm⟩
end Go.X
end

section
set_option linter.unusedVariables false
set_option linter.unusedSimpArgs false
set_option linter.unusedSectionVars false
/- A part of a slice is copied into a part of a slice of our own. -/
set_option linter.unusedVariables false
set_option linter.unusedSimpArgs false
set_option maxRecDepth 10000
namespace Go.X
open Go
section
variable {X : Cx} {st : St}

/-- A part's value, and its slice's. -/
theorem part_of {ρ : Env} {H : LH} {w : World} (hH : HM ρ H w) {sz id n off len tot : Nat} {get : Nat → List SV} (h : sliceOf sz H id = some (n, get)) {v : Value} (hv : den ρ (.ss id off len tot) = some v) :
    ∃ ad c, den ρ (.sl id) = some (.slice (some ad) n c) ∧ v = .slice (some (if c - off / sz = 0 then ad else ad.add off)) len (c - off / sz) ∧ n ≤ c ∧ 0 < sz := by
  simp only [den] at hv
  split at hv
  · rename_i nm hr
    have key : ∀ hb, H id = some hb → (∀ nb, nm = .blk nb → False) → (∀ A n' c s, (nm = .sl A n' c s ∨ ∃ k, nm = .row k n' c s ∧ A = some ⟨k, 0, none⟩) → n' = n ∧ s = sz ∧ n ≤ c) →
        ∃ ad c, den ρ (.sl id) = some (.slice (some ad) n c) ∧ v = .slice (some (if c - off / sz = 0 then ad else ad.add off)) len (c - off / sz) ∧ n ≤ c ∧ 0 < sz := by
      intro hb hf hnb hs
      cases nm with
      | blk nb => exact (hnb nb rfl).elim
      | sl A n' c s =>
        obtain ⟨rfl, rfl, hc⟩ := hs A n' c s (.inl rfl)
        cases A with
        | none => simp only [partOf] at hv; cases hv
        | some ad =>
          simp only [partOf] at hv
          split at hv
          · rename_i hq
            cases hv
            exact ⟨ad, c, by simp only [den, hr], rfl, hc, hq.2⟩
          · cases hv
      | row k n' c s =>
        obtain ⟨rfl, rfl, hc⟩ := hs (some ⟨k, 0, none⟩) n' c s (.inr ⟨k, rfl, rfl⟩)
        simp only [partOf] at hv
        split at hv
        · rename_i hq
          cases hv
          refine ⟨⟨k, 0, none⟩, c, by simp only [den, hr], ?_, hc, hq.2⟩
          rw [add_zero_mk]
        · cases hv
    unfold sliceOf at h
    split at h
    · rename_i s n' g e
      split at h
      · rename_i hb
        have : s = sz := by simpa using hb
        subst this; cases h
        obtain ⟨nm', h1, h2⟩ := hH.ok _ _ e
        rw [hr] at h1; cases h1
        refine key _ e (fun nb hn => by subst hn; exact h2.elim) fun A n' c s hA => ?_
        rcases hA with rfl | ⟨k, rfl, _⟩
        · obtain ⟨q1, q2, q3, _⟩ := h2; exact ⟨q1, q2, q3⟩
        · exact h2.elim
      · cases h
    · rename_i T s n' xs e
      split at h
      · rename_i hb
        have : s = sz := by simpa using hb
        subst this; cases h
        obtain ⟨nm', h1, h2⟩ := hH.ok _ _ e
        rw [hr] at h1; cases h1
        refine key _ e (fun nb hn => by subst hn; exact h2.elim) fun A n' c s hA => ?_
        rcases hA with rfl | ⟨k, rfl, _⟩
        · exact h2.elim
        · obtain ⟨q1, q2, ⟨q3, _⟩, _⟩ := h2; exact ⟨q1, q2, q3⟩
      · cases h
    · rename_i T s n' g e
      split at h
      · rename_i hb
        have : s = sz := by simpa using hb
        subst this; cases h
        obtain ⟨nm', h1, h2⟩ := hH.ok _ _ e
        rw [hr] at h1; cases h1
        refine key _ e (fun nb hn => by subst hn; exact h2.elim) fun A n' c s hA => ?_
        rcases hA with rfl | ⟨k, rfl, _⟩
        · obtain ⟨q1, q2, q3, q4, q5⟩ := h2; exact ⟨by omega, q5, by omega⟩
        · obtain ⟨q1, q2, ⟨q3, _⟩, _⟩ := h2; exact ⟨q1, q2, q3⟩
      · cases h
    · cases h
  · cases hv

theorem fb_copyP (did xid n m i j l1 l2 : Nat) (get get2 get' : Nat → List SV) {o1 o2 t1 t2 : Nat} {ops : List Oper} {k : Nat} {o : Oper} {r : List Oper} {Q : Exit → Act → World → Prop} {Kn : St → Prop} {Kp : List PanicEntry → St → Prop}
    {t u e : TypeId} {ti te : TI} {s x : Operand} {c : Call} {d : Nat} (hX : X.Ok) (hC : Cont X Q Kn Kp) (hi : ops.drop k = o :: r)
    (hc : o.op = .call c) (hcl : c.callee = .builtin .copy) (hca : c.args = #[s, x]) (hct : c.argTypes = #[t, u]) (hg : o.guard = none) (hdst : o.dst = some d) (hp : putN st.gs X.nt (some d) = false)
    (ht : X.T t = some ti) (hd : ti.desc = .slice e) (hte : X.T e = some te)
    (h1 : ev (findF st.F) [] s = some (.ss did o1 l1 t1)) (h2 : ev (findF st.F) [] x = some (.ss xid o2 l2 t2)) (h3 : findH st.H did = some (.vec e te.size n get)) (h4 : sliceOf te.size (findH st.H) xid = some (m, get2))
    (ho1 : o1 = i * te.size) (ho2 : o2 = j * te.size) (hl1 : i + l1 ≤ n) (hl2 : j + l2 ≤ m) (hlp : 0 < l1) (hl2p : 0 < l2)
    (hg' : ∀ q, q < n → get' q = if i ≤ q ∧ q < i + min l2 l1 then get2 (j + (q - i)) else get q)
    (h : stK st fun F gs H nx D => execL X ops Q Kn Kp (k + 1) r ⟨(d, ⟨[], .si .i64 (min l2 l1 : Nat)⟩) :: F, gs, (did, .vec e te.size n get') :: H, nx, D⟩) : FbO X ops Q Kn Kp k o r st := by
  refine fb_sem hX hC hi (by rw [hc]; intro c h; cases h) hg fun ρ a w hm => ?_
  have hs : GPsat a [] := fun x hx => by cases hx
  have e1 := ev_ok hm.fm hs h1
  have e2 := ev_ok hm.fm hs h2
  obtain ⟨ad2, c2, v2, p2, hmc, hsz⟩ := part_of hm.hm h4 e2
  obtain ⟨A, c2', news, s1, s2, s3, s4, s5, s6⟩ := slice_src hm.hm h4 v2
  cases s1
  have h3' : sliceOf te.size (findH st.H) did = some (n, get) := by
    unfold sliceOf
    rw [h3]
    simp
  obtain ⟨ad1, c1, v1, p1, hnc, _⟩ := part_of hm.hm h3' e1
  obtain ⟨nm, hn, hok⟩ := hm.hm.ok _ _ h3
  obtain ⟨hu, _, _⟩ := hX.tab t ti ht
  rw [hd] at hu
  rw [stK_eq] at h
  have hdiv1 : o1 / te.size = i := by rw [ho1]; exact Nat.mul_div_cancel _ hsz
  have hdiv2 : o2 / te.size = j := by rw [ho2]; exact Nat.mul_div_cancel _ hsz
  rw [hdiv1, if_neg (by omega)] at p1
  rw [hdiv2, if_neg (by omega)] at p2
  obtain ⟨cn, hcn⟩ : ∃ cn, min l2 l1 = cn := ⟨_, rfl⟩
  have hc1 : cn ≤ l1 := by omega
  have hc2 : cn ≤ l2 := by omega
  have hsrc : (j + cn) * te.size ≤ m * te.size := Nat.mul_le_mul_right _ (by omega)
  have hdst' : (i + cn) * te.size ≤ n * te.size := Nat.mul_le_mul_right _ (by omega)
  rw [Nat.add_mul] at hsrc hdst'
  have hcl' : ((news.drop o2).take (cn * te.size)).length = cn * te.size := by rw [List.length_take, List.length_drop, s3, ho2]; omega
  have hfc : (Builtin.firstCells te.size cn (a.eval x)).run X.P w = .ok ((news.drop o2).take (cn * te.size)).toArray w := by
    rw [p2]
    refine run_firstCells_some (P := X.P) w te.size cn _ _ _ _ hcl' fun q v hv => ?_
    rw [List.getElem?_take] at hv
    split at hv
    · rw [List.getElem?_drop] at hv
      rw [add_add]
      exact s6 ad2 rfl _ v hv
    · cases hv
  have hlen : (Builtin.lenOf (a.eval x)).run X.P w = .ok l2 w := by rw [p2]; rfl
  have hmin : Nat.min l2 l1 = cn := hcn
  cases nm <;> simp only [HBok] at hok
  · obtain ⟨rfl, rfl, rfl, rfl, rfl⟩ := hok
    omega
  · rename_i nb n2 cc s'
    obtain ⟨rfl, rfl, hle, cells, d5, d6, d7⟩ := hok
    simp only [den, hn, Option.some.injEq] at v1
    cases v1
    have hfit : o1 + cn * te.size ≤ cells.length := by
      have := Nat.mul_le_mul_right te.size hle.1
      rw [d6, ho1]; omega
    have hst := run_storeCells_at X.P nb o1 e ((news.drop o2).take (cn * te.size)) 0 cells.toArray w d5 (by simp only [List.size_toArray]; omega) (fun v hv => s4 v (List.mem_of_mem_drop (List.mem_of_mem_take hv)))
    simp only [Nat.add_zero, List.toList_toArray] at hst
    have hrun : (Builtin.copy_ #[t, u] o.type #[a.eval s, a.eval x]).run X.P w = .ok (goInt (cn : Nat)) (w.setRow nb (cells.take o1 ++ (news.drop o2).take (cn * te.size) ++ cells.drop (o1 + ((news.drop o2).take (cn * te.size)).length)).toArray) := by
      rw [p1]
      simp [Builtin.copy_, Sem.run_bind, run_underlying hu, hlen, run_size hX.tab hte, hfc, Result.andThen, hmin, add_zero_mk, hst]
    have hnb := setRow_heap w nb cells.toArray (cells.take o1 ++ (news.drop o2).take (cn * te.size) ++ cells.drop (o1 + ((news.drop o2).take (cn * te.size)).length)).toArray e (0, 0) d5
    refine ⟨_, _, ρ, _, .inl (run_builtin2 hc hcl hca hct (fun _ _ => rfl) hrun), (hm.turned (hb' := .vec e te.size n2 get') h3 rfl hn rfl (size_setRow _ _ _) (fun k hk => heap_setRow _ _ _ _ hk) ?_ rfl (fun _ _ _ h => by cases h)).put (d := o.dst) (s := .si .i64 (cn : Nat)) (by rw [hdst]; exact hp) rfl, by rw [hdst]; rw [hcn] at h; exact h⟩
    refine ⟨rfl, rfl, hle, _, hnb, by rw [List.length_append, List.length_append, List.length_drop, List.length_take, hcl']; omega, fun q hq => ?_⟩
    rw [hg' q hq, hcn]
    have htk : (cells.take o1).length = o1 := by rw [List.length_take]; omega
    split
    · rename_i him
      have hb1 : (q - i + 1) * te.size ≤ cn * te.size := Nat.mul_le_mul_right _ (by omega)
      rw [Nat.add_mul] at hb1
      have hb2 : (j + (q - i)) * te.size = o2 + (q - i) * te.size := by rw [ho2, Nat.add_mul]
      have hb3 : q * te.size = o1 + (q - i) * te.size := by
        rw [ho1, ← Nat.add_mul]; congr 1; omega
      have hb4 : (j + (q - i) + 1) * te.size ≤ m * te.size := Nat.mul_le_mul_right _ (by omega)
      rw [Nat.add_mul] at hb4
      refine ⟨_, s5 (j + (q - i)) (by omega), ?_, by simp only [List.length_take, List.length_drop, s3]; omega, fun jj v hv => ?_⟩
      · rw [List.all_eq_true]
        exact fun x hx => s4 x (List.mem_of_mem_drop (List.mem_of_mem_take hx))
      · rw [List.getElem?_take] at hv
        split at hv
        · rw [List.getElem?_drop] at hv
          rw [List.append_assoc, List.getElem?_append_right (by rw [htk]; omega), List.getElem?_append_left (by rw [hcl', htk]; omega), List.getElem?_take, if_pos (by rw [htk]; omega), List.getElem?_drop, htk, ← hv]
          congr 1; omega
        · cases hv
    · rename_i him
      obtain ⟨vs, c1, c2', c3, c4⟩ := d7 q hq
      refine ⟨vs, c1, c2', c3, fun jj v hv => ?_⟩
      have hjj : jj < te.size := by have := lt_of_get hv; omega
      have hv' := c4 jj v hv
      rcases Nat.lt_or_ge q i with hlt | hge
      · have hb1 : (q + 1) * te.size ≤ i * te.size := Nat.mul_le_mul_right _ hlt
        rw [Nat.add_mul] at hb1
        rw [List.append_assoc, List.getElem?_append_left (by rw [htk]; omega), List.getElem?_take, if_pos (by omega)]
        exact hv'
      · have hb1 : (i + cn) * te.size ≤ q * te.size := Nat.mul_le_mul_right _ (by omega)
        rw [Nat.add_mul] at hb1
        rw [List.getElem?_append_right (by rw [List.length_append, htk, hcl']; omega), List.getElem?_drop, List.length_append, htk, hcl', ← hv']
        congr 1; omega
end
end Go.X
end

section
set_option linter.unusedVariables false
set_option linter.unusedSimpArgs false
set_option linter.unusedSectionVars false
/- Calls: from a part of the heap, and with an empty slice as a piece. -/
set_option linter.unusedVariables false
set_option linter.unusedSimpArgs false
set_option maxRecDepth 10000
namespace Go.X
open Go

theorem envR_id {ρ : Env} {n : Nat} (h : ∀ j, n ≤ j → ρ j = none) : envR ρ (fun j => j) n = ρ := by
  funext j
  unfold envR
  split
  · rfl
  · rename_i hj
    exact (h j (by omega)).symm

/-- A call needs a part of the heap only. -/
theorem callS_sub {P : Program} {n : Nat} {l : List SV} {H : List (Nat × HB)} {nx : Nat} {Rv : SV → List (Nat × HB) → Nat → Prop} {Rp : List PanicEntry → List (Nat × HB) → Nat → Prop} (A : List (Nat × HB)) (hA : weakRH (fun j => j) nx H A)
    (h : CallS P n l A nx Rv Rp) : CallS P n l H nx Rv Rp := by
  intro ρ w vals hm hnx hd
  have he := envR_id hnx
  have hmA : HM ρ (findH A) w := {
    ok := fun id hb hf => by
      obtain ⟨h1, hc, h2, h3⟩ := weakRH_ok hA id hb hf
      obtain ⟨nm, h4, h5⟩ := hm.ok _ _ h2
      exact ⟨nm, h4, by rw [← he]; exact lessHB_ok h3 h5⟩
    sep := fun i j x y n₁ n₂ b h1 h2 l1 l2 r1 r2 o1 o2 => by
      obtain ⟨a1, c1, a2, a3⟩ := weakRH_ok hA i x h1
      obtain ⟨b1, c2, b2, b3⟩ := weakRH_ok hA j y h2
      exact hm.sep _ _ c1 c2 n₁ n₂ b a2 b2 (lessHB_live a3 l1) (lessHB_live b3 l2) r1 r2 o1 o2
    ro := fun j size m get nm b hf hm' hr hb ho => by
      obtain ⟨a1, c1, a2, a3⟩ := weakRH_ok hA j _ hf
      obtain ⟨g', rfl⟩ := lessHB_ro a3
      refine hm.ro _ size m g' nm b a2 hm' hr hb ?_
      obtain ⟨id, x, nm', h1, h2, h3, h4⟩ := ho
      obtain ⟨b1, c2, b2, b3⟩ := weakRH_ok hA id x h1
      exact ⟨_, c2, nm', b2, lessHB_live b3 h2, h3, h4⟩
    fam := fun b hz ho => by
      refine hm.fam b (weakRH_fz hA hz) ?_
      obtain ⟨id, x, nm', h1, h2, h3, h4⟩ := ho
      obtain ⟨b1, c2, b2, b3⟩ := weakRH_ok hA id x h1
      exact ⟨_, c2, nm', b2, lessHB_live b3 h2, h3, h4⟩ }
  have hown : ∀ b, Own ρ (findH A) b → Own ρ (findH H) b := fun b ⟨id, x, nm', h1, h2, h3, h4⟩ => by
    obtain ⟨b1, c2, b2, b3⟩ := weakRH_ok hA id x h1
    exact ⟨_, c2, nm', b2, lessHB_live b3 h2, h3, h4⟩
  have hk : ∀ {ρ' : Env} {H' : LH} {w' : World}, Keep ⟨w, Own ρ (findH A), ρ, Fz (findH A)⟩ ρ' H' w' → Keep ⟨w, Own ρ (findH H), ρ, Fz (findH H)⟩ ρ' H' w' := fun k =>
    { str := k.str, size := k.size, same := fun b hb hn => k.same b hb fun ho => hn (hown b ho), own := fun b ho => (k.own b ho).imp (hown b) id, ext := k.ext, fz := fun b hz => (k.fz b hz).imp (hown b) (Or.imp id (weakRH_fz hA)) }
  refine (h ρ w vals hmA hnx hd).mono ?_
  rintro e w' (⟨v, H', nx', ρ', u, rfl, h1, h2, h3, h4, h5⟩ | ⟨ch, H', nx', ρ', rfl, h2, h3, h4, h5⟩)
  · exact .inl ⟨v, H', nx', ρ', u, rfl, h1, h2, hk h3, h4, h5⟩
  · exact .inr ⟨ch, H', nx', ρ', rfl, h2, hk h3, h4, h5⟩

/-- A slice that is nil may be handed over as an empty piece. -/
theorem callS_nil {P : Program} {n : Nat} {l l' : List SV} {H : List (Nat × HB)} {nx : Nat} {Rv : SV → List (Nat × HB) → Nat → Prop} {Rp : List PanicEntry → List (Nat × HB) → Nat → Prop} (T s : Nat) (g : Nat → List SV)
    (hl : ∀ ρ : Env, ρ nx = some (.sl none 0 0 s) → ∀ vals, denL ρ l = some vals → denL ρ l' = some vals)
    (h : CallS P n l' ((nx, .vec T s 0 g) :: H) (nx + 1) Rv Rp) : CallS P n l H nx Rv Rp := by
  intro ρ w vals hm hnx hd
  have hf := hnx nx (Nat.le_refl _)
  have hext : Ext ρ (upd ρ nx (.sl none 0 0 s)) := Ext.upd _ hf
  have hm2 : HM (upd ρ nx (.sl none 0 0 s)) (findH ((nx, .vec T s 0 g) :: H)) w := by
    rw [findH_cons]
    refine hm.add (g := w.heap.size) hf (Nat.le_refl _) (fun k _ _ => rfl) (fun ho => Nat.lt_irrefl _ (hm.lt ho)) ?_ ⟨rfl, rfl, rfl, rfl, rfl⟩ (fun b hb => by cases hb) rfl (fun hz => Nat.lt_irrefl _ (hm.fz_lt hz))
    intro j size m get nm h1 h2 h3 h4
    obtain ⟨nm', h5, h6⟩ := hm.ok _ _ h1
    rw [h3] at h5; cases h5
    cases nm <;> simp only [HBok] at h6
    obtain ⟨_, _, _, h7⟩ := h6
    obtain ⟨ad, rfl, h8, _⟩ := h7 h2
    simp only [roBlock, Option.some.injEq] at h4
    omega
  have hown : ∀ b, Own (upd ρ nx (.sl none 0 0 s)) (findH ((nx, .vec T s 0 g) :: H)) b → Own ρ (findH H) b := fun b ⟨id, x, nm', h1, h2, h3, h4⟩ => by
    rw [findH_cons] at h1
    by_cases e : nx = id
    · subst e
      have : upd ρ nx (.sl none 0 0 s) nx = some (.sl none 0 0 s) := by simp [upd]
      rw [this] at h3; cases h3
      cases h4
    · rw [updL_ne _ _ e] at h1
      exact ⟨id, x, nm', h1, h2, by rw [← h3]; simp [upd, Ne.symm e], h4⟩
  have hk : ∀ {ρ' : Env} {H' : LH} {w' : World}, Keep ⟨w, Own (upd ρ nx (.sl none 0 0 s)) (findH ((nx, .vec T s 0 g) :: H)), upd ρ nx (.sl none 0 0 s), Fz (findH ((nx, .vec T s 0 g) :: H))⟩ ρ' H' w' → Keep ⟨w, Own ρ (findH H), ρ, Fz (findH H)⟩ ρ' H' w' := fun k =>
    { str := k.str, size := k.size, same := fun b hb hn => k.same b hb fun ho => hn (hown b ho), own := fun b ho => (k.own b ho).imp (hown b) id, ext := hext.trans k.ext, fz := fun b hz => (k.fz b hz).imp (hown b) (Or.imp id fun h => by rw [findH_cons] at h; exact h.upd fun s C h => by cases h) }
  refine (h _ w vals hm2 (fun j hj => by
    have : j ≠ nx := by omega
    simp only [upd, if_neg this]
    exact hnx j (by omega)) (hl _ (by simp [upd]) vals (denL_ext hext _ _ hd))).mono ?_
  rintro e w' (⟨v, H', nx', ρ', u, rfl, h1, h2, h3, h4, h5⟩ | ⟨ch, H', nx', ρ', rfl, h2, h3, h4, h5⟩)
  · exact .inl ⟨v, H', nx', ρ', u, rfl, h1, h2, hk h3, h4, h5⟩
  · exact .inr ⟨ch, H', nx', ρ', rfl, h2, hk h3, h4, h5⟩
end Go.X
end
