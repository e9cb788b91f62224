/- The walk of StackTrue: however long blocks and films truly are, by remainders. -/
import Derived.Test.YtacaohoiekglfaaMC
import Derived.Test.YtacaohoiekglfaaND

section
set_option linter.unusedVariables false
set_option linter.unusedSimpArgs false
set_option linter.unusedSectionVars false
/- Regions whose order Go leaves open, run through in each order. -/
set_option linter.unusedVariables false
set_option linter.unusedSimpArgs false
set_option linter.unusedSectionVars false
namespace Go.X
open Go

def extsA (ready : Array Bool → List Nat) : Nat → Array Bool → List (List Nat)
  | 0, _ => [[]]
  | n + 1, listed => match ready listed with
    | [] => [[]]
    | x :: r => (x :: r).flatMap fun i => (extsA ready n (listed.setIfInBounds i true)).map (i :: ·)
def readyA (ops : Array Oper) (listed : Array Bool) : List Nat := (List.range ops.size).filter fun i =>
  !listed.getD i true && ((ops[i]?).map (·.after.all fun e => !Region.binds .any e || listed.getD e.on false)).getD false
def exts (ops : Array Oper) : List (List Nat) := extsA (readyA ops) ops.size (Array.replicate ops.size false)

theorem go_acc (md : Region.Mode) (ops : Array Oper) : ∀ (fuel t : Nat) (listed : Array Bool) (acc : List Nat), Region.linearise.go md ops fuel t listed acc = acc.reverse ++ Region.linearise.go md ops fuel t listed []
  | 0, t, listed, acc => by simp [Region.linearise.go]
  | fuel + 1, t, listed, acc => by
    simp only [Region.linearise.go]
    split
    · rename_i i _
      rw [go_acc md ops fuel _ _ (i :: acc), go_acc md ops fuel _ _ [i]]
      simp
    · simp

theorem go_mem (ops : Array Oper) : ∀ (fuel t : Nat) (listed : Array Bool), Region.linearise.go .any ops fuel t listed [] ∈ extsA (readyA ops) fuel listed
  | 0, t, listed => by simp [Region.linearise.go, extsA]
  | fuel + 1, t, listed => by
    simp only [Region.linearise.go, extsA]
    have e : ((List.range ops.size).filter fun i => !listed.getD i true && ((ops[i]?).map (·.after.all fun e => !Region.binds .any e || listed.getD e.on false)).getD false) = readyA ops listed := rfl
    rw [e]
    generalize readyA ops listed = rs
    cases rs with
    | nil => simp
    | cons x r =>
      have hlt : t % (x :: r).length < (x :: r).length := Nat.mod_lt _ (by simp)
      rw [List.getElem?_eq_getElem hlt]
      simp only
      rw [go_acc]
      simp only [List.reverse_cons, List.reverse_nil, List.nil_append, List.singleton_append]
      refine List.mem_flatMap.2 ⟨(x :: r)[t % (x :: r).length], List.getElem_mem hlt, ?_⟩
      exact List.mem_map.2 ⟨_, go_mem ops fuel _ _, rfl⟩

def permK (ops : List Oper) : List Nat → (List Oper → Prop) → Prop
  | [], k => k []
  | i :: r, k => match nth ops i with
    | some o => permK ops r fun l => k (o :: l)
    | none => False
theorem permK_ok {ops : List Oper} : ∀ {l : List Nat} {k : List Oper → Prop}, permK ops l k → ∃ m : List Oper, k m ∧ l.map (fun i => ops[i]?) = m.map some
  | [], k, h => ⟨[], h, rfl⟩
  | i :: r, k, h => by
    simp only [permK] at h
    split at h
    · rename_i o e
      obtain ⟨m, h1, h2⟩ := permK_ok h
      rw [nth_eq] at e
      exact ⟨o :: m, h1, by simp [e, h2]⟩
    · exact h.elim

def bare : List Oper → Bool
  | [] => true
  | o :: r => match o.guard with
    | none => bare r
    | some _ => false
theorem bare_ok : ∀ {l : List Oper}, bare l = true → ∀ o ∈ l, o.guard = none
  | [], _, o, h => by cases h
  | x :: r, h, o, ho => by
    simp only [bare] at h
    split at h
    · rename_i e
      rcases List.mem_cons.1 ho with rfl | ho
      · exact e
      · exact bare_ok h o ho
    · cases h

theorem perm_wp {F : Fence} {n : Nat} {P : Program} {ops : Array Oper} {Q : Exit → Act → World → Prop} (hb : ∀ o ∈ ops.toList, o.guard = none) : ∀ (l : List Nat) (pre m : List Oper) (a : Act) (w : World), l.map (fun i => ops[i]?) = m.map some →
    wpOpsIn F n P (pre ++ m).toArray Q (List.range' pre.length l.length) a w → wpOpsIn F n P ops Q l a w
  | [], pre, m, a, w, hm, h => h
  | i :: r, pre, [], a, w, hm, h => by simp at hm
  | i :: r, pre, o :: m, a, w, hm, h => by
    simp only [List.map_cons, List.cons.injEq] at hm
    obtain ⟨h1, h2⟩ := hm
    have hg : o.guard = none := hb o (by
      have := Array.getElem?_eq_some_iff.1 h1
      obtain ⟨hlt, e⟩ := this
      rw [← e]; exact Array.getElem_mem_toList hlt)
    have e0 : (pre ++ o :: m).toArray[pre.length]? = some o := by simp
    have e1 : List.range' pre.length (i :: r).length = pre.length :: List.range' (pre.length + 1) r.length := by simp [List.range'_succ]
    rw [e1] at h
    simp only [wpOpsIn, e0, h1] at h ⊢
    have hw : ∀ y, Region.wanted o y = true := fun y => by simp [Region.wanted, hg]
    simp only [hw, if_true] at h ⊢
    refine Oper.wpIn_mono (fun a w hk => ?_) h
    refine perm_wp hb r (pre ++ [o]) m a w h2 ?_
    simpa using hk

def allO : List (List Nat) → (List Nat → Prop) → Prop
  | [], _ => True
  | [x], k => k x
  | x :: r, k => k x ∧ allO r k
theorem allO_ok : ∀ {E : List (List Nat)} {k : List Nat → Prop}, allO E k → ∀ x ∈ E, k x
  | [], _, _, x, h => by cases h
  | [y], k, h, x, hx => by
    rcases List.mem_cons.1 hx with rfl | hx
    · exact h
    · cases hx
  | y :: z :: r, k, h, x, hx => by
    rcases List.mem_cons.1 hx with rfl | hx
    · exact h.1
    · exact allO_ok h.2 x hx

/-- Each order: one run through. -/
theorem orders_ok {X : Cx} (hX : X.Ok) (hm : X.P.follows .mixedOrders = true) {st : St} {K : Ex → St → Prop} {id : Nat} {ops : Array Oper} (hb : bare ops.toList = true) (E : List (List Nat)) (hE : exts ops = E)
    (h : allO E fun o => permK ops.toList o fun l => execL X l (Qof X K) (fun st => endRegion st (K .normal)) (fun ch st => K (.panic ch) st) 0 l st) : SemC X (.region id ops true) st K := by
  intro ρ a w hmod
  refine wpIn_region_draw fun t => ?_
  simp only [Region.schedule, hm, Bool.true_or, if_true]
  have hmem : Region.linearise .any ops t ∈ E := by rw [← hE]; exact go_mem ops ops.size t _
  obtain ⟨m, h1, h2⟩ := permK_ok (allO_ok h _ hmem)
  have hlen : m.length = (Region.linearise .any ops t).length := by
    have := congrArg List.length h2
    simpa using this.symm
  have hmod' : Mod X ρ st a { w with drawn := w.drawn + 1 } := {
    fm := hmod.fm, gs := hmod.gs, df := hmod.df, hm := hmod.hm.world (Nat.le_refl _) (fun _ _ => rfl), kp := hmod.kp.world (Nat.le_refl _) (fun _ _ => rfl), nx := hmod.nx, sz := hmod.sz }
  have := execL_ok hX (ops := m) (Q := Qof X K) (K := fun st => endRegion st (K .normal)) (Kp := fun ch st => K (.panic ch) st)
    (fun ρ' st' a' w' hm' hk => ⟨.normal, st', ρ', rfl, hm', by unfold endRegion at hk; split at hk <;> exact hk⟩)
    (fun ch ρ' st' a' w' hm' hk => ⟨.panic ch, st', ρ', rfl, hm', hk⟩) m 0 ρ st a { w with drawn := w.drawn + 1 } rfl h1 hmod'
  refine perm_wp (bare_ok hb) (Region.linearise .any ops t) [] m a _ ?_ ?_
  · simpa [Array.getElem?_toList] using h2
  · rw [← hlen]; exact this

/-! ### The row, from a run through -/
open Go.ChangeShapes Go.WideShapes Go.ChangeAt Go.RowKit

/-- What a statement's call comes to. -/
def LawEnd (P : Program) (f : Nat) (W : World) (vals : List Value) : Prop :=
  Calls P f vals.toArray W fun e W' => e = .returned (.bool true) ∧ W.heap.size ≤ W'.heap.size ∧ (∀ b, b < W.heap.size → W'.heap[b]? = W.heap[b]?) ∧ Str W W'

theorem LawEnd.of_opened {P : Program} {f : Nat} {W : World} {vals : List Value} (h : Opened P f W vals) : LawEnd P f W vals := by
  obtain ⟨ρ, L, l, fr, ct, pr, hk, hro, hfr, hd, hc, hp⟩ := h
  refine (hk ρ L W fr l vals _ hro.hm (fun j h1 _ => hfr j h1) hd hc hp).mono fun e W' hpost => ?_
  obtain ⟨ρ', v, rfl, hend⟩ := hpost
  have hv := hend.den
  simp only [den, Option.some.injEq] at hv
  subst hv
  exact ⟨rfl, hend.size, hend.same, hend.str⟩

theorem LawEnd.of_exec {P : Program} {T : Tab} {C : Nat → Option Ct} (hX : ∀ G r nt, (⟨P, T, C, G, r, nt⟩ : Cx).Ok) {f : Nat} {fn : Func} {c : Code} (hf : P.funcs[f]? = some fn) (hb : fn.body = some c) {W : World} {vals : List Value}
    {ρ : Env} {H : List (Nat × HB)} {nx : Nat} {l : List SV} (hro : RoH ρ (findH H) W) (hnx : ∀ j, nx ≤ j → ρ j = none) (hd : denL ρ l = some vals) (hlen : l.length ≤ fn.ntmps)
    (h : ∀ G : Base, (∀ j, nx ≤ j → G.ρ j = none) → exec ⟨P, T, C, G, none, fn.ntmps⟩ c (start l H nx) (Fin ⟨P, T, C, G, none, fn.ntmps⟩ fn.results.toList (fun v _ => SVeq v (.sb true)) (fun _ _ => False))) : LawEnd P f W vals := by
  have hcall := calls_of_exec (X := ⟨P, T, C, ⟨W, Own ρ (findH H), ρ⟩, none, fn.ntmps⟩) (hX _ _ _) rfl hf hb rfl hd hlen hro.hm rfl hnx (h _ hnx)
  refine hcall.mono ?_
  rintro e w' (⟨v, st, ρ', u, rfl, hv, hmh, hr⟩ | ⟨ch, st, ρ', rfl, hmh, hr⟩)
  · rw [SVeq_eq _ _ hr] at hv
    simp only [den, Option.some.injEq] at hv
    subst hv
    exact ⟨rfl, hmh.kp.size, fun b hb => hmh.kp.same b hb hro.own, hmh.kp.str⟩
  · exact hr.elim

theorem row_law {H : Type} {enc : TypeId × Value → H} {C : Checked} {a : Assume} {os : Os} {f tb : Nat} {fn : Func} {s : ChangeSpec} {conds : List PathCond} (hl : laidOutB C.prog = true) (own : ownKnob C.prog.godebug = none) (started : os.Started) (noInit : C.prog.inits.idxOf? f = none)
    (hfn : C.prog.funcs[f]? = some fn)
    (witness : ∃ (w : World) (tape : Tape) (i : Input), w.os = os ∧ (w.forCall tape i).Shaped C.prog ∧ i.vars = [] ∧ Input.okWide C.prog (w.forCall tape i) .any w.heap.size f i ∧
      s.pre6 enc C.prog fn conds false (w.forCall tape i).memory i.args ∧ a.holds C.prog (lone (Frame.enter C.prog f i.args .normal) [] (w.forCall tape i)))
    (hvars : s.vars = []) (hres : fn.resultTypes = #[tb]) (htb : C.prog.underlying tb = some .bool) (hread : (fn.params.toList.all fun t => C.prog.readableRec t && decide (t < C.prog.types.size)) = true)
    (hspec : ∀ ds : List (DataW H), ds.length = fn.params.toList.length → s.fn H (ds ++ []) = { results := [.lit (.bool true)], args := ds })
    (hw : ∀ (W : World) (base : Nat) (args : Array Value) (ds : List (DataW H)) (p : List MemPlace), (∀ (j : Nat) t v, fn.params[j]? = some t → args[j]? = some v → Value.okWide C.prog W .any base t v) →
      DataW.TrodAll enc C.prog W 0 (fun _ => true) true fn.params.toList args.toList ds p → LawEnd C.prog f W args.toList) :
    ReturnsInHanded a C os f .any (s.pre6 enc C.prog fn conds false) (s.post enc C.prog fn false true false false) := by
  refine returnsInHanded_of_change own started noInit hfn witness ?_
  intro W base args ds gs before hval hW hcnd _
  have hW' := hW
  obtain ⟨p, q, hA, hV, rfl, hfz, hnd⟩ := hW
  rw [hvars] at hV
  obtain ⟨rfl, rfl⟩ := trodVars_none hV
  refine (hw W base args ds p hval hA).mono fun e W' hpost => ?_
  obtain ⟨rfl, hsz, hsm, hstr⟩ := hpost
  have hsame : ∀ p' ∈ p, W.sameAt W' p' := by
    intro p' hp'
    have hlt := trodAll_lt hA p' hp'
    cases p' with
    | cell b o => exact World.cell?_of_block (w := W) (hsm b hlt)
    | map b => exact hsm b hlt
  have hs := hspec ds (by simpa using trodAll_length hA)
  refine ⟨_, rfl, ds, [], p ++ [], [], p, [], hW', ?_, ?_, ?_, ?_, fun h => by cases h⟩
  · rw [hs, hres]
    exact trodAll_mk1 (shut_bool htb _)
  · rw [hs]
    refine trodAll_carry hl (fun t ht => ?_) hA hsame (fun x hx => by simpa using trodAll_lt hA x hx)
    have := List.all_eq_true.1 hread t ht
    simpa using this
  · rw [hs, hvars]
    rfl
  · refine ⟨hstr.1, hstr.2, fun i hi => ?_⟩
    rw [hsm i hi]
    split <;> simp_all

/-! ### Several slices that came in -/
def numbH : Nat → List (HB × Nm) → List (Nat × HB)
  | _, [] => []
  | i, (hb, _) :: r => (i, hb) :: numbH (i + 1) r
def envH (L : List (HB × Nm)) : Env := fun j => (L[j]?).map (·.2)
theorem numbH_find : ∀ (L : List (HB × Nm)) (i j : Nat) (hb : HB), findH (numbH i L) j = some hb → i ≤ j ∧ ∃ nm, L[j - i]? = some (hb, nm)
  | [], i, j, hb, h => by cases h
  | (x, nm) :: r, i, j, hb, h => by
    simp only [numbH, findH] at h
    split at h
    · rename_i e
      have : i = j := by simpa using e
      subst this; cases h
      exact ⟨Nat.le_refl _, nm, by simp⟩
    · obtain ⟨h1, nm', h2⟩ := numbH_find r (i + 1) j hb h
      refine ⟨by omega, nm', ?_⟩
      have e : j - i = (j - (i + 1)) + 1 := by omega
      rw [e]; simpa using h2
theorem roH_of {L : List (HB × Nm)} {W : World} (h : ∀ p ∈ L, (∀ ρ, HBok ρ W p.1 p.2) ∧ p.2.owner = none) : RoH (envH L) (findH (numbH 0 L)) W := by
  intro id hb hf
  obtain ⟨_, nm, h1⟩ := numbH_find L 0 id hb hf
  rw [Nat.sub_zero] at h1
  have hm := h _ (List.mem_of_getElem? h1)
  exact ⟨nm, by simp [envH, h1], hm.1 _, hm.2⟩
theorem envH_none (L : List (HB × Nm)) (j : Nat) (h : L.length ≤ j) : envH L j = none := by simp [envH, List.getElem?_eq_none h]
end Go.X
end

section
set_option linter.unusedVariables false
set_option linter.unusedSimpArgs false
set_option linter.unusedSectionVars false
/- Stack: StackTrue answers true. -/
set_option linter.unusedVariables false
set_option linter.unusedSimpArgs false
set_option linter.unusedSectionVars false
set_option maxRecDepth 10000
set_option maxHeartbeats 2000000
namespace Go.X.S
open Go Go.Proofs Go.X

theorem b62 : Body P 62 := body_of Try.func62 (c := code Try.f62) rfl (by decide)
theorem b32 : Body P 32 := body_of Try.func32 (c := code Try.f32) rfl (by decide)
theorem b31 : Body P 31 := body_of Try.func31 (c := code Try.f31) rfl (by decide)

/-- What is drawn of a span. -/
def drawV (m : Nat) (v : Nat → Int) (k : Int) (s : Span) : Int := if (m : Int) = 0 then s.1 else s.1 + (v (k.tmod m).toNat + 61 * k).tmod (s.2 - s.1 + 1)
theorem drawV_in {m : Nat} {v : Nat → Int} {k : Int} {s : Span} (hv : ∀ j, j < m → 0 ≤ v j ∧ v j < 65536) (hk : 0 ≤ k) (hs : s.1 ≤ s.2) : s.1 ≤ drawV m v k s ∧ drawV m v k s ≤ s.2 := by
  unfold drawV
  split
  · omega
  · rename_i h
    have hr : 0 ≤ k.tmod (m : Int) ∧ k.tmod (m : Int) < (m : Int) := by
      rw [Int.tmod_eq_emod_of_nonneg hk]
      exact ⟨Int.emod_nonneg _ h, Int.emod_lt_of_pos _ (by omega)⟩
    have hvv := hv (k.tmod (m : Int)).toNat (by omega)
    have ht : 0 ≤ (v (k.tmod (m : Int)).toNat + 61 * k).tmod (s.2 - s.1 + 1) ∧ (v (k.tmod (m : Int)).toNat + 61 * k).tmod (s.2 - s.1 + 1) < s.2 - s.1 + 1 := by
      rw [Int.tmod_eq_emod_of_nonneg (by omega)]
      exact ⟨Int.emod_nonneg _ (by omega), Int.emod_lt_of_pos _ (by omega)⟩
    omega

/-- How long a stack truly is, and how many were drawn. -/
def truT (set : Nat) (own : Nat → Int) (m : Nat) (v : Nat → Int) (film : Span) (k : Int) : Nat → Int × Int
  | 0 => (0, k)
  | i + 1 => if set.testBit i then (if 0 < cntB set i then ((truT set own m v film k i).1 + drawV m v ((truT set own m v film k i).2 + 1) film + own i, (truT set own m v film k i).2 + 1)
      else ((truT set own m v film k i).1 + own i, (truT set own m v film k i).2)) else truT set own m v film k i
theorem truT_in {set : Nat} {own : Nat → Int} {m : Nat} {v : Nat → Int} {film : Span} {k : Int} {sp : Nat → Span} (hv : ∀ j, j < m → 0 ≤ v j ∧ v j < 65536) (hk : 0 ≤ k) (hf : film.1 ≤ film.2) :
    ∀ i, (∀ j, j < i → (sp j).1 ≤ own j ∧ own j ≤ (sp j).2) → (wS (fun j => (sp j).1) film.1 set i ≤ (truT set own m v film k i).1 ∧ (truT set own m v film k i).1 ≤ wS (fun j => (sp j).2) film.2 set i) ∧ k ≤ (truT set own m v film k i).2 ∧ (truT set own m v film k i).2 ≤ k + i
  | 0, _ => by simp [truT, wS]
  | i + 1, h => by
    obtain ⟨⟨h1, h2⟩, h3, h4⟩ := truT_in (set := set) (own := own) (m := m) (v := v) (film := film) (k := k) (sp := sp) hv hk hf i (fun j hj => h j (by omega))
    have ho := h i (by omega)
    have hd := drawV_in (m := m) (v := v) (k := (truT set own m v film k i).2 + 1) hv (by omega) hf
    simp only [truT, wS]
    split
    · split
      · refine ⟨⟨?_, ?_⟩, ?_, ?_⟩ <;> simp only <;> omega
      · refine ⟨⟨?_, ?_⟩, ?_, ?_⟩ <;> simp only <;> omega
    · refine ⟨⟨h1, h2⟩, h3, ?_⟩
      omega

theorem tru32a {n m : Nat} {sp : Nat → Span} {v : Nat → Int} {lo hi : Int} {own : Nat → Int} {set : Nat} {k : Int} (hn8 : n ≤ 8) (hm : m ≤ maxLen) (hv : ∀ j, j < m → 0 ≤ v j ∧ v j < 65536) (hin : ∀ i, i < n → (1 ≤ (sp i).1 ∧ (sp i).1 ≤ (sp i).2 ∧ (sp i).2 ≤ 500))
    (hown : ∀ j, j < n → (sp j).1 ≤ own j ∧ own j ≤ (sp j).2) (hk0 : 0 ≤ k) (hk1 : k ≤ 100) (hl : 0 ≤ lo ∧ lo ≤ hi ∧ hi ≤ 5) (hs1 : set < 256) (Rv : SV → List (Nat × HB) → Nat → Prop) (Rp : List PanicEntry → List (Nat × HB) → Nat → Prop)
    (hRv : Rv (.si .i64 (truT set own m v (lo, hi) k n).1) ([(7, .vec 3 1 n (fun j => [.si .i64 (own j)])), (6, .cells 46 [.sl 7]), (5, .cells 44 [.fn (Fn.func 62) [] [.sp 4 0, .sp 3 0]]), (4, .cells 3 [.si .i64 (truT set own m v (lo, hi) k n).2]), (3, .cells 42 [.sl 1]), (2, .cells 26 [.sl 0, .si .i64 lo, .si .i64 hi]), (0, .ro 2 n fun i => spanC (sp i)), (1, .ro 1 m fun j => [.si .u16 (v j)])]) 8) :
    CallS P 32 [.si .i64 (set : Nat), .sp 6 0, .sp 5 0, .sp 2 0] ([(7, .vec 3 1 n (fun j => [.si .i64 (own j)])), (6, .cells 46 [.sl 7]), (5, .cells 44 [.fn (Fn.func 62) [] [.sp 4 0, .sp 3 0]]), (4, .cells 3 [.si .i64 k]), (3, .cells 42 [.sl 1]), (2, .cells 26 [.sl 0, .si .i64 lo, .si .i64 hi]), (0, .ro 2 n fun i => spanC (sp i)), (1, .ro 1 m fun j => [.si .u16 (v j)])]) 8 Rv Rp := by
  have g := good0
  obtain ⟨hlo0, hlh, hhi5⟩ := hl
  refine callS_to g.ok Try.func32 (c := code Try.f32) rfl (Nat.le_of_ble_eq_true rfl) _ _ _ (fun G2 hG2 => ?_) hRv
  refine loop_ok (g.ok _ _ _) (fun i : {i : Nat // i ≤ n} => ⟨[(0, ⟨[], .si .i64 (set : Nat)⟩), (1, ⟨[], .sp 6 0⟩), (2, ⟨[], .sp 5 0⟩), (3, ⟨[], .sp 2 0⟩), (5, ⟨[], .si .i64 (truT set own m v (lo, hi) k i.1).1⟩), (6, ⟨[], .sb (decide (cntB set i.1 = 0))⟩), (9, ⟨[], .si .i64 n⟩), (10, ⟨[], .si .i64 i.1⟩)], [],
      [(7, .vec 3 1 n (fun j => [.si .i64 (own j)])), (6, .cells 46 [.sl 7]), (5, .cells 44 [.fn (Fn.func 62) [] [.sp 4 0, .sp 3 0]]), (4, .cells 3 [.si .i64 (truT set own m v (lo, hi) k i.1).2]), (3, .cells 42 [.sl 1]), (2, .cells 26 [.sl 0, .si .i64 lo, .si .i64 hi]), (0, .ro 2 n fun i => spanC (sp i)), (1, .ro 1 m fun j => [.si .u16 (v j)])], 8, []⟩) (fun i => n - i.1) (fun _ j hj => hG2 j hj) ⟨0, Nat.zero_le _⟩ ?_ ?_
  · refine ⟨?_, ?_, rfl, rfl, rfl⟩
    · repeat' (first | exact trivial | exact rfl | refine And.intro ?_ ?_)
    · repeat' (first | exact trivial | exact rfl | (intro i hi; exact rfl) | refine And.intro ?_ ?_)
  · rintro ⟨i, hle⟩
    have hti := truT_in (set := set) (m := m) (v := v) (film := (lo, hi)) (k := k) (sp := sp) hv (by omega) hlh i (fun j hj => hown j (by omega))
    simp only at hti
    have hw1 := wS_le (f := fun j => (sp j).1) set (film := lo) (by omega) i (fun j hj => by have := hin j (by omega); omega)
    have hw2 := wS_le (f := fun j => (sp j).2) set (film := hi) (by omega) i (fun j hj => by have := hin j (by omega); omega)
    refine Br.mk (fun h => ?_) (fun h => ?_)
    · replace h : (i : Int) < (n : Int) := of_decide_eq_true h
      have b1 := hin i (by omega)
      have b2 := hown i (by omega)
      have hk2 : 0 ≤ ((set : Nat) : Int).fdiv (2 ^ i) ∧ ((set : Nat) : Int).fdiv (2 ^ i) ≤ 1000000 := by
        rw [Int.fdiv_eq_ediv_of_nonneg _ (Int.pow_nonneg (by omega))]
        have := Int.ediv_le_self (a := ((set : Nat) : Int)) (2 ^ i) (by omega)
        exact ⟨Int.ediv_nonneg (by omega) (Int.pow_nonneg (by omega)), by omega⟩
      have hsh : (0 : Int) ≤ (i : Int) ∧ i ≤ 64 := ⟨by omega, by omega⟩
      have hand : 0 ≤ ((set : Nat) : Int).fdiv (2 ^ i) ∧ (0 : Int) ≤ 1 ∧ InK .i64 (((set : Nat) : Int).fdiv (2 ^ i)) ∧ InK .i64 1 := ⟨hk2.1, by omega, ⟨by omega, by omega⟩, by omega, by omega⟩
      have hin1 : InK .i64 ((i : Int) + 1) := ⟨by omega, by omega⟩
      have hix : (0 : Int) ≤ (i : Int) ∧ (i : Int) < (n : Int) := ⟨by omega, h⟩
      have hbit : decide ((((((set : Nat) : Int).fdiv (2 ^ i)).toNat &&& (1 : Int).toNat : Nat) : Int) = 0) = !(set).testBit i := by
        rw [← shr_bit]
        have h2 := Nat.and_le_right (n := (((set : Nat) : Int).fdiv (2 ^ i)).toNat) (m := (1 : Int).toNat)
        have h3 : (1 : Int).toNat = 1 := rfl
        rw [h3] at h2 ⊢
        rw [Bool.eq_iff_iff]
        simp only [decide_eq_true_eq, Bool.not_eq_true', decide_eq_false_iff_not]
        omega
      refine Chk.mk hsh (Chk.mk hand ?_)
      refine Br.mk (fun hh => ?_) (fun hh => ?_)
      · replace hh : (set).testBit i = false := by
          have := hbit.symm.trans hh
          simpa using this
        have e1 : (truT set own m v (lo, hi) k i).1 = (truT set own m v (lo, hi) k (i + 1)).1 := by simp only [truT, hh]; rfl
        have e2 : (truT set own m v (lo, hi) k i).2 = (truT set own m v (lo, hi) k (i + 1)).2 := by simp only [truT, hh]; rfl
        have e3 : decide (cntB set i = 0) = decide (cntB set (i + 1) = 0) := by simp only [cntB, hh]; rfl
        refine Chk.mk hin1 ⟨⟨i + 1, by omega⟩, ?_, (by show n - (i + 1) < n - i; omega)⟩
        refine ⟨?_, ?_, rfl, rfl, rfl⟩
        · repeat' (first | exact trivial | exact e1 | exact e3 | exact rfl | refine And.intro ?_ ?_)
        · repeat' (first | exact trivial | exact e2 | exact rfl | (intro i hi; exact rfl) | refine And.intro ?_ ?_)
      · replace hh : (set).testBit i = true := by
          have := hbit.symm.trans hh
          simpa using this
        have e3 : false = decide (cntB set (i + 1) = 0) := by simp [cntB, hh]
        refine Br.mk (fun hf => ?_) (fun hf => ?_)
        · replace hf : 0 < cntB set i := by
            have hf : (!decide (cntB set i = 0)) = true := hf
            have : ¬ cntB set i = 0 := by simpa using hf
            omega
          have hdv := drawV_in (m := m) (v := v) (k := (truT set own m v (lo, hi) k i).2 + 1) (s := (lo, hi)) hv (by omega) hlh
          have e1 : (truT set own m v (lo, hi) k i).1 + drawV m v ((truT set own m v (lo, hi) k i).2 + 1) (lo, hi) + own i = (truT set own m v (lo, hi) k (i + 1)).1 := by simp only [truT, hh, hf, if_true]
          have e2 : (truT set own m v (lo, hi) k i).2 + 1 = (truT set own m v (lo, hi) k (i + 1)).2 := by simp only [truT, hh, hf, if_true]
          obtain ⟨dv, hdd⟩ : ∃ dv, drawV m v ((truT set own m v (lo, hi) k i).2 + 1) (lo, hi) = dv := ⟨_, rfl⟩
          rw [hdd] at hdv e1
          generalize (truT set own m v (lo, hi) k i).1 = s1 at *
          generalize hs2 : (truT set own m v (lo, hi) k i).2 = s2 at *
          refine fb_call (g.ok _ _ _) cont_std rfl rfl rfl rfl ?_
          refine ⟨b62, callS_to g.ok Try.func62 (c := code Try.f62) rfl (Nat.le_of_ble_eq_true rfl) (.si .i64 dv) ([(7, .vec 3 1 n (fun j => [.si .i64 (own j)])), (6, .cells 46 [.sl 7]), (5, .cells 44 [.fn (Fn.func 62) [] [.sp 4 0, .sp 3 0]]), (4, .cells 3 [.si .i64 (s2 + 1)]), (3, .cells 42 [.sl 1]), (2, .cells 26 [.sl 0, .si .i64 lo, .si .i64 hi]), (0, .ro 2 n fun i => spanC (sp i)), (1, .ro 1 m fun j => [.si .u16 (v j)])]) 8 (fun G1 hG1 => ?_) ?_⟩
          · refine Chk.mk (show InK .i64 (s2 + 1) from ⟨by omega, by omega⟩) ?_
            refine Br.mk (fun h => ?_) (fun h => ?_)
            · replace h : (m : Int) = 0 := of_decide_eq_true h
              refine ⟨fun j => j, ?_, ?_, rfl, rfl, rfl, rfl⟩
              · repeat' (first | exact trivial | exact rfl | (intro i hi; exact ⟨rfl, rfl⟩) | refine And.intro ?_ ?_)
              · refine ⟨rfl, ?_⟩
                rw [← hdd, drawV, if_pos h]
            · replace h : ¬ (m : Int) = 0 := of_decide_eq_false h
              refine drawn_ok (g.ok _ _ _) fol [0,1,0,0,0,16,56,124,252,508,0,1024,4092,0,8192,0,32768,122880,253952,524284,1048575,2097151] [] 22 (by kernel_rfl) ?_
              have hr : 0 ≤ (s2 + 1).tmod (m : Int) ∧ (s2 + 1).tmod (m : Int) < (m : Int) := by
                rw [Int.tmod_eq_emod_of_nonneg (by omega)]
                exact ⟨Int.emod_nonneg _ h, Int.emod_lt_of_pos _ (by omega)⟩
              have hvv := hv ((s2 + 1).tmod (m : Int)).toNat (by omega)
              obtain ⟨vj, hvj⟩ : ∃ vj, v ((s2 + 1).tmod (m : Int)).toNat = vj := ⟨_, rfl⟩
              rw [hvj] at hvv
              have hd0 : (0 : Int) < hi - lo + 1 := by omega
              have ht : 0 ≤ (vj + 61 * (s2 + 1)).tmod (hi - lo + 1) ∧ (vj + 61 * (s2 + 1)).tmod (hi - lo + 1) < hi - lo + 1 := by
                rw [Int.tmod_eq_emod_of_nonneg (by omega)]
                exact ⟨Int.emod_nonneg _ (by omega), Int.emod_lt_of_pos _ hd0⟩
              refine Chk.mk h (Chk.mk hr (Chk.mk (show InK .i64 (v ((s2 + 1).tmod (m : Int)).toNat) from ⟨by omega, by omega⟩) ?_))
              rw [hvj]
              refine (Chk.mk (show InK .i64 (61 * (s2 + 1)) from ⟨by omega, by omega⟩) (Chk.mk (show InK .i64 (vj + 61 * (s2 + 1)) from ⟨by omega, by omega⟩) (Chk.mk (show InK .i64 (hi - lo) from ⟨by omega, by omega⟩)
                (Chk.mk (show InK .i64 (hi - lo + 1) from ⟨by omega, by omega⟩) (Chk.mk (show hi - lo + 1 ≠ 0 by omega) (Chk.mk (show InK .i64 (lo + (vj + 61 * (s2 + 1)).tmod (hi - lo + 1)) from ⟨by omega, by omega⟩) ?_))))))
              refine ⟨fun j => j, ?_, ?_, rfl, rfl, rfl, rfl⟩
              · repeat' (first | exact trivial | exact rfl | (intro i hi; exact ⟨rfl, rfl⟩) | refine And.intro ?_ ?_)
              · refine ⟨rfl, ?_⟩
                rw [← hdd, drawV, if_neg h, hvj]
          · refine Chk.mk (show InK .i64 (s1 + dv) from ⟨by omega, by omega⟩) ?_
            refine drawn_ok (g.ok _ _ _) fol [0,0,0,6,14,31,0,127] [] 8 (by kernel_rfl) ?_
            refine Chk.mk hix (Chk.mk (show InK .i64 (s1 + dv + own i) from ⟨by omega, by omega⟩) (Chk.mk hin1 ⟨⟨i + 1, by omega⟩, ?_, (by show n - (i + 1) < n - i; omega)⟩))
            refine ⟨?_, ?_, rfl, rfl, rfl⟩
            · repeat' (first | exact trivial | exact e1 | exact e3 | exact rfl | refine And.intro ?_ ?_)
            · repeat' (first | exact trivial | exact e2 | exact rfl | (intro i hi; exact rfl) | refine And.intro ?_ ?_)
        · replace hf : cntB set i = 0 := by
            have hf : (!decide (cntB set i = 0)) = false := hf
            simpa using hf
          have hf' : ¬ 0 < cntB set i := by omega
          have e1 : (truT set own m v (lo, hi) k i).1 + own i = (truT set own m v (lo, hi) k (i + 1)).1 := by simp only [truT, hh, hf', if_true, if_false]
          have e2 : (truT set own m v (lo, hi) k i).2 = (truT set own m v (lo, hi) k (i + 1)).2 := by simp only [truT, hh, hf', if_true, if_false]
          generalize (truT set own m v (lo, hi) k i).1 = s1 at *
          generalize hs2 : (truT set own m v (lo, hi) k i).2 = s2 at *
          refine drawn_ok (g.ok _ _ _) fol [0,0,0,6,14,31,0,127] [] 8 (by kernel_rfl) ?_
          refine Chk.mk hix (Chk.mk (show InK .i64 (s1 + own i) from ⟨by omega, by omega⟩) (Chk.mk hin1 ⟨⟨i + 1, by omega⟩, ?_, (by show n - (i + 1) < n - i; omega)⟩))
          refine ⟨?_, ?_, rfl, rfl, rfl⟩
          · repeat' (first | exact trivial | exact e1 | exact e3 | exact rfl | refine And.intro ?_ ?_)
          · repeat' (first | exact trivial | exact e2 | exact rfl | (intro i hi; exact rfl) | refine And.intro ?_ ?_)
    · replace h : ¬ (i : Int) < (n : Int) := of_decide_eq_false h
      have hin' : n = i := by omega
      subst hin'
      refine ⟨fun j => j, ?_, ?_, rfl, rfl, rfl, rfl⟩
      · repeat' (first | exact trivial | exact rfl | (intro i hi; exact ⟨rfl, rfl⟩) | refine And.intro ?_ ?_)
      · exact ⟨rfl, rfl⟩

end Go.X.S
end

section
set_option linter.unusedVariables false
set_option linter.unusedSimpArgs false
set_option linter.unusedSectionVars false
/- Stack: StackTrue answers true. -/
set_option linter.unusedVariables false
set_option linter.unusedSimpArgs false
set_option linter.unusedSectionVars false
set_option maxRecDepth 10000
set_option maxHeartbeats 2000000
namespace Go.X.S
open Go Go.Proofs Go.X

theorem tru32b {n m : Nat} {sp : Nat → Span} {v : Nat → Int} {lo hi : Int} {own : Nat → Int} {set : Nat} {k : Int} {a b c d : Int} (hn8 : n ≤ 8) (hm : m ≤ maxLen) (hv : ∀ j, j < m → 0 ≤ v j ∧ v j < 65536) (hin : ∀ i, i < n → (1 ≤ (sp i).1 ∧ (sp i).1 ≤ (sp i).2 ∧ (sp i).2 ≤ 500))
    (hown : ∀ j, j < n → (sp j).1 ≤ own j ∧ own j ≤ (sp j).2) (hk0 : 0 ≤ k) (hk1 : k ≤ 100) (hl : 0 ≤ lo ∧ lo ≤ hi ∧ hi ≤ 5) (hs1 : set < 256) (Rv : SV → List (Nat × HB) → Nat → Prop) (Rp : List PanicEntry → List (Nat × HB) → Nat → Prop)
    (hRv : Rv (.si .i64 (truT set own m v (lo, hi) k n).1) ((9, .cells 24 [.si .i64 c, .si .i64 d]) :: (8, .cells 24 [.si .i64 a, .si .i64 b]) :: [(7, .vec 3 1 n (fun j => [.si .i64 (own j)])), (6, .cells 46 [.sl 7]), (5, .cells 44 [.fn (Fn.func 62) [] [.sp 4 0, .sp 3 0]]), (4, .cells 3 [.si .i64 (truT set own m v (lo, hi) k n).2]), (3, .cells 42 [.sl 1]), (2, .cells 26 [.sl 0, .si .i64 lo, .si .i64 hi]), (0, .ro 2 n fun i => spanC (sp i)), (1, .ro 1 m fun j => [.si .u16 (v j)])]) 10) :
    CallS P 32 [.si .i64 (set : Nat), .sp 6 0, .sp 5 0, .sp 2 0] ((9, .cells 24 [.si .i64 c, .si .i64 d]) :: (9, .cells 24 [.si .i64 0, .si .i64 0]) :: (8, .cells 24 [.si .i64 a, .si .i64 b]) :: (8, .cells 24 [.si .i64 0, .si .i64 0]) :: [(7, .vec 3 1 n (fun j => [.si .i64 (own j)])), (6, .cells 46 [.sl 7]), (5, .cells 44 [.fn (Fn.func 62) [] [.sp 4 0, .sp 3 0]]), (4, .cells 3 [.si .i64 k]), (3, .cells 42 [.sl 1]), (2, .cells 26 [.sl 0, .si .i64 lo, .si .i64 hi]), (0, .ro 2 n fun i => spanC (sp i)), (1, .ro 1 m fun j => [.si .u16 (v j)])]) 10 Rv Rp := by
  have g := good0
  obtain ⟨hlo0, hlh, hhi5⟩ := hl
  refine callS_to g.ok Try.func32 (c := code Try.f32) rfl (Nat.le_of_ble_eq_true rfl) _ _ _ (fun G2 hG2 => ?_) hRv
  refine loop_ok (g.ok _ _ _) (fun i : {i : Nat // i ≤ n} => ⟨[(0, ⟨[], .si .i64 (set : Nat)⟩), (1, ⟨[], .sp 6 0⟩), (2, ⟨[], .sp 5 0⟩), (3, ⟨[], .sp 2 0⟩), (5, ⟨[], .si .i64 (truT set own m v (lo, hi) k i.1).1⟩), (6, ⟨[], .sb (decide (cntB set i.1 = 0))⟩), (9, ⟨[], .si .i64 n⟩), (10, ⟨[], .si .i64 i.1⟩)], [],
      (9, .cells 24 [.si .i64 c, .si .i64 d]) :: (8, .cells 24 [.si .i64 a, .si .i64 b]) :: [(7, .vec 3 1 n (fun j => [.si .i64 (own j)])), (6, .cells 46 [.sl 7]), (5, .cells 44 [.fn (Fn.func 62) [] [.sp 4 0, .sp 3 0]]), (4, .cells 3 [.si .i64 (truT set own m v (lo, hi) k i.1).2]), (3, .cells 42 [.sl 1]), (2, .cells 26 [.sl 0, .si .i64 lo, .si .i64 hi]), (0, .ro 2 n fun i => spanC (sp i)), (1, .ro 1 m fun j => [.si .u16 (v j)])], 10, []⟩) (fun i => n - i.1) (fun _ j hj => hG2 j hj) ⟨0, Nat.zero_le _⟩ ?_ ?_
  · refine ⟨?_, ?_, rfl, rfl, rfl⟩
    · repeat' (first | exact trivial | exact rfl | refine And.intro ?_ ?_)
    · repeat' (first | exact trivial | exact rfl | (intro i hi; exact rfl) | refine And.intro ?_ ?_)
  · rintro ⟨i, hle⟩
    have hti := truT_in (set := set) (m := m) (v := v) (film := (lo, hi)) (k := k) (sp := sp) hv (by omega) hlh i (fun j hj => hown j (by omega))
    simp only at hti
    have hw1 := wS_le (f := fun j => (sp j).1) set (film := lo) (by omega) i (fun j hj => by have := hin j (by omega); omega)
    have hw2 := wS_le (f := fun j => (sp j).2) set (film := hi) (by omega) i (fun j hj => by have := hin j (by omega); omega)
    refine Br.mk (fun h => ?_) (fun h => ?_)
    · replace h : (i : Int) < (n : Int) := of_decide_eq_true h
      have b1 := hin i (by omega)
      have b2 := hown i (by omega)
      have hk2 : 0 ≤ ((set : Nat) : Int).fdiv (2 ^ i) ∧ ((set : Nat) : Int).fdiv (2 ^ i) ≤ 1000000 := by
        rw [Int.fdiv_eq_ediv_of_nonneg _ (Int.pow_nonneg (by omega))]
        have := Int.ediv_le_self (a := ((set : Nat) : Int)) (2 ^ i) (by omega)
        exact ⟨Int.ediv_nonneg (by omega) (Int.pow_nonneg (by omega)), by omega⟩
      have hsh : (0 : Int) ≤ (i : Int) ∧ i ≤ 64 := ⟨by omega, by omega⟩
      have hand : 0 ≤ ((set : Nat) : Int).fdiv (2 ^ i) ∧ (0 : Int) ≤ 1 ∧ InK .i64 (((set : Nat) : Int).fdiv (2 ^ i)) ∧ InK .i64 1 := ⟨hk2.1, by omega, ⟨by omega, by omega⟩, by omega, by omega⟩
      have hin1 : InK .i64 ((i : Int) + 1) := ⟨by omega, by omega⟩
      have hix : (0 : Int) ≤ (i : Int) ∧ (i : Int) < (n : Int) := ⟨by omega, h⟩
      have hbit : decide ((((((set : Nat) : Int).fdiv (2 ^ i)).toNat &&& (1 : Int).toNat : Nat) : Int) = 0) = !(set).testBit i := by
        rw [← shr_bit]
        have h2 := Nat.and_le_right (n := (((set : Nat) : Int).fdiv (2 ^ i)).toNat) (m := (1 : Int).toNat)
        have h3 : (1 : Int).toNat = 1 := rfl
        rw [h3] at h2 ⊢
        rw [Bool.eq_iff_iff]
        simp only [decide_eq_true_eq, Bool.not_eq_true', decide_eq_false_iff_not]
        omega
      refine Chk.mk hsh (Chk.mk hand ?_)
      refine Br.mk (fun hh => ?_) (fun hh => ?_)
      · replace hh : (set).testBit i = false := by
          have := hbit.symm.trans hh
          simpa using this
        have e1 : (truT set own m v (lo, hi) k i).1 = (truT set own m v (lo, hi) k (i + 1)).1 := by simp only [truT, hh]; rfl
        have e2 : (truT set own m v (lo, hi) k i).2 = (truT set own m v (lo, hi) k (i + 1)).2 := by simp only [truT, hh]; rfl
        have e3 : decide (cntB set i = 0) = decide (cntB set (i + 1) = 0) := by simp only [cntB, hh]; rfl
        refine Chk.mk hin1 ⟨⟨i + 1, by omega⟩, ?_, (by show n - (i + 1) < n - i; omega)⟩
        refine ⟨?_, ?_, rfl, rfl, rfl⟩
        · repeat' (first | exact trivial | exact e1 | exact e3 | exact rfl | refine And.intro ?_ ?_)
        · repeat' (first | exact trivial | exact e2 | exact rfl | (intro i hi; exact rfl) | refine And.intro ?_ ?_)
      · replace hh : (set).testBit i = true := by
          have := hbit.symm.trans hh
          simpa using this
        have e3 : false = decide (cntB set (i + 1) = 0) := by simp [cntB, hh]
        refine Br.mk (fun hf => ?_) (fun hf => ?_)
        · replace hf : 0 < cntB set i := by
            have hf : (!decide (cntB set i = 0)) = true := hf
            have : ¬ cntB set i = 0 := by simpa using hf
            omega
          have hdv := drawV_in (m := m) (v := v) (k := (truT set own m v (lo, hi) k i).2 + 1) (s := (lo, hi)) hv (by omega) hlh
          have e1 : (truT set own m v (lo, hi) k i).1 + drawV m v ((truT set own m v (lo, hi) k i).2 + 1) (lo, hi) + own i = (truT set own m v (lo, hi) k (i + 1)).1 := by simp only [truT, hh, hf, if_true]
          have e2 : (truT set own m v (lo, hi) k i).2 + 1 = (truT set own m v (lo, hi) k (i + 1)).2 := by simp only [truT, hh, hf, if_true]
          obtain ⟨dv, hdd⟩ : ∃ dv, drawV m v ((truT set own m v (lo, hi) k i).2 + 1) (lo, hi) = dv := ⟨_, rfl⟩
          rw [hdd] at hdv e1
          generalize (truT set own m v (lo, hi) k i).1 = s1 at *
          generalize hs2 : (truT set own m v (lo, hi) k i).2 = s2 at *
          refine fb_call (g.ok _ _ _) cont_std rfl rfl rfl rfl ?_
          refine ⟨b62, callS_to g.ok Try.func62 (c := code Try.f62) rfl (Nat.le_of_ble_eq_true rfl) (.si .i64 dv) ((9, .cells 24 [.si .i64 c, .si .i64 d]) :: (8, .cells 24 [.si .i64 a, .si .i64 b]) :: [(7, .vec 3 1 n (fun j => [.si .i64 (own j)])), (6, .cells 46 [.sl 7]), (5, .cells 44 [.fn (Fn.func 62) [] [.sp 4 0, .sp 3 0]]), (4, .cells 3 [.si .i64 (s2 + 1)]), (3, .cells 42 [.sl 1]), (2, .cells 26 [.sl 0, .si .i64 lo, .si .i64 hi]), (0, .ro 2 n fun i => spanC (sp i)), (1, .ro 1 m fun j => [.si .u16 (v j)])]) 10 (fun G1 hG1 => ?_) ?_⟩
          · refine Chk.mk (show InK .i64 (s2 + 1) from ⟨by omega, by omega⟩) ?_
            refine Br.mk (fun h => ?_) (fun h => ?_)
            · replace h : (m : Int) = 0 := of_decide_eq_true h
              refine ⟨fun j => j, ?_, ?_, rfl, rfl, rfl, rfl⟩
              · repeat' (first | exact trivial | exact rfl | (intro i hi; exact ⟨rfl, rfl⟩) | refine And.intro ?_ ?_)
              · refine ⟨rfl, ?_⟩
                rw [← hdd, drawV, if_pos h]
            · replace h : ¬ (m : Int) = 0 := of_decide_eq_false h
              refine drawn_ok (g.ok _ _ _) fol [0,1,0,0,0,16,56,124,252,508,0,1024,4092,0,8192,0,32768,122880,253952,524284,1048575,2097151] [] 22 (by kernel_rfl) ?_
              have hr : 0 ≤ (s2 + 1).tmod (m : Int) ∧ (s2 + 1).tmod (m : Int) < (m : Int) := by
                rw [Int.tmod_eq_emod_of_nonneg (by omega)]
                exact ⟨Int.emod_nonneg _ h, Int.emod_lt_of_pos _ (by omega)⟩
              have hvv := hv ((s2 + 1).tmod (m : Int)).toNat (by omega)
              obtain ⟨vj, hvj⟩ : ∃ vj, v ((s2 + 1).tmod (m : Int)).toNat = vj := ⟨_, rfl⟩
              rw [hvj] at hvv
              have hd0 : (0 : Int) < hi - lo + 1 := by omega
              have ht : 0 ≤ (vj + 61 * (s2 + 1)).tmod (hi - lo + 1) ∧ (vj + 61 * (s2 + 1)).tmod (hi - lo + 1) < hi - lo + 1 := by
                rw [Int.tmod_eq_emod_of_nonneg (by omega)]
                exact ⟨Int.emod_nonneg _ (by omega), Int.emod_lt_of_pos _ hd0⟩
              refine Chk.mk h (Chk.mk hr (Chk.mk (show InK .i64 (v ((s2 + 1).tmod (m : Int)).toNat) from ⟨by omega, by omega⟩) ?_))
              rw [hvj]
              refine (Chk.mk (show InK .i64 (61 * (s2 + 1)) from ⟨by omega, by omega⟩) (Chk.mk (show InK .i64 (vj + 61 * (s2 + 1)) from ⟨by omega, by omega⟩) (Chk.mk (show InK .i64 (hi - lo) from ⟨by omega, by omega⟩)
                (Chk.mk (show InK .i64 (hi - lo + 1) from ⟨by omega, by omega⟩) (Chk.mk (show hi - lo + 1 ≠ 0 by omega) (Chk.mk (show InK .i64 (lo + (vj + 61 * (s2 + 1)).tmod (hi - lo + 1)) from ⟨by omega, by omega⟩) ?_))))))
              refine ⟨fun j => j, ?_, ?_, rfl, rfl, rfl, rfl⟩
              · repeat' (first | exact trivial | exact rfl | (intro i hi; exact ⟨rfl, rfl⟩) | refine And.intro ?_ ?_)
              · refine ⟨rfl, ?_⟩
                rw [← hdd, drawV, if_neg h, hvj]
          · refine Chk.mk (show InK .i64 (s1 + dv) from ⟨by omega, by omega⟩) ?_
            refine drawn_ok (g.ok _ _ _) fol [0,0,0,6,14,31,0,127] [] 8 (by kernel_rfl) ?_
            refine Chk.mk hix (Chk.mk (show InK .i64 (s1 + dv + own i) from ⟨by omega, by omega⟩) (Chk.mk hin1 ⟨⟨i + 1, by omega⟩, ?_, (by show n - (i + 1) < n - i; omega)⟩))
            refine ⟨?_, ?_, rfl, rfl, rfl⟩
            · repeat' (first | exact trivial | exact e1 | exact e3 | exact rfl | refine And.intro ?_ ?_)
            · repeat' (first | exact trivial | exact e2 | exact rfl | (intro i hi; exact rfl) | refine And.intro ?_ ?_)
        · replace hf : cntB set i = 0 := by
            have hf : (!decide (cntB set i = 0)) = false := hf
            simpa using hf
          have hf' : ¬ 0 < cntB set i := by omega
          have e1 : (truT set own m v (lo, hi) k i).1 + own i = (truT set own m v (lo, hi) k (i + 1)).1 := by simp only [truT, hh, hf', if_true, if_false]
          have e2 : (truT set own m v (lo, hi) k i).2 = (truT set own m v (lo, hi) k (i + 1)).2 := by simp only [truT, hh, hf', if_true, if_false]
          generalize (truT set own m v (lo, hi) k i).1 = s1 at *
          generalize hs2 : (truT set own m v (lo, hi) k i).2 = s2 at *
          refine drawn_ok (g.ok _ _ _) fol [0,0,0,6,14,31,0,127] [] 8 (by kernel_rfl) ?_
          refine Chk.mk hix (Chk.mk (show InK .i64 (s1 + own i) from ⟨by omega, by omega⟩) (Chk.mk hin1 ⟨⟨i + 1, by omega⟩, ?_, (by show n - (i + 1) < n - i; omega)⟩))
          refine ⟨?_, ?_, rfl, rfl, rfl⟩
          · repeat' (first | exact trivial | exact e1 | exact e3 | exact rfl | refine And.intro ?_ ?_)
          · repeat' (first | exact trivial | exact e2 | exact rfl | (intro i hi; exact rfl) | refine And.intro ?_ ?_)
    · replace h : ¬ (i : Int) < (n : Int) := of_decide_eq_false h
      have hin' : n = i := by omega
      subst hin'
      refine ⟨fun j => j, ?_, ?_, rfl, rfl, rfl, rfl⟩
      · repeat' (first | exact trivial | exact rfl | (intro i hi; exact ⟨rfl, rfl⟩) | refine And.intro ?_ ?_)
      · exact ⟨rfl, rfl⟩

end Go.X.S
end

section
set_option linter.unusedVariables false
set_option linter.unusedSimpArgs false
set_option linter.unusedSectionVars false
/- Stack: StackTrue answers true, the law. -/
set_option linter.unusedVariables false
set_option linter.unusedSimpArgs false
set_option linter.unusedSectionVars false
set_option maxRecDepth 10000
set_option maxHeartbeats 2000000
namespace Go.X.S
open Go Go.Proofs Go.X

theorem law5 {W : World} {vals : List Value} {ρ : Env} {n m : Nat} {sp : Nat → Span} {v : Nat → Int} {lo hi z x y : Int} (hz : 0 ≤ z ∧ z < 256) (hx : 0 ≤ x ∧ x < 65536) (hy : 0 ≤ y ∧ y < 256) (hv : ∀ j, j < m → 0 ≤ v j ∧ v j < 65536) (hm : m ≤ maxLen)
    (hro : RoH ρ (findH [(0, .ro 2 n fun i => spanC (sp i)), (1, .ro 1 m fun j => [.si .u16 (v j)])]) W) (hnx : ∀ j, 2 ≤ j → ρ j = none)
    (hd : denL ρ [.agg [.sl 0, .si .i64 lo, .si .i64 hi], .si .u8 z, .si .u16 x, .si .u8 y, .sl 1] = some vals) : LawEnd P 5 W vals := by
  have g := g14 (g29 (g30 (g33 (g15 (g17 (g25 good0))))))
  refine LawEnd.of_exec (C := tabC _) g.ok Try.func5 (c := code Try.f5) rfl hro hnx hd (Nat.le_of_ble_eq_true rfl) fun G hG => ?_
  refine Chk.mk ⟨spans_sp _ _, rfl, trivial⟩ ?_
  refine Br.mk (fun h => ?_) (fun h => ?_)
  · exact (rfl : true = true)
  · obtain ⟨L, hL⟩ : ∃ L, (spanL n fun i => spanC (sp i)) = L := ⟨_, rfl⟩
    have hL' : (List.range n).map sp = L := hL
    have hn : n = L.length := by rw [← hL']; simp
    have h : (!fineB (spanL n fun i => spanC (sp i)) lo hi || decide ((n : Int) = 0)) = false := h
    rw [hL] at h
    simp only [Bool.or_eq_false_iff] at h
    have hok : setOk L lo hi = true := fine_ok (by simpa using h.1)
    have hn0 : 0 < n := by have := of_decide_eq_false h.2; omega
    have hlen := (setOk_len hok).1
    have hl : (spanL n fun i => spanC (sp i)).length ≤ 40 := by rw [hL]; omega
    have hpi := pow_int L.length
    have h64 : 2 ^ L.length ≤ 256 := Nat.pow_le_pow_right (n := 2) (by decide) hlen
    have h2N : 2 ≤ 2 ^ L.length := by
      have := Nat.pow_le_pow_right (n := 2) (by decide) (show 1 ≤ L.length by omega)
      simpa using this
    obtain ⟨N, hN⟩ : ∃ N, 2 ^ L.length = N := ⟨_, rfl⟩
    rw [hN] at hpi h64 h2N
    refine Chk.mk ⟨by omega, by omega⟩ ?_
    refine Chk.mk ⟨spans_sp _ _, rfl, hl⟩ ?_
    rw [hL, ← hpi]
    refine Chk.mk (show (N : Int) - 1 ≠ 0 by omega) ?_
    have e1 : z.tmod ((N : Int) - 1) = z % ((N : Int) - 1) := Int.tmod_eq_emod_of_nonneg (by omega)
    rw [e1]
    have h3 := Int.emod_nonneg z (show (N : Int) - 1 ≠ 0 by omega)
    have h4 := Int.emod_lt_of_pos z (show (0 : Int) < (N : Int) - 1 by omega)
    obtain ⟨set, hset⟩ : ∃ set : Nat, 1 + z % ((N : Int) - 1) = set := ⟨(1 + z % ((N : Int) - 1)).toNat, by omega⟩
    have hs0 : 0 < set := by omega
    have hs1 : set < N := by omega
    refine Chk.mk ⟨by omega, by omega⟩ ?_
    rw [hset]
    refine fb_call (g.ok _ _ _) cont_std rfl rfl rfl rfl ?_
    refine ⟨b31, callS_exec g.ok Try.func31 (c := code Try.f31) rfl (Nat.le_of_ble_eq_true rfl) (fun G1 hG1 => ?_)⟩
    have hin : ∀ i, i < n → (1 ≤ (sp i).1 ∧ (sp i).1 ≤ (sp i).2 ∧ (sp i).2 ≤ 500) := fun i hi => by
      have := (setOk_len hok).2.2.2.2 (sp i) (by rw [← hL']; exact List.mem_map.2 ⟨i, List.mem_range.2 hi, rfl⟩)
      omega
    refine nil_cell 6 46 3 1 (fun j => [.si .i64 0]) rfl ?_
    refine loop_okR (g.ok _ _ _) 2 (fun q : {q : Nat × (Nat → Int) × Int // q.1 ≤ n ∧ (∀ j, j < q.1 → (sp j).1 ≤ q.2.1 j ∧ q.2.1 j ≤ (sp j).2) ∧ 0 ≤ q.2.2 ∧ q.2.2 ≤ q.1} =>
      ⟨[(2, ⟨[], .si .u16 x⟩), (3, ⟨[], .si .u8 y⟩), (5, ⟨[], .sp 2 0⟩), (10, ⟨[], .sb false⟩), (11, ⟨[], .si .i64 set⟩), (12, ⟨[], .sp 5 0⟩), (13, ⟨[], .sp 6 0⟩), (47, ⟨[], .sl 0⟩), (48, ⟨[], .si .i64 n⟩), (49, ⟨[], .si .i64 q.1.1⟩)], [],
        [(7, .vec 3 1 q.1.1 (fun j => [.si .i64 (q.1.2.1 j)])), (6, .cells 46 [.sl 7]), (5, .cells 44 [.fn (Fn.func 62) [] [.sp 4 0, .sp 3 0]]), (4, .cells 3 [.si .i64 q.1.2.2]), (3, .cells 42 [.sl 1]), (2, .cells 26 [.sl 0, .si .i64 lo, .si .i64 hi]), (0, .ro 2 n fun i => spanC (sp i)), (1, .ro 1 m fun j => [.si .u16 (v j)])], 8, []⟩)
      (fun q => n - q.1.1) hG ⟨(0, (fun j => 0), 0), Nat.zero_le _, (fun j hj => by omega), Int.le_refl 0, Int.le_refl 0⟩ (fun j => j) ?_ ?_
    · refine ⟨?_, ?_, rfl, rfl, rfl, rfl, trivial⟩
      · repeat' (first | exact trivial | exact rfl | refine And.intro ?_ ?_)
      · repeat' (first | exact trivial | exact rfl | (intro i hi; exact ⟨rfl, rfl⟩) | refine And.intro ?_ ?_)
    · rintro ⟨⟨i, own, k⟩, hle, hown, hk0, hk1⟩
      simp only at hle hown hk0 hk1
      refine Br.mk (fun h => ?_) (fun h => ?_)
      · replace h : (i : Int) < (n : Int) := of_decide_eq_true h
        have b1 := hin i (by omega)
        have hix : (0 : Int) ≤ (i : Int) ∧ (i : Int) < (n : Int) := ⟨by omega, h⟩
        refine Chk.mk hix ?_
        have hdraw : ∀ (Rv : SV → List (Nat × HB) → Nat → Prop) (Rp : List PanicEntry → List (Nat × HB) → Nat → Prop),
            Rv (.si .i64 (drawV m v (k + 1) (sp i))) ((4, .cells 3 [.si .i64 (k + 1)]) :: (8, .cells 24 [.si .i64 (sp i).1, .si .i64 (sp i).2]) ::
              [(7, .vec 3 1 i (fun j => [.si .i64 (own j)])), (6, .cells 46 [.sl 7]), (5, .cells 44 [.fn (Fn.func 62) [] [.sp 4 0, .sp 3 0]]), (3, .cells 42 [.sl 1]), (2, .cells 26 [.sl 0, .si .i64 lo, .si .i64 hi]), (0, .ro 2 n fun i => spanC (sp i)), (1, .ro 1 m fun j => [.si .u16 (v j)])]) 10 →
            CallS P 62 [.agg [.si .i64 (sp i).1, .si .i64 (sp i).2], .sp 4 0, .sp 3 0] ((8, .cells 24 [.si .i64 (sp i).1, .si .i64 (sp i).2]) :: (8, .cells 24 [.si .i64 0, .si .i64 0]) ::
              [(7, .vec 3 1 i (fun j => [.si .i64 (own j)])), (6, .cells 46 [.sl 7]), (5, .cells 44 [.fn (Fn.func 62) [] [.sp 4 0, .sp 3 0]]), (4, .cells 3 [.si .i64 k]), (3, .cells 42 [.sl 1]), (2, .cells 26 [.sl 0, .si .i64 lo, .si .i64 hi]), (0, .ro 2 n fun i => spanC (sp i)), (1, .ro 1 m fun j => [.si .u16 (v j)])]) 9 Rv Rp := by
          intro Rv Rp hRv
          have hdv := drawV_in (m := m) (v := v) (k := k + 1) (s := sp i) hv (by omega) b1.2.1
          refine callS_to g.ok Try.func62 (c := code Try.f62) rfl (Nat.le_of_ble_eq_true rfl) _ _ _ (fun G1 hG1 => ?_) hRv
          refine Chk.mk (show _ ∧ _ from ⟨by omega, by omega⟩) ?_
          refine Br.mk (fun h => ?_) (fun h => ?_)
          · replace h : (m : Int) = 0 := of_decide_eq_true h
            refine ⟨fun j => j, ?_, ?_, rfl, rfl, rfl, rfl⟩
            · repeat' (first | exact trivial | exact rfl | (intro i hi; exact ⟨rfl, rfl⟩) | refine And.intro ?_ ?_)
            · refine ⟨rfl, ?_⟩
              rw [drawV, if_pos h]
          · replace h : ¬ (m : Int) = 0 := of_decide_eq_false h
            refine drawn_ok (g.ok _ _ _) fol [0,1,0,0,0,16,56,124,252,508,0,1024,4092,0,8192,0,32768,122880,253952,524284,1048575,2097151] [] 22 (by kernel_rfl) ?_
            have hr : 0 ≤ (k + 1).tmod (m : Int) ∧ (k + 1).tmod (m : Int) < (m : Int) := by
              rw [Int.tmod_eq_emod_of_nonneg (by omega)]
              exact ⟨Int.emod_nonneg _ h, Int.emod_lt_of_pos _ (by omega)⟩
            have hvv := hv ((k + 1).tmod (m : Int)).toNat (by omega)
            obtain ⟨vj, hvj⟩ : ∃ vj, v ((k + 1).tmod (m : Int)).toNat = vj := ⟨_, rfl⟩
            rw [hvj] at hvv
            have hd0 : (0 : Int) < (sp i).2 - (sp i).1 + 1 := by omega
            have ht : 0 ≤ (vj + 61 * (k + 1)).tmod ((sp i).2 - (sp i).1 + 1) ∧ (vj + 61 * (k + 1)).tmod ((sp i).2 - (sp i).1 + 1) < (sp i).2 - (sp i).1 + 1 := by
              rw [Int.tmod_eq_emod_of_nonneg (by omega)]
              exact ⟨Int.emod_nonneg _ (by omega), Int.emod_lt_of_pos _ hd0⟩
            refine Chk.mk h (Chk.mk hr (Chk.mk (show InK .i64 (v ((k + 1).tmod (m : Int)).toNat) from ⟨by omega, by omega⟩) ?_))
            rw [hvj]
            refine (Chk.mk (show InK .i64 (61 * (k + 1)) from ⟨by omega, by omega⟩) (Chk.mk (show InK .i64 (vj + 61 * (k + 1)) from ⟨by omega, by omega⟩) (Chk.mk (show InK .i64 ((sp i).2 - (sp i).1) from ⟨by omega, by omega⟩)
              (Chk.mk (show InK .i64 ((sp i).2 - (sp i).1 + 1) from ⟨by omega, by omega⟩) (Chk.mk (show (sp i).2 - (sp i).1 + 1 ≠ 0 by omega) (Chk.mk (show InK .i64 ((sp i).1 + (vj + 61 * (k + 1)).tmod ((sp i).2 - (sp i).1 + 1)) from ⟨by omega, by omega⟩) ?_))))))
            refine ⟨fun j => j, ?_, ?_, rfl, rfl, rfl, rfl⟩
            · repeat' (first | exact trivial | exact rfl | (intro i hi; exact ⟨rfl, rfl⟩) | refine And.intro ?_ ?_)
            · refine ⟨rfl, ?_⟩
              rw [drawV, if_neg h, hvj]
        refine orders_ok (g.ok _ _ _) fol rfl [[0,1,2,3,4,5,6],[0,2,1,3,4,5,6],[1,0,2,3,4,5,6],[1,2,0,3,4,5,6],[1,2,3,0,4,5,6],[1,2,3,4,0,5,6],[2,0,1,3,4,5,6],[2,1,0,3,4,5,6],[2,1,3,0,4,5,6],[2,1,3,4,0,5,6]] (by kernel_rfl) ?_
        have hap : ∀ d, (sp i).1 ≤ d ∧ d ≤ (sp i).2 → ∀ j, j < i + 1 → (sp j).1 ≤ (if j < i then own j else d) ∧ (if j < i then own j else d) ≤ (sp j).2 := by
          intro d hd j hj
          by_cases hji : j < i
          · rw [if_pos hji]; exact hown j hji
          · have : j = i := by omega
            subst this
            rw [if_neg hji]; exact hd
        have hk' : (0 : Int) ≤ k + 1 ∧ k + 1 ≤ ((i + 1 : Nat) : Int) := ⟨by omega, by omega⟩
        refine ⟨?_, ?_, ?_, ?_, ?_, ?_, ?_, ?_, ?_, ?_⟩
        all_goals
          refine fb_call (g.ok _ _ _) cont_std rfl rfl rfl rfl ?_
          refine ⟨b62, hdraw _ _ ?_⟩
          refine fb_append (Te := 0) 7 10 i 1 _ _ (fun j => [.si .i64 (if j < i then own j else drawV m v (k + 1) (sp i))]) (g.ok _ _ _) cont_std rfl rfl rfl rfl rfl rfl rfl rfl rfl rfl rfl rfl (by decide) (by decide) rfl rfl rfl rfl ?_ ?_ ?_
          · omega
          · intro j hj
            show [SV.si .i64 (if j < i then own j else drawV m v (k + 1) (sp i))] = _
            by_cases hji : j < i
            · rw [if_pos hji, if_pos hji]
            · have : j - i = 0 := by omega
              rw [if_neg hji, if_neg hji, this]
              rfl
          · refine Chk.mk (show InK .i64 ((i : Int) + 1) from ⟨by omega, by omega⟩) ⟨⟨(i + 1, (fun j => if j < i then own j else drawV m v (k + 1) (sp i)), k + 1), by omega, hap _ (drawV_in hv (by omega) b1.2.1), hk'.1, hk'.2⟩, (fun j => if j = 7 then 11 else j), ?_, (by show n - (i + 1) < n - i; omega)⟩
            refine ⟨?_, ?_, rfl, rfl, rfl, rfl, trivial⟩
            · repeat' (first | exact trivial | exact rfl | refine And.intro ?_ ?_)
            · repeat' (first | exact trivial | exact rfl | (intro i hi; exact ⟨rfl, rfl⟩) | refine And.intro ?_ ?_)
      · replace h : ¬ (i : Int) < (n : Int) := of_decide_eq_false h
        have hin' : n = i := by omega
        subst hin'
        have hl5 : 0 ≤ lo ∧ lo ≤ hi ∧ hi ≤ 5 := ⟨(setOk_len hok).2.1, (setOk_len hok).2.2.1, (setOk_len hok).2.2.2.1⟩
        have hn8 : n ≤ 8 := by omega
        have hT1 := truT_in (set := set) (m := m) (v := v) (film := (lo, hi)) (k := k) (sp := sp) hv hk0 hl5.2.1 n (fun j hj => hown j hj)
        have hof : ∀ x, 0 < x → x < N → ofL L lo hi x = (wS (fun j => (sp j).1) lo x n, wS (fun j => (sp j).2) hi x n) := by
          intro x hx0 hx1
          have h1 := ofW_ofL (L := L) (lo := lo) (hi := hi) hx0 (by omega)
          have h2 : ofW L lo hi x = (wS (fun j => (sp j).1) lo x n, wS (fun j => (sp j).2) hi x n, (cntB x n : Int)) := by rw [← hL', ofW_map]
          rw [h2] at h1
          injection h1 with h3 h4
          injection h4 with h4 h5
          rw [h3, h4]
        have hsetok : isSetB L.length ((set : Nat) : Int) = true := isSet_ok.2 ⟨by simpa using hs0, by simp only [Int.toNat_natCast]; omega, by omega⟩
        have hlerr := err_ok (L := L) (lo := lo) (hi := hi) hok hsetok
        obtain ⟨A, B, hAB⟩ : ∃ A B, ofL L lo hi set = (A, B) := ⟨_, _, rfl⟩
        have hlong : longV L lo hi ((set : Nat) : Int) = (A, B) := by rw [longV, hlerr, if_pos rfl]; simpa using hAB
        have hbd : ∀ x, 0 < x → x < N → 0 ≤ (ofL L lo hi x).1 ∧ (ofL L lo hi x).2 ≤ 20000 ∧ (ofL L lo hi x).1 ≤ (ofL L lo hi x).2 := by
          intro x hx0 hx1
          have h1 := wS_le (f := fun j => (sp j).1) x (film := lo) (by omega) n (fun j hj => by have := hin j (by omega); omega)
          have h2 := wS_le (f := fun j => (sp j).2) x (film := hi) (by omega) n (fun j hj => by have := hin j (by omega); omega)
          have h3 := ofL_le hok hx0
          rw [hof x hx0 hx1] at h3 ⊢
          exact ⟨h1.1, by omega, h3⟩
        have hbA := hbd set hs0 hs1
        have hTA : A ≤ (truT set own m v (lo, hi) k n).1 ∧ (truT set own m v (lo, hi) k n).1 ≤ B := by
          have := hof set hs0 hs1
          rw [hAB] at this
          injection this with h1 h2
          rw [h1, h2]; exact hT1.1
        rw [hAB] at hbA
        have hk2 := hT1.2
        clear hT1
        refine fb_call (g.ok _ _ _) cont_std rfl rfl rfl rfl ?_
        refine ⟨b32, tru32a hn8 hm hv hin (fun j hj => hown j hj) hk0 (by omega) hl5 (by omega) _ _ ?_⟩
        generalize (truT set own m v (lo, hi) k n).1 = T at *
        generalize (truT set own m v (lo, hi) k n).2 = k2 at *
        refine Chk.mk ⟨hx, hy⟩ ?_
        have hw := want_ok hx.1 hy.1
        have hwb : 0 ≤ x % 5001 ∧ x % 5001 ≤ 5000 := by omega
        generalize hwl : x % 5001 = wl at *
        generalize hwh : min 5000 (wl + y) = wh at *
        have hlb : isLenB wl = true := by simp only [isLenB, Bool.and_eq_true, decide_eq_true_eq]; omega
        obtain ⟨hr1, hr2, hr3, hr4⟩ := right_spec hok hw hs0 (by omega)
        obtain ⟨R, hR⟩ : ∃ R, rightW L lo hi ((set : Nat) : Int) wl wh = R := ⟨_, rfl⟩
        rw [hR] at hr2 hr3 hr4
        refine Chk.mk ⟨spans_sp _ _, rfl, hl⟩ ?_
        rw [hL, hlong, hlerr]
        refine Chk.mk ⟨spans_sp _ _, rfl, hl⟩ ?_
        rw [hL, hr1, hR]
        refine Chk.mk ⟨spans_sp _ _, rfl, hl⟩ ?_
        rw [hL]
        rcases near_spec hok hlb with ⟨X, hf, hX0, hX1, hn0, hXmin⟩ | ⟨hf, hn0⟩
        rotate_left
        · exact absurd hn0 (by omega)
        rw [hf]
        have hXN : X < N := by omega
        obtain ⟨C, D, hCD⟩ : ∃ C D, ofL L lo hi X = (C, D) := ⟨_, _, rfl⟩
        have hbC := hbd X hX0 hXN
        have hmin := hXmin set hs0 (by omega)
        rw [hAB, hCD] at hmin
        rw [hCD] at hbC ⊢
        simp only [qIn, qMe, hAB, insideB, meetsB] at hr2 hr3
        simp only [ltC, Bool.or_eq_true, Bool.and_eq_true, decide_eq_true_eq, offV] at hmin
        simp only at hbA hbC
        rw [not_or] at hmin
        obtain ⟨hmin, _⟩ := hmin
        replace hmin : ¬ (max (wl - A) (B - wl) < max (wl - C) (D - wl)) := fun h => hmin (decide_eq_true h)
        have hoff : offV (C, D) wl = max (wl - C) (D - wl) := rfl
        rw [hoff]
        refine Chk.mk (fun _ => ⟨spans_sp _ _, rfl, hl⟩) ?_
        rw [hL, ← hpi]
        refine Br.mk (fun h => ?_) (fun h => ?_)
        · exfalso
          revert h
          simp only [Bool.and_eq_true, decide_eq_true_eq, Bool.and_eq_false_iff, decide_eq_false_iff_not] at hr2 hr3
          simp
          omega
        · clear h
          refine orders_ok (g.ok _ _ _) fol rfl [[0,1,2,3,4,5,6],[0,1,3,2,4,5,6],[0,1,3,4,2,5,6],[0,3,1,2,4,5,6],[0,3,1,4,2,5,6],[0,3,4,1,2,5,6],[1,0,2,3,4,5,6],[1,0,3,2,4,5,6],[1,0,3,4,2,5,6],[1,3,0,2,4,5,6],[1,3,0,4,2,5,6],[1,3,4,0,2,5,6],[3,0,1,2,4,5,6],[3,0,1,4,2,5,6],[3,0,4,1,2,5,6],[3,1,0,2,4,5,6],[3,1,0,4,2,5,6],[3,1,4,0,2,5,6],[3,4,0,1,2,5,6],[3,4,1,0,2,5,6]] (by kernel_rfl) ?_
          have hX2 := truT_in (set := X) (m := m) (v := v) (film := (lo, hi)) (k := k2) (sp := sp) hv (by omega) hl5.2.1 n (fun j hj => hown j hj)
          have hXC : C ≤ (truT X own m v (lo, hi) k2 n).1 ∧ (truT X own m v (lo, hi) k2 n).1 ≤ D := by
            have := hof X hX0 hXN
            rw [hCD] at this
            injection this with h1 h2
            rw [h1, h2]; exact hX2.1
          refine ⟨?_, ?_, ?_, ?_, ?_, ?_, ?_, ?_, ?_, ?_, ?_, ?_, ?_, ?_, ?_, ?_, ?_, ?_, ?_, ?_⟩
          all_goals
            refine fb_call (g.ok _ _ _) cont_std rfl rfl rfl rfl ?_
            refine ⟨b32, tru32b hn8 hm hv hin (fun j hj => hown j hj) (by omega) (by omega) hl5 (by omega) _ _ ?_⟩
            generalize (truT X own m v (lo, hi) k2 n).1 = U at *
            refine Chk.mk (show InK .i64 (U - wl) from ⟨by omega, by omega⟩) ?_
            refine Chk.mk (show InK .i64 (0 - (U - wl)) from ⟨by omega, by omega⟩) ?_
            refine Chk.mk (fun _ => show InK .i64 (wl - A) from ⟨by omega, by omega⟩) ?_
            refine Chk.mk (fun _ => show InK .i64 (B - wl) from ⟨by omega, by omega⟩) ?_
            show _ = true
            simp
            omega
end Go.X.S
end
