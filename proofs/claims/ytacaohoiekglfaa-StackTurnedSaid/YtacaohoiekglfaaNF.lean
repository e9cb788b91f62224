/- The walk of StackMore. -/
import Derived.Test.YtacaohoiekglfaaNE
import Derived.Test.YtacaohoiekglfaaND

section
set_option linter.unusedVariables false
set_option linter.unusedSimpArgs false
set_option linter.unusedSectionVars false
/- Slices: an element's cells stored into; a row is called a slice of our own. -/
set_option linter.unusedVariables false
set_option linter.unusedSimpArgs false
set_option linter.unusedSectionVars false
set_option maxRecDepth 10000
namespace Go.X
open Go

section
variable {X : Cx} {st : St}

/-- A row is called a slice of our own. -/
theorem fb_row (id Tr s n : Nat) (xs : List SV) (get : Nat → List SV) {ops : List Oper} {i : Nat} {o : Oper} {r : List Oper} {Q : Exit → Act → World → Prop} {K : St → Prop} {Kp : List PanicEntry → St → Prop}
    (h1 : findH st.H id = some (.row Tr s n xs)) (hg : ∀ i, i < n → (xs.drop (i * s)).take s = get i)
    (h : stK st fun F gs H nx D => FbO X ops Q K Kp i o r ⟨F, gs, (id, .vec Tr s n get) :: H, nx, D⟩) : FbO X ops Q K Kp i o r st := by
  rw [stK_eq] at h
  refine ⟨fun ρ a w hm => ?_⟩
  obtain ⟨nm, hn, hok⟩ := hm.hm.ok _ _ h1
  exact h.h ρ a w (hm.swap h1 rfl hn (row_vec hok hg) (fun _ _ _ h => by cases h))

theorem chunk_ne {i j s k off m : Nat} (h : i ≠ k) (hj : j < s) (hf : off + m ≤ s) : i * s + j < k * s + off ∨ k * s + off + m ≤ i * s + j := by
  rcases Nat.lt_or_gt_of_ne h with h1 | h1
  · left
    have : (i + 1) * s ≤ k * s := Nat.mul_le_mul_right _ h1
    rw [Nat.add_mul] at this; omega
  · right
    have : (k + 1) * s ≤ i * s := Nat.mul_le_mul_right _ h1
    rw [Nat.add_mul] at this; omega

/-- An element of a slice of our own is stored into. -/
theorem fb_storeV (id Tr s n : Nat) (k : Int) (off : Nat) (get get' : Nat → List SV) (cs : List SV) {v : SV} {ops : List Oper} {i : Nat} {o : Oper} {r : List Oper} {Q : Exit → Act → World → Prop} {Kn : St → Prop} {Kp : List PanicEntry → St → Prop}
    {t : TypeId} {ti : TI} {x y : Operand} (hX : X.Ok) (hC : Cont X Q Kn Kp) (hi : ops.drop i = o :: r) (hc : o.op = .store t x y) (hg : o.guard = none) (hdst : o.dst = none) (ht : X.T t = some ti)
    (h1 : ev (findF st.F) [] x = some (.se id k off)) (h2 : ev (findF st.F) [] y = some v) (h3 : findH st.H id = some (.vec Tr s n get)) (h4 : cellsS v = some cs) (h5 : cs.length = ti.size)
    (hk : 0 ≤ k ∧ k < (n : Int)) (hfit : off + cs.length ≤ s) (hg' : ∀ j, j < n → get' j = if j = k.toNat then setL (get j) off cs else get j)
    (h : stK st fun F gs H nx D => execL X ops Q Kn Kp (i + 1) r ⟨F, gs, (id, .vec Tr s n get') :: H, nx, D⟩) : FbO X ops Q Kn Kp i o r st := by
  rw [stK_eq] at h
  refine fb_sem hX hC hi (by rw [hc]; intro c h; cases h) hg fun ρ a w hm => ?_
  have hs : GPsat a [] := fun x hx => by cases hx
  have e1 := ev_ok hm.fm hs h1
  have e2 := ev_ok hm.fm hs h2
  obtain ⟨nm, hn, hok⟩ := hm.hm.ok _ _ h3
  obtain ⟨us, u1, u2, u3⟩ := cellsS_ok h4 e2
  have hul := denL_len u1
  cases nm <;> simp only [HBok] at hok
  · obtain ⟨rfl, rfl, rfl, rfl, rfl⟩ := hok
    omega
  rename_i b n' c s'
  obtain ⟨rfl, rfl, hcap, cells, c1, c2, c3⟩ := hok
  have hkn : k.toNat < n' := by omega
  have e1' : a.eval x = .pointer (some ⟨b, k.toNat * s' + off, none⟩) := by
    simp only [den, hn, if_pos hkn, Option.some.injEq] at e1
    exact e1.symm
  have hle : k.toNat * s' + s' ≤ n' * s' := by
    have : (k.toNat + 1) * s' ≤ n' * s' := Nat.mul_le_mul_right _ hkn
    rw [Nat.add_mul] at this; omega
  have hle2 : n' * s' ≤ c * s' := Nat.mul_le_mul_right _ hcap.1
  have hsv := storeVar_ok hX.tab ht (w := w) (nm := b) (off := k.toNat * s' + off) u3 (by omega) u2 c1 (by omega)
  have hrun : (execOp a.eval o).run X.P w = .ok .skip (w.setRow b (cells.take (k.toNat * s' + off) ++ us ++ cells.drop (k.toNat * s' + off + us.length)).toArray) := by
    simp only [execOp, hc, e1', Instr.storeAt, Instr.sureAddr, Sem.run_bind, Sem.run_pure, Result.andThen, hsv]
  have hheap := setRow_heap w b cells.toArray (cells.take (k.toNat * s' + off) ++ us ++ cells.drop (k.toNat * s' + off + us.length)).toArray Tr (0, 0) c1
  refine ⟨undef, _, ρ, { st with H := (id, .vec Tr s' n' get') :: st.H }, .inr ⟨hrun, rfl⟩, ?_, h⟩
  have hput : a.put o.dst undef = a := by rw [hdst]; rfl
  rw [hput]
  refine hm.turned (b := b) h3 rfl hn rfl (size_setRow _ _ _) (fun k' hk' => heap_setRow _ _ _ _ hk') ?_ rfl (fun _ _ _ h => by cases h)
  refine ⟨rfl, rfl, hcap, _, hheap, ?_, fun j hj => ?_⟩
  · simp only [List.length_append, List.length_take, List.length_drop]; omega
  · obtain ⟨vs, d1, d2, d3, d4⟩ := c3 j hj
    have hjle : j * s' + s' ≤ n' * s' := by
      have : (j + 1) * s' ≤ n' * s' := Nat.mul_le_mul_right _ hj
      rw [Nat.add_mul] at this; omega
    have hgl := denL_len d1
    rw [hg' j hj]
    by_cases hjk : j = k.toNat
    · rw [if_pos hjk]
      refine ⟨_, denL_set d1 u1 off (by omega), ?_, ?_, fun q v' hv' => ?_⟩
      · rw [List.all_eq_true] at d2 u2 ⊢
        intro z hz
        simp only [List.mem_append] at hz
        rcases hz with (hz | hz) | hz
        · exact d2 z (List.mem_of_mem_take hz)
        · exact u2 z hz
        · exact d2 z (List.mem_of_mem_drop hz)
      · simp only [List.length_append, List.length_take, List.length_drop]; omega
      · have hql : q < s' := by
          have := lt_of_get hv'
          simp only [List.length_append, List.length_take, List.length_drop] at this; omega
        rw [← hjk]
        rcases Nat.lt_or_ge q off with hq | hq
        · rw [List.append_assoc, List.getElem?_append_left (by simp; omega), List.getElem?_take, if_pos hq] at hv'
          rw [List.append_assoc, List.getElem?_append_left (by simp; omega), List.getElem?_take, if_pos (by omega)]
          exact d4 q v' hv'
        · rcases Nat.lt_or_ge q (off + us.length) with hq2 | hq2
          · rw [List.getElem?_append_left (by simp; omega), List.getElem?_append_right (by simp; omega)] at hv'
            rw [List.getElem?_append_left (by simp; omega), List.getElem?_append_right (by simp; omega)]
            simp only [List.length_take] at hv' ⊢
            rw [← hv']
            congr 1
            omega
          · rw [List.getElem?_append_right (by simp; omega), List.getElem?_drop] at hv'
            rw [List.getElem?_append_right (by simp; omega), List.getElem?_drop]
            simp only [List.length_append, List.length_take] at hv' ⊢
            have := d4 q v' (by rw [← hv']; congr 1; omega)
            rw [← this]
            congr 1
            omega
    · rw [if_neg hjk]
      refine ⟨vs, d1, d2, d3, fun q v' hv' => ?_⟩
      have hq := lt_of_get hv'
      have := d4 q v' hv'
      rcases chunk_ne (i := j) (j := q) (s := s') (k := k.toNat) (off := off) (m := us.length) hjk (by omega) (by omega) with h6 | h6
      · rw [List.append_assoc, List.getElem?_append_left (by simp; omega), List.getElem?_take, if_pos h6]
        exact this
      · rw [List.getElem?_append_right (by simp; omega), List.getElem?_drop]
        simp only [List.length_append, List.length_take]
        rw [← this]
        congr 1
        omega
theorem denL_swap {ρ ρ' : Env} (hx : Ext ρ ρ') {x y : SV} {v : Value} (h : den ρ x = some v) (k : den ρ' y = some v) : ∀ (a b : List SV) (vs : List Value), denL ρ (a ++ x :: b) = some vs → denL ρ' (a ++ y :: b) = some vs
  | [], b, vs, e => by
    obtain ⟨u, us, h1, h2, rfl⟩ := denL_cons e
    rw [h] at h1; cases h1
    exact denL_mk k (denL_ext hx _ _ h2)
  | z :: a, b, vs, e => by
    obtain ⟨u, us, h1, h2, rfl⟩ := denL_cons e
    exact denL_mk (den_ext hx _ _ h1) (denL_swap hx h k a b us h2)

/-- A cell among others that holds nil. -/
theorem nil_at {c : Code} {K : Ex → St → Prop} (id Tc T s : Nat) (get : Nat → List SV) (p q : List SV) (h1 : findH st.H id = some (.cells Tc (p ++ .sv (.slice none 0 0) :: q)))
    (h : stK st fun F gs H nx D => natF (nx + 1) fun nx' => SemC X c ⟨F, gs, (id, .cells Tc (p ++ .sl nx :: q)) :: (nx, .vec T s 0 get) :: H, nx', D⟩ K) : SemC X c st K := by
  intro ρ a w hm
  rw [stK_eq, natF_eq] at h
  have hid : id ≠ st.nx := fun e => by
    obtain ⟨nm, h2, _⟩ := hm.hm.ok _ _ h1
    rw [hm.nx id (by omega)] at h2; cases h2
  have h2 := hm.nilNew T s get
  obtain ⟨nm, h3, h4⟩ := hm.hm.ok _ _ h1
  have h5 : findH ((st.nx, .vec T s 0 get) :: st.H) id = some (.cells Tc (p ++ .sv (.slice none 0 0) :: q)) := by
    rw [findH_cons, updL_ne _ _ (Ne.symm hid)]; exact h1
  refine h _ a w (h2.swap (hb' := .cells Tc (p ++ .sl st.nx :: q)) h5 rfl (nm := nm) (by rw [upd_ne _ _ hid]; exact h3) ?_ (fun _ _ _ h => by cases h))
  cases nm <;> simp only [HBok] at h4 ⊢
  obtain ⟨vs, d1, d2, d3⟩ := h4
  exact ⟨vs, denL_swap (Ext.upd _ (hm.nx _ (Nat.le_refl _))) (v := .slice none 0 0) (by simp [den, Value.oneCell']) (by simp [den, upd_self]) _ _ _ d1, d2, d3⟩
/-- append of all elements to an empty row. -/
theorem fb_append0 (sid xid m : Nat) (get2 : Nat → List SV) {ops : List Oper} {i : Nat} {o : Oper} {r : List Oper} {Q : Exit → Act → World → Prop} {Kn : St → Prop} {Kp : List PanicEntry → St → Prop}
    {t e : TypeId} {ti te : TI} {s x : Operand} {c : Call} {d : Nat} (hX : X.Ok) (hC : Cont X Q Kn Kp) (hi : ops.drop i = o :: r)
    (hc : o.op = .call c) (hcl : c.callee = .builtin .append) (hca : c.args = #[s, x]) (hct : c.argTypes = #[t, t]) (hg : o.guard = none) (hdst : o.dst = some d) (hp : putN st.gs X.nt (some d) = false)
    (ht : X.T t = some ti) (hd : ti.desc = .slice e) (hte : X.T e = some te) (hzs : te.zero.cells.size = te.size) (hpos : 0 < te.size) (hby : te.bytes ≤ 1000)
    (h1 : ev (findF st.F) [] s = some (.sl sid)) (h2 : ev (findF st.F) [] x = some (.sl xid)) (h3 : findH st.H sid = some (.row e te.size 0 [])) (h4 : sliceOf te.size (findH st.H) xid = some (m, get2)) (hne : sid ≠ xid)
    (hnm : m ≤ 1000000)
    (h : stK st fun F gs H nx D => natF (nx + 1) fun nx' => execL X ops Q Kn Kp (i + 1) r ⟨(d, ⟨[], .sl nx⟩) :: F, gs, (nx, .vec e te.size m get2) :: (sid, .dead) :: (sid, .vec e te.size 0 get2) :: H, nx', D⟩) : FbO X ops Q Kn Kp i o r st := by
  rw [stK_eq] at h
  refine fb_row sid e te.size 0 [] get2 h3 (fun i hi => absurd hi (by omega)) ?_
  rw [stK_eq]
  refine fb_append (Te := 0) sid xid 0 m get2 get2 get2 hX hC hi hc hcl hca hct hg hdst hp ht hd hte hzs hpos hby h1 h2 (by simp [findH]) ?_ (by omega) (fun i hi => by simp) ?_
  · have : findH ((sid, HB.vec e te.size 0 get2) :: st.H) xid = findH st.H xid := by rw [findH_cons, updL_ne _ _ hne]
    unfold sliceOf at h4 ⊢
    rw [this]; exact h4
  · rw [stK_eq, Nat.zero_add]
    exact h
/-- An operation from a state that says less. -/
theorem fb_weaken {ops : List Oper} {i : Nat} {o : Oper} {r : List Oper} {Q : Exit → Act → World → Prop} {K : St → Prop} {Kp : List PanicEntry → St → Prop} {st' : St} (n0 : Nat) (s : Nat → Nat) (hn : ∀ j, n0 ≤ j → X.G.ρ j = none)
    (h : WeakR n0 s st st') (hk : FbO X ops Q K Kp i o r st') : FbO X ops Q K Kp i o r st := ⟨fun ρ a w hm => hk.h _ a w (hm.ren h hn)⟩
end
end Go.X
end

section
set_option linter.unusedVariables false
set_option linter.unusedSimpArgs false
set_option linter.unusedSectionVars false
/- Stack: what more, or better known, blocks change, plainly. -/
set_option linter.unusedVariables false
set_option linter.unusedSimpArgs false
set_option linter.unusedSectionVars false
set_option maxRecDepth 10000
set_option maxHeartbeats 1000000
namespace Go.X.S
open Go Go.Proofs Go.X

theorem sumB_monoX {f g : Nat → Int} (x : Nat) : ∀ n, (∀ i, i < n → f i ≤ g i) → sumB f x n ≤ sumB g x n
  | 0, _ => Int.le_refl _
  | n + 1, h => by
    have h1 := sumB_monoX x n (fun i hi => h i (by omega))
    have h2 := h n (by omega)
    simp only [sumB]
    split <;> omega
theorem sumB_high {f : Nat → Int} {x n : Nat} (h : x < 2 ^ n) : sumB f x (n + 1) = sumB f x n := by
  simp only [sumB, Nat.testBit_lt_two_pow h]
  simp
theorem ofS_sub {n n' : Nat} {sp sp' : Nat → Span} {lo hi lo' hi' : Int} {x : Nat} (h0 : 0 < x) (hx : x < 2 ^ n) (hn : n' = n ∨ n' = n + 1) (h : ∀ i, i < n → (sp i).1 ≤ (sp' i).1 ∧ (sp' i).2 ≤ (sp i).2) (hl : lo ≤ lo') (hh : hi' ≤ hi) :
    (ofS n sp lo hi x).1 ≤ (ofS n' sp' lo' hi' x).1 ∧ (ofS n' sp' lo' hi' x).2 ≤ (ofS n sp lo hi x).2 := by
  have hp := sizeN_ge h0
  have hs : (0 : Int) ≤ (sizeN x : Int) - 1 := by omega
  have m1 := Int.mul_le_mul_of_nonneg_left hl hs
  have m2 := Int.mul_le_mul_of_nonneg_left hh hs
  have s1 := sumB_monoX (f := fun i => (sp i).1) (g := fun i => (sp' i).1) x n (fun i hi => (h i hi).1)
  have s2 := sumB_monoX (f := fun i => (sp' i).2) (g := fun i => (sp i).2) x n (fun i hi => (h i hi).2)
  rcases hn with rfl | rfl
  · simp only [ofS]; omega
  · simp only [ofS, sumB_high hx]; omega

theorem few_lt {L : List Span} {lo hi a b : Int} (h : setOk L lo hi = true) (hw : isWantB a b = true) : 0 ≤ (fewW L lo hi a b).1 ∧ (fewW L lo hi a b).1 < 1000 := by
  have h8 := (setOk_len h).1
  have h64 : 2 ^ L.length ≤ 256 := Nat.pow_le_pow_right (n := 2) (by decide) h8
  rcases few_spec h hw with ⟨x, hf, hx0, hx1, _⟩ | ⟨hf, _⟩
  · rw [hf]; exact ⟨Int.natCast_nonneg _, by show (x : Int) < 1000; omega⟩
  · rw [hf]; exact ⟨by decide, by decide⟩
/-- Each stack of the one is one of the other, known as well, or better. -/
structure SubL (L L' : List Span) (lo hi lo' hi' : Int) : Prop where
  len : L.length ≤ L'.length
  of : ∀ x, 0 < x → x < 2 ^ L.length → (ofL L lo hi x).1 ≤ (ofL L' lo' hi' x).1 ∧ (ofL L' lo' hi' x).2 ≤ (ofL L lo hi x).2
theorem SubL.mk' {n n' : Nat} {sp sp' : Nat → Span} {lo hi lo' hi' : Int} (hn : n' = n ∨ n' = n + 1) (h : ∀ i, i < n → (sp i).1 ≤ (sp' i).1 ∧ (sp' i).2 ≤ (sp i).2) (hl : lo ≤ lo') (hh : hi' ≤ hi) :
    SubL ((List.range n).map sp) ((List.range n').map sp') lo hi lo' hi' where
  len := by simp; omega
  of x h0 hx := by
    rw [ofL_map, ofL_map]
    exact ofS_sub h0 (by simpa using hx) hn h hl hh

section
variable {L L' : List Span} {lo hi lo' hi' : Int} (hs : SubL L L' lo hi lo' hi')
include hs
theorem SubL.lt {x : Nat} (h : x < 2 ^ L.length) : x < 2 ^ L'.length := Nat.lt_of_lt_of_le h (Nat.pow_le_pow_right (by decide) hs.len)
theorem SubL.q {a b : Int} {x : Nat} (h0 : 0 < x) (hx : x < 2 ^ L.length) (h : qIn L lo hi (a, b) x = true) : qIn L' lo' hi' (a, b) x = true := by
  have := hs.of x h0 hx
  simp only [qIn, insideB, Bool.and_eq_true, decide_eq_true_eq] at h ⊢
  omega
theorem SubL.few (h : setOk L lo hi = true) (h' : setOk L' lo' hi' = true) {a b : Int} (hw : isWantB a b = true) : (fewW L lo hi a b).2 = 0 →
    (fewW L' lo' hi' a b).2 = 0 ∧ 0 ≤ (fewW L lo hi a b).1 ∧ 0 ≤ (fewW L' lo' hi' a b).1 ∧ (sizeN (fewW L' lo' hi' a b).1.toNat : Int) ≤ sizeN (fewW L lo hi a b).1.toNat := by
  intro h0
  rcases few_spec h hw with ⟨x, hf, hx0, hx1, hxq, hxm⟩ | ⟨hf, hn⟩
  · have hq := hs.q hx0 hx1 hxq
    rcases few_spec h' hw with ⟨y, hf', hy0, hy1, hyq, hym⟩ | ⟨hf', hn'⟩
    · have := hym x hx0 (hs.lt hx1) hq
      rw [lessN_no] at this
      rw [hf, hf']
      refine ⟨rfl, Int.natCast_nonneg _, Int.natCast_nonneg _, ?_⟩
      simp only [Int.toNat_natCast]
      omega
    · have := hn' x hx0 (hs.lt hx1)
      rw [hq] at this; cases this
  · rw [hf] at h0; cases h0
theorem SubL.near (h : setOk L lo hi = true) (h' : setOk L' lo' hi' = true) {len : Int} (hl : isLenB len = true) : (nrW L lo hi len).2.2 = 0 →
    (nrW L' lo' hi' len).2.2 = 0 ∧ (nrW L' lo' hi' len).2.1 ≤ (nrW L lo hi len).2.1 := by
  intro h0
  rcases near_spec h hl with ⟨x, hf, hx0, hx1, hn0, hxm⟩ | ⟨hf, hn⟩
  · rcases near_spec h' hl with ⟨y, hf', hy0, hy1, _, hym⟩ | ⟨hf', hn'⟩
    · have := hym x hx0 (hs.lt hx1)
      have h1 := hs.of x hx0 hx1
      rw [hf, hf']
      refine ⟨rfl, ?_⟩
      simp only [ltC, Bool.or_eq_true, Bool.and_eq_true, decide_eq_true_eq, not_or] at this
      have h2 := this.1
      simp only [offV] at h2 ⊢
      omega
    · have := hs.len
      omega
  · rw [hf] at h0; cases h0
end

theorem sur_wide {L : List Span} {lo hi a b a' b' : Int} (h1 : a' ≤ a) (h2 : b ≤ b') (s : Nat) : (surI L lo hi (a, b) s).length ≤ (surI L lo hi (a', b') s).length := by
  simp only [surI, ← List.countP_eq_length_filter]
  refine List.countP_mono_left fun x _ hx => ?_
  simp only [Bool.and_eq_true, decide_eq_true_eq, qIn, insideB] at hx ⊢
  omega
end Go.X.S
end

section
set_option linter.unusedVariables false
set_option linter.unusedSimpArgs false
set_option linter.unusedSectionVars false
/- Stack: StackMore answers true. -/
set_option linter.unusedVariables false
set_option linter.unusedSimpArgs false
set_option linter.unusedSectionVars false
set_option maxRecDepth 10000
set_option maxHeartbeats 16000000
namespace Go.X.S
open Go Go.Proofs Go.X

def c11 : Ct := stCt fun L _ _ r => match r with
  | [.agg [.si .i64 e1, .si .i64 e2], .si .u8 what, .si .u8 which, .si .u8 wide, .si .u8 bits, .si .u16 x] => some (some ((0 ≤ what ∧ what < 256) ∧ (0 ≤ which ∧ which < 256) ∧ (0 ≤ wide ∧ wide < 256) ∧ (0 ≤ bits ∧ bits < 256) ∧ 0 ≤ x ∧ x < 65536), .sb true)
  | _ => none
theorem k11 {l : List (Nat × Ct)} (g0 : Good P T l) : COk P 11 c11 := by
  have g := g14 (g29 (g33 (g35 (g34 (g30 (g36 (g17 (g19 (g21 (g25 g0))))))))))
  refine cok (C := tabC _) g.ok Try.func11 (c := code Try.f11) rfl fun fr args H out h hp => stWalk h hp fun n sp lo hi r p v Rv Rp hk hp hR => ?_
  split at hk
  · rename_i e1 e2 what which wide bits x
    cases hk
    obtain ⟨hwhat, hwhich, hwide, hbits, hx⟩ : (0 ≤ what ∧ what < 256) ∧ (0 ≤ which ∧ which < 256) ∧ (0 ≤ wide ∧ wide < 256) ∧ (0 ≤ bits ∧ bits < 256) ∧ 0 ≤ x ∧ x < 65536 := hp
    refine ⟨Nat.le_of_ble_eq_true rfl, fun G hG => ?_⟩
    refine Chk.mk ⟨spans_sp _ _, rfl, trivial⟩ ?_
    refine Br.mk (fun h => ?_) (fun h => ?_)
    · exact hR _ _ rfl rfl
    · have h : (!fineB ((List.range n).map sp) lo hi) = false := h
      have hok : setOk ((List.range n).map sp) lo hi = true := fine_ok (by simpa using h)
      have hlen := (setOk_len hok).1
      have hl5 : 0 ≤ lo ∧ lo ≤ hi ∧ hi ≤ 5 := ⟨(setOk_len hok).2.1, (setOk_len hok).2.2.1, (setOk_len hok).2.2.2.1⟩
      obtain ⟨L, hL⟩ : ∃ L, (spanL n fun i => spanC (sp i)) = L := ⟨_, rfl⟩
      have hL' : (List.range n).map sp = L := hL
      have hn : n = L.length := by rw [← hL']; simp
      have hin : ∀ i, i < n → (1 ≤ (sp i).1 ∧ (sp i).1 ≤ (sp i).2 ∧ (sp i).2 ≤ 500) := fun i hi => by
        have := (setOk_len hok).2.2.2.2 (sp i) (List.mem_map.2 ⟨i, List.mem_range.2 hi, rfl⟩)
        omega
      rw [hL'] at hok hlen
      have hl : (spanL n fun i => spanC (sp i)).length ≤ 40 := by rw [hL]; omega
      refine fb_append0 4 0 n _ (g.ok _ _ _) cont_std rfl rfl rfl rfl rfl rfl rfl rfl rfl rfl rfl rfl (by decide) (by decide) rfl rfl rfl rfl (by decide) (by omega) ?_
      refine Chk.mk (show (3 : Int) ≠ 0 by decide) ?_
      refine Br.mk (fun h => ?_) (fun h => ?_)
      · refine fb_append (Te := 0) 5 6 n 1 _ _ (fun i => spanC (if i < n then sp i else (e1, e2))) (g.ok _ _ _) cont_std rfl rfl rfl rfl rfl rfl rfl rfl rfl rfl rfl rfl (by decide) (by decide) rfl rfl rfl rfl ?_ ?_ ?_
        · omega
        · intro i hi
          show spanC (if i < n then sp i else (e1, e2)) = _
          by_cases hin' : i < n
          · rw [if_pos hin', if_pos hin']
          · have e : i - n = 0 := by omega
            rw [if_neg hin', if_neg hin', e]
            rfl
        · have hsub : SubL L ((List.range (n + 1)).map fun i => if i < n then sp i else (e1, e2)) lo hi lo hi := by
            rw [← hL']
            exact SubL.mk' (.inr rfl) (fun i hi => by rw [if_pos hi]; omega) (Int.le_refl _) (Int.le_refl _)
          obtain ⟨M, hM⟩ : ∃ M, (spanL (n + 1) fun i => spanC (if i < n then sp i else (e1, e2))) = M := ⟨_, rfl⟩
          have hM' : ((List.range (n + 1)).map fun i => if i < n then sp i else (e1, e2)) = M := hM
          rw [hM'] at hsub
          have hl2 : (spanL (n + 1) fun i => spanC (if i < n then sp i else (e1, e2))).length ≤ 40 := by rw [hM, ← hM']; simp; omega
          refine Chk.mk ⟨hx, hwide⟩ ?_
          have hw := want_ok hx.1 hwide.1
          have hwb : 0 ≤ x % 5001 ∧ x % 5001 ≤ 5000 := by omega
          generalize hwl : x % 5001 = wl at *
          generalize hwh : min 5000 (wl + wide) = wh at *
          have hwle := want_le hw
          have hlb : isLenB wl = true := by simp only [isLenB, Bool.and_eq_true, decide_eq_true_eq]; omega
          have t5 : which.tmod 5 = which % 5 := Int.tmod_eq_emod_of_nonneg (by omega)
          have t7 : which.tmod 7 = which % 7 := Int.tmod_eq_emod_of_nonneg (by omega)
          refine Chk.mk (show InK .i64 which from ⟨by omega, by omega⟩) (Chk.mk (show (5 : Int) ≠ 0 by decide) (Chk.mk (show InK .i64 (wl - which.tmod 5) from ⟨by omega, by omega⟩) (Chk.mk (show InK .i64 which from ⟨by omega, by omega⟩) (Chk.mk (show (7 : Int) ≠ 0 by decide) (Chk.mk (show InK .i64 (wh + which.tmod 7) from ⟨by omega, by omega⟩) ?_)))))
          have hw2 : isWantB (max 0 (wl - which % 5)) (min 5000 (wh + which % 7)) = true := by simp only [isWantB, Bool.and_eq_true, decide_eq_true_eq]; omega
          have hwider := sur_wide (L := L) (lo := lo) (hi := hi) (a := wl) (b := wh) (a' := max 0 (wl - which % 5)) (b' := min 5000 (wh + which % 7)) (by omega) (by omega) (2 ^ L.length)
          have hcnt1 := cnt_spec hok hw
          have hcnt2 := cnt_spec hok hw2
          generalize (surI L lo hi (wl, wh) (2 ^ L.length)).length = s1 at *
          generalize (surI L lo hi (max 0 (wl - which % 5), min 5000 (wh + which % 7)) (2 ^ L.length)).length = s2 at *
          generalize (meI L lo hi (wl, wh) (2 ^ L.length)).length = m1 at *
          generalize (meI L lo hi (max 0 (wl - which % 5), min 5000 (wh + which % 7)) (2 ^ L.length)).length = m2 at *
          obtain ⟨⟨f1, f2⟩, hfew⟩ : ∃ p, fewW L lo hi wl wh = p := ⟨_, rfl⟩
          obtain ⟨⟨n1, n2, n3⟩, hnr⟩ : ∃ p, nrW L lo hi wl = p := ⟨_, rfl⟩
          have hn3 : n3 = 0 ∨ n3 = 4 := by
            rcases near_spec hok hlb with ⟨X, hf, _⟩ | ⟨hf, _⟩
            · rw [hnr] at hf; injection hf with _ hf; injection hf with _ hf; exact .inl hf
            · rw [hnr] at hf; injection hf with _ hf; injection hf with _ hf; exact .inr hf
          refine Chk.mk ⟨spans_sp _ _, rfl, hl⟩ ?_
          rw [hL, hfew]
          refine Chk.mk ⟨spans_sp _ _, rfl, hl⟩ ?_
          rw [hL, hcnt1]
          refine Chk.mk ⟨spans_sp _ _, rfl, hl⟩ ?_
          rw [hL, t5, t7, hcnt2]
          refine Chk.mk ⟨spans_sp _ _, rfl, hl⟩ ?_
          rw [hL, hnr]
          refine Br.mk (fun h => ?_) (fun h => ?_)
          · exfalso
            revert h
            simp
            omega
          clear h
          refine Chk.mk ⟨spans_sp _ _, rfl, trivial⟩ ?_
          rw [hM]
          refine Br.mk (fun h => ?_) (fun h => ?_)
          · exact hR _ _ rfl rfl
          have hok2 : setOk M lo hi = true := by
            have h : (!setOk M lo hi) = false := h
            simpa using h
          clear h
          have hfew2 := hsub.few hok hok2 hw
          have hnear2 := hsub.near hok hok2 hlb
          obtain ⟨⟨f3, f4⟩, hfw⟩ : ∃ p, fewW M lo hi wl wh = p := ⟨_, rfl⟩
          obtain ⟨⟨n4, n5, n6⟩, hnr2⟩ : ∃ p, nrW M lo hi wl = p := ⟨_, rfl⟩
          rw [hfew, hfw] at hfew2
          rw [hnr, hnr2] at hnear2
          simp only at hfew2 hnear2
          refine Chk.mk ⟨spans_sp _ _, rfl, hl2⟩ ?_
          rw [hM, hfw]
          refine Chk.mk ⟨spans_sp _ _, rfl, hl2⟩ ?_
          rw [hM, hnr2]
          have hfl1 := few_lt hok hw
          have hfl2 := few_lt hok2 hw
          rw [hfew] at hfl1
          rw [hfw] at hfl2
          simp only at hfl1 hfl2
          refine Chk.mk (fun _ _ => show f3 < _ by omega) ?_
          refine Chk.mk (fun _ _ => show f1 < _ by omega) ?_
          refine Br.mk (fun h => ?_) (fun h => ?_)
          · exfalso
            revert h
            simp
            omega
          clear h
          obtain ⟨N, hN⟩ : ∃ N, 2 ^ L.length = N := ⟨_, rfl⟩
          have hpi := pow_int L.length
          have h64 : 2 ^ L.length ≤ 256 := Nat.pow_le_pow_right (n := 2) (by decide) hlen
          have hN0 := Nat.pow_pos (a := 2) (n := L.length) (by decide)
          rw [hN] at hpi h64 hN0
          refine Chk.mk (show InK .i64 bits from ⟨by omega, by omega⟩) ?_
          refine Chk.mk ⟨spans_sp _ _, rfl, hl⟩ ?_
          rw [hL, ← hpi]
          refine Chk.mk ⟨by omega, by omega, ⟨by omega, by omega⟩, by omega, by omega⟩ ?_
          have hos : bits.toNat &&& ((N : Int) - 1).toNat < N := by
            have := Nat.and_le_right (n := bits.toNat) (m := ((N : Int) - 1).toNat)
            omega
          refine Br.mk (fun h => ?_) (fun h => ?_)
          · generalize bits.toNat &&& ((N : Int) - 1).toNat = o at *
            have ho0 : 0 < o := by
              have h : decide ((0 : Int) < ((o : Nat) : Int)) = true := h
              have := of_decide_eq_true h
              omega
            obtain ⟨q1, q2, q3, q4⟩ := right_spec hok hw ho0 (by omega)
            obtain ⟨r1, r2, r3, r4⟩ := right_spec hok2 hw ho0 (hsub.lt (by omega))
            have hqq := hsub.q (a := wl) (b := wh) ho0 (by omega)
            obtain ⟨R1, hR1⟩ : ∃ R, rightW L lo hi ((o : Nat) : Int) wl wh = R := ⟨_, rfl⟩
            obtain ⟨R2, hR2⟩ : ∃ R, rightW M lo hi ((o : Nat) : Int) wl wh = R := ⟨_, rfl⟩
            rw [hR1] at q2
            rw [hR2] at r2
            rw [← q2, ← r2] at hqq
            refine Chk.mk ⟨spans_sp _ _, rfl, hl⟩ ?_
            rw [hL, q1, hR1]
            refine Chk.mk ⟨spans_sp _ _, rfl, hl2⟩ ?_
            rw [hM, r1, hR2]
            refine hR _ _ ?_ rfl
            show _ = true
            simp
            omega
          · exact hR _ _ rfl rfl
      · refine Chk.mk (show (3 : Int) ≠ 0 by decide) ?_
        refine Br.mk (fun h => ?_) (fun h => ?_)
        · have hn0 : 0 < n := by
            have h : (decide (what.tmod 3 = 1) && decide ((0 : Int) < (n : Int))) = true := h
            simp only [Bool.and_eq_true, decide_eq_true_eq] at h
            omega
          refine drawn_ok (g.ok _ _ _) fol [0,1,0,4,0,16,48,124,255,511] [] 10 (by kernel_rfl) ?_
          have hr : 0 ≤ which.tmod (n : Int) ∧ which.tmod (n : Int) < (n : Int) := by
            rw [Int.tmod_eq_emod_of_nonneg hwhich.1]
            exact ⟨Int.emod_nonneg _ (by omega), Int.emod_lt_of_pos _ (by omega)⟩
          refine Chk.mk (show InK .i64 which from ⟨by omega, by omega⟩) (Chk.mk (show (n : Int) ≠ 0 by omega) (Chk.mk hr ?_))
          generalize which.tmod (n : Int) = k at hr
          have hik := hin k.toNat (by omega)
          refine drawn_ok (g.ok _ _ _) fol [0,0,2,6,14,0,32,96,224,480,1022,2047,4095,8191] [] 11 (by kernel_rfl) ?_
          refine Chk.mk (show InK .i64 ((sp k.toNat).2 - 1) from ⟨by omega, by omega⟩) ?_
          have hsub : SubL L ((List.range n).map fun i => if i = k.toNat then ((sp i).1, max (sp k.toNat).1 ((sp k.toNat).2 - 1)) else sp i) lo hi lo hi := by
            rw [← hL']
            refine SubL.mk' (.inl rfl) (fun i hi => ?_) (Int.le_refl _) (Int.le_refl _)
            split
            · rename_i hik
              subst hik
              simp only
              omega
            · omega
          obtain ⟨sp2, hsp2⟩ : ∃ f : Nat → Span, (fun i => if i = k.toNat then ((sp i).1, max (sp k.toNat).1 ((sp k.toNat).2 - 1)) else sp i) = f := ⟨_, rfl⟩
          rw [hsp2] at hsub
          refine fb_weaken 1 (fun j => j) hG (st' := ⟨[(100, ⟨[], .si .i64 (max (sp k.toNat).1 ((sp k.toNat).2 - 1))⟩), (102, ⟨[], .se 5 k 1⟩), (2, ⟨[], .si .u8 what⟩), (3, ⟨[], .si .u8 which⟩), (4, ⟨[], .si .u8 wide⟩), (5, ⟨[], .si .u8 bits⟩), (6, ⟨[], .si .u16 x⟩), (7, ⟨[], .sp 1 0⟩), (8, ⟨[], .sp 2 0⟩), (14, ⟨[], .sb false⟩), (15, ⟨[], .sp 3 0⟩)], [],
            [(5, .vec 24 2 n fun i => spanC (sp i)), (3, .cells 26 [.sl 5, .si .i64 lo, .si .i64 hi]), (1, .cells 26 [.sl 0, .si .i64 lo, .si .i64 hi]), (0, .ro 2 n fun i => spanC (sp i))], 6, []⟩) ⟨?_, ?_, rfl, rfl, rfl, rfl, trivial⟩ ?_
          · repeat' (first | exact trivial | exact rfl | refine And.intro ?_ ?_)
          · repeat' (first | exact trivial | exact rfl | (intro i hi; exact ⟨rfl, rfl⟩) | refine And.intro ?_ ?_)
          refine fb_storeV 5 24 2 n k 1 (fun i => spanC (sp i)) (fun i => spanC (sp2 i)) [.si .i64 (max (sp k.toNat).1 ((sp k.toNat).2 - 1))] (g.ok _ _ _) cont_std rfl rfl rfl rfl rfl rfl rfl rfl rfl rfl hr (Nat.le_of_ble_eq_true rfl) ?_ ?_
          · intro j hj
            rw [← hsp2]
            by_cases hjk : j = k.toNat
            · subst hjk
              simp only [if_pos rfl]
              rfl
            · simp only [if_neg hjk]
          · obtain ⟨M, hM⟩ : ∃ M, (spanL n fun i => spanC (sp2 i)) = M := ⟨_, rfl⟩
            have hM' : (List.range n).map sp2 = M := hM
            rw [hM'] at hsub
            have hl2 : (spanL n fun i => spanC (sp2 i)).length ≤ 40 := by rw [hM, ← hM']; simp; omega
            refine Chk.mk ⟨hx, hwide⟩ ?_
            have hw := want_ok hx.1 hwide.1
            have hwb : 0 ≤ x % 5001 ∧ x % 5001 ≤ 5000 := by omega
            generalize hwl : x % 5001 = wl at *
            generalize hwh : min 5000 (wl + wide) = wh at *
            have hwle := want_le hw
            have hlb : isLenB wl = true := by simp only [isLenB, Bool.and_eq_true, decide_eq_true_eq]; omega
            have t5 : which.tmod 5 = which % 5 := Int.tmod_eq_emod_of_nonneg (by omega)
            have t7 : which.tmod 7 = which % 7 := Int.tmod_eq_emod_of_nonneg (by omega)
            refine Chk.mk (show InK .i64 which from ⟨by omega, by omega⟩) (Chk.mk (show (5 : Int) ≠ 0 by decide) (Chk.mk (show InK .i64 (wl - which.tmod 5) from ⟨by omega, by omega⟩) (Chk.mk (show InK .i64 which from ⟨by omega, by omega⟩) (Chk.mk (show (7 : Int) ≠ 0 by decide) (Chk.mk (show InK .i64 (wh + which.tmod 7) from ⟨by omega, by omega⟩) ?_)))))
            have hw2 : isWantB (max 0 (wl - which % 5)) (min 5000 (wh + which % 7)) = true := by simp only [isWantB, Bool.and_eq_true, decide_eq_true_eq]; omega
            have hwider := sur_wide (L := L) (lo := lo) (hi := hi) (a := wl) (b := wh) (a' := max 0 (wl - which % 5)) (b' := min 5000 (wh + which % 7)) (by omega) (by omega) (2 ^ L.length)
            have hcnt1 := cnt_spec hok hw
            have hcnt2 := cnt_spec hok hw2
            generalize (surI L lo hi (wl, wh) (2 ^ L.length)).length = s1 at *
            generalize (surI L lo hi (max 0 (wl - which % 5), min 5000 (wh + which % 7)) (2 ^ L.length)).length = s2 at *
            generalize (meI L lo hi (wl, wh) (2 ^ L.length)).length = m1 at *
            generalize (meI L lo hi (max 0 (wl - which % 5), min 5000 (wh + which % 7)) (2 ^ L.length)).length = m2 at *
            obtain ⟨⟨f1, f2⟩, hfew⟩ : ∃ p, fewW L lo hi wl wh = p := ⟨_, rfl⟩
            obtain ⟨⟨n1, n2, n3⟩, hnr⟩ : ∃ p, nrW L lo hi wl = p := ⟨_, rfl⟩
            have hn3 : n3 = 0 ∨ n3 = 4 := by
              rcases near_spec hok hlb with ⟨X, hf, _⟩ | ⟨hf, _⟩
              · rw [hnr] at hf; injection hf with _ hf; injection hf with _ hf; exact .inl hf
              · rw [hnr] at hf; injection hf with _ hf; injection hf with _ hf; exact .inr hf
            refine Chk.mk ⟨spans_sp _ _, rfl, hl⟩ ?_
            rw [hL, hfew]
            refine Chk.mk ⟨spans_sp _ _, rfl, hl⟩ ?_
            rw [hL, hcnt1]
            refine Chk.mk ⟨spans_sp _ _, rfl, hl⟩ ?_
            rw [hL, t5, t7, hcnt2]
            refine Chk.mk ⟨spans_sp _ _, rfl, hl⟩ ?_
            rw [hL, hnr]
            refine Br.mk (fun h => ?_) (fun h => ?_)
            · exfalso
              revert h
              simp
              omega
            clear h
            refine Chk.mk ⟨spans_sp _ _, rfl, trivial⟩ ?_
            rw [hM]
            refine Br.mk (fun h => ?_) (fun h => ?_)
            · exact hR _ _ rfl rfl
            have hok2 : setOk M lo hi = true := by
              have h : (!setOk M lo hi) = false := h
              simpa using h
            clear h
            have hfew2 := hsub.few hok hok2 hw
            have hnear2 := hsub.near hok hok2 hlb
            obtain ⟨⟨f3, f4⟩, hfw⟩ : ∃ p, fewW M lo hi wl wh = p := ⟨_, rfl⟩
            obtain ⟨⟨n4, n5, n6⟩, hnr2⟩ : ∃ p, nrW M lo hi wl = p := ⟨_, rfl⟩
            rw [hfew, hfw] at hfew2
            rw [hnr, hnr2] at hnear2
            simp only at hfew2 hnear2
            refine Chk.mk ⟨spans_sp _ _, rfl, hl2⟩ ?_
            rw [hM, hfw]
            refine Chk.mk ⟨spans_sp _ _, rfl, hl2⟩ ?_
            rw [hM, hnr2]
            have hfl1 := few_lt hok hw
            have hfl2 := few_lt hok2 hw
            rw [hfew] at hfl1
            rw [hfw] at hfl2
            simp only at hfl1 hfl2
            refine Chk.mk (fun _ _ => show f3 < _ by omega) ?_
            refine Chk.mk (fun _ _ => show f1 < _ by omega) ?_
            refine Br.mk (fun h => ?_) (fun h => ?_)
            · exfalso
              revert h
              simp
              omega
            clear h
            obtain ⟨N, hN⟩ : ∃ N, 2 ^ L.length = N := ⟨_, rfl⟩
            have hpi := pow_int L.length
            have h64 : 2 ^ L.length ≤ 256 := Nat.pow_le_pow_right (n := 2) (by decide) hlen
            have hN0 := Nat.pow_pos (a := 2) (n := L.length) (by decide)
            rw [hN] at hpi h64 hN0
            refine Chk.mk (show InK .i64 bits from ⟨by omega, by omega⟩) ?_
            refine Chk.mk ⟨spans_sp _ _, rfl, hl⟩ ?_
            rw [hL, ← hpi]
            refine Chk.mk ⟨by omega, by omega, ⟨by omega, by omega⟩, by omega, by omega⟩ ?_
            have hos : bits.toNat &&& ((N : Int) - 1).toNat < N := by
              have := Nat.and_le_right (n := bits.toNat) (m := ((N : Int) - 1).toNat)
              omega
            refine Br.mk (fun h => ?_) (fun h => ?_)
            · generalize bits.toNat &&& ((N : Int) - 1).toNat = o at *
              have ho0 : 0 < o := by
                have h : decide ((0 : Int) < ((o : Nat) : Int)) = true := h
                have := of_decide_eq_true h
                omega
              obtain ⟨q1, q2, q3, q4⟩ := right_spec hok hw ho0 (by omega)
              obtain ⟨r1, r2, r3, r4⟩ := right_spec hok2 hw ho0 (hsub.lt (by omega))
              have hqq := hsub.q (a := wl) (b := wh) ho0 (by omega)
              obtain ⟨R1, hR1⟩ : ∃ R, rightW L lo hi ((o : Nat) : Int) wl wh = R := ⟨_, rfl⟩
              obtain ⟨R2, hR2⟩ : ∃ R, rightW M lo hi ((o : Nat) : Int) wl wh = R := ⟨_, rfl⟩
              rw [hR1] at q2
              rw [hR2] at r2
              rw [← q2, ← r2] at hqq
              refine Chk.mk ⟨spans_sp _ _, rfl, hl⟩ ?_
              rw [hL, q1, hR1]
              refine Chk.mk ⟨spans_sp _ _, rfl, hl2⟩ ?_
              rw [hM, r1, hR2]
              refine hR _ _ ?_ rfl
              show _ = true
              simp
              omega
            · exact hR _ _ rfl rfl
        · refine Chk.mk (show InK .i64 (lo + 1) from ⟨by omega, by omega⟩) ?_
          have hsub : SubL L L lo hi (min hi (lo + 1)) hi := by
            rw [← hL']
            exact SubL.mk' (.inl rfl) (fun i hi => by omega) (by omega) (Int.le_refl _)
          obtain ⟨M, hM⟩ : ∃ M, (spanL n fun i => spanC (sp i)) = M := ⟨_, rfl⟩
          have hLM : L = M := by rw [← hM, ← hL]
          have hl2 : (spanL n fun i => spanC (sp i)).length ≤ 40 := hl
          refine Chk.mk ⟨hx, hwide⟩ ?_
          have hw := want_ok hx.1 hwide.1
          have hwb : 0 ≤ x % 5001 ∧ x % 5001 ≤ 5000 := by omega
          generalize hwl : x % 5001 = wl at *
          generalize hwh : min 5000 (wl + wide) = wh at *
          have hwle := want_le hw
          have hlb : isLenB wl = true := by simp only [isLenB, Bool.and_eq_true, decide_eq_true_eq]; omega
          have t5 : which.tmod 5 = which % 5 := Int.tmod_eq_emod_of_nonneg (by omega)
          have t7 : which.tmod 7 = which % 7 := Int.tmod_eq_emod_of_nonneg (by omega)
          refine Chk.mk (show InK .i64 which from ⟨by omega, by omega⟩) (Chk.mk (show (5 : Int) ≠ 0 by decide) (Chk.mk (show InK .i64 (wl - which.tmod 5) from ⟨by omega, by omega⟩) (Chk.mk (show InK .i64 which from ⟨by omega, by omega⟩) (Chk.mk (show (7 : Int) ≠ 0 by decide) (Chk.mk (show InK .i64 (wh + which.tmod 7) from ⟨by omega, by omega⟩) ?_)))))
          have hw2 : isWantB (max 0 (wl - which % 5)) (min 5000 (wh + which % 7)) = true := by simp only [isWantB, Bool.and_eq_true, decide_eq_true_eq]; omega
          have hwider := sur_wide (L := L) (lo := lo) (hi := hi) (a := wl) (b := wh) (a' := max 0 (wl - which % 5)) (b' := min 5000 (wh + which % 7)) (by omega) (by omega) (2 ^ L.length)
          have hcnt1 := cnt_spec hok hw
          have hcnt2 := cnt_spec hok hw2
          generalize (surI L lo hi (wl, wh) (2 ^ L.length)).length = s1 at *
          generalize (surI L lo hi (max 0 (wl - which % 5), min 5000 (wh + which % 7)) (2 ^ L.length)).length = s2 at *
          generalize (meI L lo hi (wl, wh) (2 ^ L.length)).length = m1 at *
          generalize (meI L lo hi (max 0 (wl - which % 5), min 5000 (wh + which % 7)) (2 ^ L.length)).length = m2 at *
          obtain ⟨⟨f1, f2⟩, hfew⟩ : ∃ p, fewW L lo hi wl wh = p := ⟨_, rfl⟩
          obtain ⟨⟨n1, n2, n3⟩, hnr⟩ : ∃ p, nrW L lo hi wl = p := ⟨_, rfl⟩
          have hn3 : n3 = 0 ∨ n3 = 4 := by
            rcases near_spec hok hlb with ⟨X, hf, _⟩ | ⟨hf, _⟩
            · rw [hnr] at hf; injection hf with _ hf; injection hf with _ hf; exact .inl hf
            · rw [hnr] at hf; injection hf with _ hf; injection hf with _ hf; exact .inr hf
          refine Chk.mk ⟨spans_sp _ _, rfl, hl⟩ ?_
          rw [hL, hfew]
          refine Chk.mk ⟨spans_sp _ _, rfl, hl⟩ ?_
          rw [hL, hcnt1]
          refine Chk.mk ⟨spans_sp _ _, rfl, hl⟩ ?_
          rw [hL, t5, t7, hcnt2]
          refine Chk.mk ⟨spans_sp _ _, rfl, hl⟩ ?_
          rw [hL, hnr]
          refine Br.mk (fun h => ?_) (fun h => ?_)
          · exfalso
            revert h
            simp
            omega
          clear h
          refine Chk.mk ⟨spans_sp _ _, rfl, trivial⟩ ?_
          rw [hL]
          refine Br.mk (fun h => ?_) (fun h => ?_)
          · exact hR _ _ rfl rfl
          have hok2 : setOk L (min hi (lo + 1)) hi = true := by
            have h : (!setOk L (min hi (lo + 1)) hi) = false := h
            simpa using h
          clear h
          have hfew2 := hsub.few hok hok2 hw
          have hnear2 := hsub.near hok hok2 hlb
          obtain ⟨⟨f3, f4⟩, hfw⟩ : ∃ p, fewW L (min hi (lo + 1)) hi wl wh = p := ⟨_, rfl⟩
          obtain ⟨⟨n4, n5, n6⟩, hnr2⟩ : ∃ p, nrW L (min hi (lo + 1)) hi wl = p := ⟨_, rfl⟩
          rw [hfew, hfw] at hfew2
          rw [hnr, hnr2] at hnear2
          simp only at hfew2 hnear2
          refine Chk.mk ⟨spans_sp _ _, rfl, hl2⟩ ?_
          rw [hL, hfw]
          refine Chk.mk ⟨spans_sp _ _, rfl, hl2⟩ ?_
          rw [hL, hnr2]
          have hfl1 := few_lt hok hw
          have hfl2 := few_lt hok2 hw
          rw [hfew] at hfl1
          rw [hfw] at hfl2
          simp only at hfl1 hfl2
          refine Chk.mk (fun _ _ => show f3 < _ by omega) ?_
          refine Chk.mk (fun _ _ => show f1 < _ by omega) ?_
          refine Br.mk (fun h => ?_) (fun h => ?_)
          · exfalso
            revert h
            simp
            omega
          clear h
          obtain ⟨N, hN⟩ : ∃ N, 2 ^ L.length = N := ⟨_, rfl⟩
          have hpi := pow_int L.length
          have h64 : 2 ^ L.length ≤ 256 := Nat.pow_le_pow_right (n := 2) (by decide) hlen
          have hN0 := Nat.pow_pos (a := 2) (n := L.length) (by decide)
          rw [hN] at hpi h64 hN0
          refine Chk.mk (show InK .i64 bits from ⟨by omega, by omega⟩) ?_
          refine Chk.mk ⟨spans_sp _ _, rfl, hl⟩ ?_
          rw [hL, ← hpi]
          refine Chk.mk ⟨by omega, by omega, ⟨by omega, by omega⟩, by omega, by omega⟩ ?_
          have hos : bits.toNat &&& ((N : Int) - 1).toNat < N := by
            have := Nat.and_le_right (n := bits.toNat) (m := ((N : Int) - 1).toNat)
            omega
          refine Br.mk (fun h => ?_) (fun h => ?_)
          · generalize bits.toNat &&& ((N : Int) - 1).toNat = o at *
            have ho0 : 0 < o := by
              have h : decide ((0 : Int) < ((o : Nat) : Int)) = true := h
              have := of_decide_eq_true h
              omega
            obtain ⟨q1, q2, q3, q4⟩ := right_spec hok hw ho0 (by omega)
            obtain ⟨r1, r2, r3, r4⟩ := right_spec hok2 hw ho0 (hsub.lt (by omega))
            have hqq := hsub.q (a := wl) (b := wh) ho0 (by omega)
            obtain ⟨R1, hR1⟩ : ∃ R, rightW L lo hi ((o : Nat) : Int) wl wh = R := ⟨_, rfl⟩
            obtain ⟨R2, hR2⟩ : ∃ R, rightW L (min hi (lo + 1)) hi ((o : Nat) : Int) wl wh = R := ⟨_, rfl⟩
            rw [hR1] at q2
            rw [hR2] at r2
            rw [← q2, ← r2] at hqq
            refine Chk.mk ⟨spans_sp _ _, rfl, hl⟩ ?_
            rw [hL, q1, hR1]
            refine Chk.mk ⟨spans_sp _ _, rfl, hl2⟩ ?_
            rw [hL, r1, hR2]
            refine hR _ _ ?_ rfl
            show _ = true
            simp
            omega
          · exact hR _ _ rfl rfl
  · cases hk
end Go.X.S
end
