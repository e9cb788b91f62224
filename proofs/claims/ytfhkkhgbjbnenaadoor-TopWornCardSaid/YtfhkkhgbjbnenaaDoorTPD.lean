/- Slices that nobody turns again: frozen, told of by a family, and looked at again; Stack: what is found of several, joined. -/
import Derived.Test.YtfhkkhgbjbnenaaDoorTPC
import Derived.Test.YtfhkkhgbjbnenaaDoorTPB

section
set_option linter.unusedVariables false
set_option linter.unusedSimpArgs false
set_option linter.unusedSectionVars false
/- Slices that nobody turns again: frozen, told of by a family, and looked at again. -/
set_option linter.unusedVariables false
set_option linter.unusedSimpArgs false
set_option maxRecDepth 10000
namespace Go.X
open Go

mutual
/-- The slice of a piece, by its value. -/
def frzSV (id : Nat) (v : Value) : SV → SV
  | .sl j => match Nat.beq j id with
    | true => .sv v
    | false => .sl j
  | .agg l => .agg (frzL id v l)
  | .tup l => .tup (frzL id v l)
  | .ifc t x => .ifc t (frzSV id v x)
  | .fn f a b => .fn f (frzL id v a) (frzL id v b)
  | x => x
def frzL (id : Nat) (v : Value) : List SV → List SV
  | [] => []
  | x :: r => frzSV id v x :: frzL id v r
end
section
variable {ρ : Env} {id : Nat} {v : Value}
mutual
theorem den_frz (hv : v.oneCell' = true) (h : den ρ (.sl id) = some v) : ∀ (x : SV), den ρ (frzSV id v x) = den ρ x
  | .sl j => by
    simp only [frzSV]
    split
    · rename_i e
      have : j = id := by simpa using e
      subst this
      rw [h]; simp [den, hv]
    · rfl
  | .agg l => by simp only [frzSV, den, denL_frz hv h l]
  | .tup l => by simp only [frzSV, den, denL_frz hv h l]
  | .ifc t x => by simp only [frzSV, den, den_frz hv h x]
  | .fn f a b => by simp only [frzSV, den, denL_frz hv h a, denL_frz hv h b]
  | .sv _ => rfl
  | .si _ _ => rfl
  | .sb _ => rfl
  | .sp _ _ => rfl
  | .se _ _ _ => rfl
  | .sm _ => rfl
  | .fy _ => rfl
  | .ss _ _ _ _ => rfl
theorem denL_frz (hv : v.oneCell' = true) (h : den ρ (.sl id) = some v) : ∀ (l : List SV), denL ρ (frzL id v l) = denL ρ l
  | [] => rfl
  | x :: r => by simp only [frzL, denL, den_frz hv h x, denL_frz hv h r]
end
end

section
variable {X : Cx} {ρ : Env} {st : St} {a : Act} {w : World}

/-- A slot, said otherwise. -/
theorem Mod.reslot (hm : Mod X ρ st a w) {d : Nat} {u u' : SV} (hf : findF st.F d = some ⟨[], u⟩) (he : den ρ u' = den ρ u) : Mod X ρ { st with F := (d, ⟨[], u'⟩) :: st.F } a w where
  fm t e hf' := by
    have hf' : findF ((d, ⟨[], u'⟩) :: st.F) t = some e := hf'
    by_cases e1 : d = t
    · subst e1
      rw [findF_cons_self] at hf'; cases hf'
      have := hm.fm _ _ hf
      exact ⟨fun hs => by rw [he]; exact this.1 hs, this.2⟩
    · rw [findF_cons_ne _ _ e1] at hf'
      exact hm.fm t e hf'
  gs t e hf' x hx := by
    have hf' : findF ((d, ⟨[], u'⟩) :: st.F) t = some e := hf'
    by_cases e1 : d = t
    · subst e1
      rw [findF_cons_self] at hf'; cases hf'
      cases hx
    · rw [findF_cons_ne _ _ e1] at hf'
      exact hm.gs t e hf' x hx
  df := hm.df
  hm := hm.hm
  kp := hm.kp
  nx := hm.nx
  sz := hm.sz
end

theorem den_closed {ρ : Env} {l : List SV} {vs : List Value} (hi : idsL 0 l = true) (h : denL ρ l = some vs) : denL (fun _ => none) l = some vs := by
  have e : cut ρ 0 = fun _ => none := by funext j; unfold cut; rw [if_neg (by omega)]
  rw [← e, denL_cut l hi]; exact h

section
variable {X : Cx} {ρ : Env} {st : St} {a : Act} {w : World}
/-- A slice that is told of becomes a piece. -/
theorem Mod.focus (hm : Mod X ρ st a w) {fid size n c : Nat} {ad : Addr} {get : Nat → List SV} {C : Value → Nat → (Nat → List SV) → Prop} (h2 : findH st.H fid = some (.fam size C)) (hc : C (.slice (some ad) n c) n get) :
    Mod X (upd ρ st.nx (.sl (some ad) n c size)) { st with H := (st.nx, .ro size n get) :: st.H, nx := st.nx + 1 } a w := by
  have hf : ρ st.nx = none := hm.nx _ (Nat.le_refl _)
  obtain ⟨nf, f1, f2⟩ := hm.hm.ok _ _ h2
  obtain ⟨A, c', e, hle, hh⟩ : famOk w size (.slice (some ad) n c) n get := by
    cases nf <;> simp only [HBok] at f2
    exact f2.2 _ _ _ hc
  cases e
  exact {
    fm := hm.fm.ext (Ext.upd _ hf)
    gs := hm.gs
    df := hm.df.ext (Ext.upd _ hf)
    hm := {
      ok := fun j hb hj => by
        rw [findH_cons] at hj
        by_cases e : st.nx = j
        · subst e; rw [updL_self] at hj; cases hj
          refine ⟨_, upd_self _ _ _, rfl, rfl, hle, fun hn => ?_⟩
          obtain ⟨ad', e, hb, hx⟩ := hh hn
          refine ⟨ad', e, hb, fun i hi => ?_⟩
          obtain ⟨vs, d1, d2⟩ := hx i hi
          exact ⟨vs, denL_ext (fun _ _ h => by cases h) _ _ d1, d2⟩
        · rw [updL_ne _ _ e] at hj
          obtain ⟨nm, h1, h2⟩ := hm.hm.ok j hb hj
          exact ⟨nm, by rw [upd_ne _ _ (Ne.symm e)]; exact h1, HBok_ext (Ext.upd _ hf) h2⟩
      sep := fun i j x y n₁ n₂ b h1 h2 l1 l2 r1 r2 o1 o2 => by
        rw [findH_cons] at h1 h2
        by_cases e1 : st.nx = i
        · subst e1; rw [upd_self] at r1; cases r1; cases o1
        · by_cases e2 : st.nx = j
          · subst e2; rw [upd_self] at r2; cases r2; cases o2
          · rw [updL_ne _ _ e1] at h1; rw [updL_ne _ _ e2] at h2
            rw [upd_ne _ _ (Ne.symm e1)] at r1; rw [upd_ne _ _ (Ne.symm e2)] at r2
            exact hm.hm.sep i j x y n₁ n₂ b h1 h2 l1 l2 r1 r2 o1 o2
      ro := fun j s2 n2 get' nm b hj hn hr hb ho => by
        rw [findH_cons] at hj
        rcases Own.cons hf ho with h | h
        · cases h
        by_cases e : st.nx = j
        · subst e; rw [updL_self] at hj; cases hj
          rw [upd_self] at hr; cases hr
          simp only [roBlock, Option.some.injEq] at hb
          exact hm.hm.fam b ⟨fid, size, C, _, n, get, h2, hc, hn, by simp [slBlock, hb]⟩ h
        · rw [updL_ne _ _ e] at hj
          rw [upd_ne _ _ (Ne.symm e)] at hr
          exact hm.hm.ro j s2 n2 get' nm b hj hn hr hb h
      fam := fun b hz ho => by
        rw [findH_cons] at hz
        rcases Own.cons hf ho with h | h
        · cases h
        · exact hm.hm.fam b (hz.upd fun _ _ h => by cases h) h }
    kp := {
      str := hm.kp.str
      size := hm.kp.size
      same := hm.kp.same
      own := fun b ho => by
        rcases Own.cons hf ho with h | h
        · cases h
        · exact hm.kp.own b h
      ext := hm.kp.ext.trans (Ext.upd _ hf)
      fz := fun b hz => hm.kp.fz b (by rw [findH_cons] at hz; exact hz.upd fun _ _ h => by cases h) }
    nx := fun j hj => by
      have : st.nx + 1 ≤ j := hj
      rw [upd_ne _ _ (by omega)]; exact hm.nx j (by omega)
    sz := hm.sz }

/-! ### The steps -/

end
end Go.X
end

section
set_option linter.unusedVariables false
set_option linter.unusedSimpArgs false
set_option linter.unusedSectionVars false
/- Calls that are known by other numbers of their pieces, with a part of the heap alone. -/
set_option linter.unusedVariables false
set_option linter.unusedSimpArgs false
set_option maxRecDepth 10000
namespace Go.X
open Go

section
variable {ρ₀ ρ : Env} {s : Nat → Nat}
mutual
theorem den_imp (h : ∀ j nm, ρ₀ j = some nm → ρ (s j) = some nm) : ∀ (x : SV) (v : Value), den ρ₀ x = some v → den ρ (renSV s x) = some v
  | .sv x, v, hv => by simpa [den, renSV] using hv
  | .si k n, v, hv => by simpa [den, renSV] using hv
  | .sb p, v, hv => by simpa [den, renSV] using hv
  | .sp id off, v, hv => by
    simp only [den, renSV] at hv ⊢
    cases e : ρ₀ id with
    | none => simp [e] at hv
    | some nm => rw [h _ _ e]; simpa [e] using hv
  | .se id i off, v, hv => by
    simp only [den, renSV] at hv ⊢
    cases e : ρ₀ id with
    | none => simp [e] at hv
    | some nm => rw [h _ _ e]; simpa [e] using hv
  | .sl id, v, hv => by
    simp only [den, renSV] at hv ⊢
    cases e : ρ₀ id with
    | none => simp [e] at hv
    | some nm => rw [h _ _ e]; simpa [e] using hv
  | .sm id, v, hv => by
    simp only [den, renSV] at hv ⊢
    cases e : ρ₀ id with
    | none => simp [e] at hv
    | some nm => rw [h _ _ e]; simpa [e] using hv
  | .fy id, v, hv => by
    simp only [den, renSV] at hv ⊢
    cases e : ρ₀ id with
    | none => simp [e] at hv
    | some nm => rw [h _ _ e]; simpa [e] using hv
  | .agg l, v, hv => by
    simp only [den, renSV] at hv ⊢
    cases e : denL ρ₀ l with
    | none => simp [e] at hv
    | some vs => rw [denL_imp h l vs e]; simpa [e] using hv
  | .tup l, v, hv => by
    simp only [den, renSV] at hv ⊢
    cases e : denL ρ₀ l with
    | none => simp [e] at hv
    | some vs => rw [denL_imp h l vs e]; simpa [e] using hv
  | .fn f a b, v, hv => by
    simp only [den, renSV] at hv ⊢
    cases e : denL ρ₀ a with
    | none => simp [e] at hv
    | some vs =>
      cases e2 : denL ρ₀ b with
      | none => simp [e, e2] at hv
      | some us => rw [denL_imp h a vs e, denL_imp h b us e2]; simpa [e, e2] using hv
  | .ifc t x, v, hv => by
    simp only [den, renSV] at hv ⊢
    cases e : den ρ₀ x with
    | none => simp [e] at hv
    | some u => rw [den_imp h x u e]; simpa [e] using hv
  | .ss id off len tot, v, hv => by
    simp only [den, renSV] at hv ⊢
    cases e : ρ₀ id with
    | none => simp [e] at hv
    | some nm => rw [h _ _ e]; simpa [e] using hv
theorem denL_imp (h : ∀ j nm, ρ₀ j = some nm → ρ (s j) = some nm) : ∀ (l : List SV) (vs : List Value), denL ρ₀ l = some vs → denL ρ (renL s l) = some vs
  | [], vs, hv => by simpa [denL, renL] using hv
  | x :: r, vs, hv => by
    simp only [denL, renL] at hv ⊢
    cases e : den ρ₀ x with
    | none => simp [e] at hv
    | some u =>
      cases e2 : denL ρ₀ r with
      | none => simp [e, e2] at hv
      | some us => rw [den_imp h x u e, denL_imp h r us e2]; simpa [e, e2] using hv
end
end

/-- A piece, its ids numbered otherwise. -/
def renB (s : Nat → Nat) : HB → HB
  | .cells T cs => .cells T (renL s cs)
  | .row T z n xs => .row T z n (renL s xs)
  | x => x
def renH (s : Nat → Nat) : List (Nat × HB) → List (Nat × HB)
  | [] => []
  | (t, x) :: r => (s t, renB s x) :: renH s r
/-- Which pieces can be numbered otherwise. -/
def okB : HB → Prop
  | .ro _ n get => ∀ i, i < n → idsL 0 (get i) = true
  | .vec _ _ n get => ∀ i, i < n → idsL 0 (get i) = true
  | .it .. => False
  | .loop .. => False
  | _ => True
def okH : List (Nat × HB) → Prop
  | [] => True
  | (_, x) :: r => okB x ∧ okH r
theorem okH_find : ∀ {H : List (Nat × HB)}, okH H → ∀ t x, findH H t = some x → okB x
  | (a, y) :: r, h, t, x, hf => by
    by_cases e : a = t
    · subst e
      rw [findH_cons, updL_self] at hf; cases hf
      exact h.1
    · rw [findH_skip e] at hf
      exact okH_find h.2 t x hf
theorem denL_any {ρ ρ' : Env} {l : List SV} {vs : List Value} (hi : idsL 0 l = true) (h : denL ρ l = some vs) : denL ρ' l = some vs :=
  denL_ext (fun _ _ h => by cases h) _ _ (den_closed hi h)
theorem renB_ok {ρ₀ ρ : Env} {s : Nat → Nat} {w : World} (h : ∀ j nm, ρ₀ j = some nm → ρ (s j) = some nm) {x : HB} {nm : Nm} (ho : okB x) (k : HBok ρ₀ w x nm) : HBok ρ w (renB s x) nm := by
  cases x with
  | dead => trivial
  | cells T cs =>
    cases nm <;> simp only [HBok, renB] at k ⊢
    obtain ⟨vs, h1, h2, h3⟩ := k
    exact ⟨vs, denL_imp h _ _ h1, h2, h3⟩
  | ro size n get =>
    cases nm <;> simp only [HBok, renB] at k ⊢
    obtain ⟨h1, h2, h0, h3⟩ := k
    refine ⟨h1, h2, h0, fun hn => ?_⟩
    obtain ⟨ad, e, hb, hc⟩ := h3 hn
    refine ⟨ad, e, hb, fun i hi => ?_⟩
    obtain ⟨vs, d1, d2⟩ := hc i hi
    exact ⟨vs, denL_any (ho i hi) d1, d2⟩
  | row T size n xs =>
    cases nm <;> simp only [HBok, renB] at k ⊢
    obtain ⟨h1, h2, h3, vs, rest, h4, h5⟩ := k
    exact ⟨h1, h2, h3, vs, rest, denL_imp h _ _ h4, h5⟩
  | vec T size n get =>
    cases nm <;> simp only [HBok, renB] at k ⊢
    · exact k
    obtain ⟨h1, h2, h3, cells, h4, h5, h6⟩ := k
    refine ⟨h1, h2, h3, cells, h4, h5, fun i hi => ?_⟩
    obtain ⟨vs, d1, d2⟩ := h6 i hi
    exact ⟨vs, denL_any (ho i hi) d1, d2⟩
  | map es clock => cases nm <;> exact k
  | mp es => cases nm <;> exact k
  | dfr => cases nm <;> exact k
  | fam size C => cases nm <;> exact k
  | it mid since seen last => exact ho.elim
  | loop F nt fn ps assign body db s pd => exact ho.elim
theorem renB_live (s : Nat → Nat) (x : HB) : (renB s x).live = x.live := by cases x <;> rfl
theorem renB_ro {s : Nat → Nat} {x : HB} {z n : Nat} {g : Nat → List SV} (h : renB s x = .ro z n g) : x = .ro z n g := by cases x <;> first | exact h | cases h
theorem renB_fam {s : Nat → Nat} {x : HB} {z : Nat} {C : Value → Nat → (Nat → List SV) → Prop} (h : renB s x = .fam z C) : x = .fam z C := by cases x <;> first | exact h | cases h
theorem renH_find {s : Nat → Nat} : ∀ {H : List (Nat × HB)} {k : Nat} {y : HB}, findH (renH s H) k = some y → ∃ t x, s t = k ∧ findH H t = some x ∧ y = renB s x
  | (a, x) :: r, k, y, hf => by
    simp only [renH] at hf
    by_cases e : s a = k
    · rw [e, findH_cons, updL_self] at hf; cases hf
      exact ⟨a, x, e, by rw [findH_cons, updL_self], rfl⟩
    · rw [findH_skip e] at hf
      obtain ⟨t, x', h1, h2, h3⟩ := renH_find hf
      refine ⟨t, x', h1, ?_, h3⟩
      rw [findH_skip (fun e2 : a = t => e (by rw [e2]; exact h1))]
      exact h2
theorem renH_cover {s : Nat → Nat} : ∀ {H : List (Nat × HB)} {t : Nat} {x : HB}, findH H t = some x → ∃ y, findH (renH s H) (s t) = some y
  | (a, x) :: r, t, z, hf => by
    by_cases e : s a = s t
    · exact ⟨renB s x, by simp only [renH]; rw [e, findH_cons, updL_self]⟩
    · have hne : a ≠ t := fun h => e (by rw [h])
      rw [findH_skip hne] at hf
      obtain ⟨y, hy⟩ := renH_cover (s := s) hf
      exact ⟨y, by simp only [renH]; rw [findH_skip e]; exact hy⟩

/-- A has a piece for each id. -/
def fullL (A : List (Nat × HB)) : Nat → Bool
  | 0 => true
  | n + 1 => match findH A n with
    | some _ => fullL A n
    | none => false
theorem fullL_ok {A : List (Nat × HB)} : ∀ {n : Nat}, fullL A n = true → ∀ t, t < n → ∃ x, findH A t = some x
  | n + 1, h, t, ht => by
    simp only [fullL] at h
    split at h
    · rename_i x e
      by_cases e2 : t = n
      · subst e2; exact ⟨x, e⟩
      · exact fullL_ok h t (by omega)
    · cases h

/-- How ids are numbered after the call. -/
def shI (s : Nat → Nat) (n0 nx j : Nat) : Nat :=
  match Nat.ble n0 j with
  | true => nx + (j - n0)
  | false => s j

def fRenB (s : Nat → Nat) : HB → (HB → Prop) → Prop
  | .cells T cs, K => fSVL (renL s cs) fun l => K (.cells T l)
  | .row T z n xs, K => fSVL (renL s xs) fun l => K (.row T z n l)
  | x, K => K x
theorem fRenB_eq (s : Nat → Nat) (x : HB) (K : HB → Prop) : fRenB s x K = K (renB s x) := by cases x <;> simp [fRenB, renB, fSVL_eq]
def fRenH (s : Nat → Nat) (H : List (Nat × HB)) : List (Nat × HB) → (List (Nat × HB) → Prop) → Prop
  | [], K => K H
  | (t, x) :: r, K => natF (s t) fun t' => fRenB s x fun x' => fRenH s H r fun l => K ((t', x') :: l)
theorem fRenH_eq (s : Nat → Nat) (H : List (Nat × HB)) : ∀ (l : List (Nat × HB)) (K : List (Nat × HB) → Prop), fRenH s H l K = K (renH s l ++ H)
  | [], K => rfl
  | (t, x) :: r, K => by simp [fRenH, renH, natF_eq, fRenB_eq, fRenH_eq s H r]

/-- What a call comes to, by the caller's numbers. -/
def AtK (s : Nat → Nat) (n0 nx : Nat) (A : List (Nat × HB)) (H : List (Nat × HB)) (Rv : SV → List (Nat × HB) → Nat → Prop) (v : SV) (H' : List (Nat × HB)) (nx' : Nat) : Prop :=
  coverL H' A = true ∧ roSame A H' ∧ okH H' ∧ fSV (renSV (shI s n0 nx) v) fun v1 => fRenH (shI s n0 nx) H H' fun H1 => natF (nx + (nx' - n0)) fun n1 => Rv v1 H1 n1
def AtP (s : Nat → Nat) (n0 nx : Nat) (A : List (Nat × HB)) (H : List (Nat × HB)) (Rp : List PanicEntry → List (Nat × HB) → Nat → Prop) (ch : List PanicEntry) (H' : List (Nat × HB)) (nx' : Nat) : Prop :=
  coverL H' A = true ∧ roSame A H' ∧ okH H' ∧ fRenH (shI s n0 nx) H H' fun H1 => natF (nx + (nx' - n0)) fun n1 => Rp ch H1 n1

theorem callS_at {P : Program} {n : Nat} {l : List SV} {H : List (Nat × HB)} {nx : Nat} {Rv : SV → List (Nat × HB) → Nat → Prop} {Rp : List PanicEntry → List (Nat × HB) → Nat → Prop} (l0 : List SV) (A : List (Nat × HB)) (n0 : Nat) (s : Nat → Nat)
    (hl : SVeqL l (renL s l0)) (hli : idsL n0 l0 = true) (hA : weakRH s n0 H A) (hinj : injI s A = true) (hfull : fullL A n0 = true)
    (h : CallS P n l0 A n0 (AtK s n0 nx A H Rv) (AtP s n0 nx A H Rp)) : CallS P n l H nx Rv Rp := by
  intro ρ w vals hm hnx hd
  have hfind := weakRH_ok hA
  obtain ⟨ρ₀, hρ₀⟩ : ∃ ρ₀, ρ₀ = envR ρ s n0 := ⟨_, rfl⟩
  have hd0 : denL ρ₀ l0 = some vals := by rw [hρ₀, denL_envR _ hli, ← SVeqL_eq _ _ hl]; exact hd
  have hsome : ∀ {j nm}, ρ₀ j = some nm → j < n0 ∧ ρ (s j) = some nm := fun h => by rw [hρ₀] at h; exact envR_some h
  have hlt0 : ∀ {j}, j < n0 → ρ₀ j = ρ (s j) := fun h => by rw [hρ₀]; exact envR_lt h
  have hok0 : ∀ {id hb}, findH A id = some hb → ∃ nm, ρ₀ id = some nm ∧ ρ (s id) = some nm ∧ HBok ρ₀ w hb nm := fun hf => by
    obtain ⟨h1, hc, h2, h3⟩ := hfind _ _ hf
    obtain ⟨nm, h4, h5⟩ := hm.ok _ _ h2
    exact ⟨nm, by rw [hlt0 h1]; exact h4, h4, by rw [hρ₀]; exact lessHB_ok h3 h5⟩
  have hownA : ∀ b, Own ρ₀ (findH A) b → Own ρ (findH H) b := fun b ⟨id, x, nm', h1, h2, h3, h4⟩ => by
    obtain ⟨_, c2, b2, b3⟩ := hfind id x h1
    exact ⟨_, c2, nm', b2, lessHB_live b3 h2, (hsome h3).2, h4⟩
  have hfzA : ∀ b, Fz (findH A) b → Fz (findH H) b := fun b hz => weakRH_fz hA hz
  have hmA : HM ρ₀ (findH A) w := {
    ok := fun id hb hf => let ⟨nm, h1, _, h2⟩ := hok0 hf; ⟨nm, h1, h2⟩
    sep := fun i j x y n₁ n₂ b h1 h2 l1 l2 r1 r2 o1 o2 => by
      obtain ⟨_, c1, a2, a3⟩ := hfind i x h1
      obtain ⟨_, c2, b2, b3⟩ := hfind j y h2
      exact injI_ok hinj i j x y h1 h2 (hm.sep _ _ c1 c2 n₁ n₂ b a2 b2 (lessHB_live a3 l1) (lessHB_live b3 l2) (hsome r1).2 (hsome r2).2 o1 o2)
    ro := fun j size m get nm b hf hpos hr hb hO => by
      obtain ⟨_, c1, a2, a3⟩ := hfind j _ hf
      obtain ⟨g', rfl⟩ := lessHB_ro a3
      exact hm.ro _ size m g' nm b a2 hpos (hsome hr).2 hb (hownA b hO)
    fam := fun b hz hO => hm.fam b (hfzA b hz) (hownA b hO) }
  have hn0 : ∀ j, n0 ≤ j → ρ₀ j = none := fun j hj => by rw [hρ₀]; unfold envR; rw [if_neg (by omega)]
  -- what was left lies apart
  have hRown : ∀ k x nm b, (∀ t y, findH A t = some y → s t ≠ k) → findH H k = some x → x.live = true → ρ k = some nm → nm.owner = some b → ¬ Own ρ₀ (findH A) b := by
    intro k x nm b h0 h1 hl h2 h3 ⟨id, y, nm', g1, g2, g3, g4⟩
    obtain ⟨_, c2, b2, b3⟩ := hfind id y g1
    exact h0 id y g1 (hm.sep _ k c2 x nm' nm b b2 h1 (lessHB_live b3 g2) hl (hsome g3).2 h2 g4 h3)
  have hlt : ∀ k x nm b, findH H k = some x → x.live = true → ρ k = some nm → nm.owner = some b → b < w.heap.size := fun k x nm b h1 h2 h3 h4 => hm.lt ⟨k, x, nm, h1, h2, h3, h4⟩
  have hrolt : ∀ k size m get nm b, findH H k = some (.ro size m get) → 0 < m → ρ k = some nm → roBlock nm = some b → b < w.heap.size := by
    intro t size m get nm b h1 hpos h3 h4
    obtain ⟨nm2, k1, k2⟩ := hm.ok t _ h1
    rw [h3] at k1; cases k1
    cases nm <;> simp only [HBok] at k2
    obtain ⟨_, _, _, k3⟩ := k2
    obtain ⟨ad, rfl, klt, k4⟩ := k3 hpos
    simp only [roBlock, Option.some.injEq] at h4
    subst h4
    exact klt
  have back : ∀ {H' : List (Nat × HB)} {ρ₁ : Env} {w' : World} {nx' : Nat}, coverL H' A = true → roSame A H' → okH H' → HM ρ₁ (findH H') w' → Keep ⟨w, Own ρ₀ (findH A), ρ₀, Fz (findH A)⟩ ρ₁ (findH H') w' → (∀ j, nx' ≤ j → ρ₁ j = none) →
      ∃ ρ', (∀ j nm, ρ₁ j = some nm → ρ' (shI s n0 nx j) = some nm) ∧ HM ρ' (findH (renH (shI s n0 nx) H' ++ H)) w' ∧ Keep ⟨w, Own ρ (findH H), ρ, Fz (findH H)⟩ ρ' (findH (renH (shI s n0 nx) H' ++ H)) w' ∧ ∀ j, nx + (nx' - n0) ≤ j → ρ' j = none := by
    intro H' ρ₁ w' nx' hcov hro hokH hm' hk' hnx'
    obtain ⟨σ, hσ⟩ : ∃ σ, σ = shI s n0 nx := ⟨_, rfl⟩
    rw [← hσ]
    have hσge : ∀ {j}, n0 ≤ j → σ j = nx + (j - n0) := fun h => by rw [hσ]; simp only [shI, Nat.ble_eq_true_of_le h]
    have hσlt : ∀ {j}, j < n0 → σ j = s j := fun {j} h => by
      rw [hσ]; simp only [shI]
      cases e : Nat.ble n0 j with
      | true => have := Nat.le_of_ble_eq_true e; omega
      | false => rfl
    let ρ' : Env := fun j => if j < nx then ρ j else ρ₁ (n0 + (j - nx))
    have hρlt : ∀ {j}, j < nx → ρ' j = ρ j := fun {j} h => by show (if j < nx then ρ j else ρ₁ (n0 + (j - nx))) = ρ j; rw [if_pos h]
    have hρge : ∀ {j}, nx ≤ j → ρ' j = ρ₁ (n0 + (j - nx)) := fun {j} h => by show (if j < nx then ρ j else ρ₁ (n0 + (j - nx))) = _; rw [if_neg (by omega)]
    have hslt : ∀ {j nm}, ρ j = some nm → j < nx := fun {j nm} h => by
      rcases Nat.lt_or_ge j nx with h1 | h1
      · exact h1
      · rw [hnx j h1] at h; cases h
    have himp : ∀ j nm, ρ₁ j = some nm → ρ' (σ j) = some nm := by
      intro j nm hj
      rcases Nat.lt_or_ge j n0 with h1 | h1
      · obtain ⟨x, hx⟩ := fullL_ok hfull j h1
        obtain ⟨nm', g1, g2, _⟩ := hok0 hx
        rw [hk'.ext _ _ g1] at hj; cases hj
        rw [hσlt h1, hρlt (hslt g2)]
        exact g2
      · rw [hσge h1, hρge (by omega), show n0 + (nx + (j - n0) - nx) = j by omega]
        exact hj
    have hext : Ext ρ ρ' := fun j nm hj => by rw [hρlt (hslt hj)]; exact hj
    have cases' : ∀ k y, findH (renH σ H' ++ H) k = some y → (∃ t x, σ t = k ∧ findH H' t = some x ∧ y = renB σ x) ∨ ((∀ t y, findH A t = some y → s t ≠ k) ∧ findH H k = some y) := by
      intro k y hk
      rw [findH_app] at hk
      split at hk
      · rename_i e; cases hk; exact .inl (renH_find e)
      · rename_i e
        refine .inr ⟨fun t z hz hst => ?_, hk⟩
        obtain ⟨z', hz'⟩ := coverL_find hcov t z hz
        obtain ⟨y', hy'⟩ := renH_cover (s := σ) hz'
        rw [hσlt (hfind t z hz).1, hst, e] at hy'
        cases hy'
    -- a piece that came back, and its place
    have hplace : ∀ t x, findH H' t = some x → ∃ nm, ρ₁ t = some nm ∧ ρ' (σ t) = some nm ∧ HBok ρ₁ w' x nm := fun t x hx => by
      obtain ⟨nm, h1, h2⟩ := hm'.ok t x hx
      exact ⟨nm, h1, himp t nm h1, h2⟩
    have ownNew : ∀ b, Own ρ₁ (findH H') b → Own ρ₀ (findH A) b ∨ w.heap.size ≤ b := fun b hO => hk'.own b hO
    have hleft : ∀ k x, findH H k = some x → ∃ nm, ρ k = some nm ∧ ρ' k = some nm ∧ HBok ρ w x nm := fun k x hx => by
      obtain ⟨nm, h1, h2⟩ := hm.ok _ _ hx
      exact ⟨nm, h1, hext _ _ h1, h2⟩
    have fzNew : ∀ b, Fz (findH (renH σ H' ++ H)) b → Fz (findH H') b ∨ Fz (findH H) b := by
      rintro b ⟨k, size, C, v, m, get, hf, hc, hpos, hb⟩
      rcases cases' k _ hf with ⟨t, x, rfl, h1, h2⟩ | ⟨_, h1⟩
      · rw [renB_fam h2.symm] at h1
        exact .inl ⟨t, size, C, v, m, get, h1, hc, hpos, hb⟩
      · exact .inr ⟨k, size, C, v, m, get, h1, hc, hpos, hb⟩
    refine ⟨ρ', himp, ?_, ?_, ?_⟩
    · exact {
        ok := fun k y hf => by
          rcases cases' k y hf with ⟨t, x, rfl, h1, rfl⟩ | ⟨h0, h1⟩
          · obtain ⟨nm, g1, g2, g3⟩ := hplace t x h1
            exact ⟨nm, g2, renB_ok himp (okH_find hokH t x h1) g3⟩
          · obtain ⟨nm, q1, q2, q3⟩ := hleft k y h1
            refine ⟨nm, q2, HBok_ext hext (HBok_world hk'.size ?_ ?_ ?_ q3)⟩
            · intro hl b hb'
              exact hk'.same b (hlt k y nm b h1 hl q1 hb') (hRown k y nm b h0 h1 hl q1 hb')
            · intro size m get b e hpos hr
              subst e
              exact hk'.same b (hrolt k size m get nm b h1 hpos q1 hr) (fun hO => hm.ro k size m get nm b h1 hpos q1 hr (hownA b hO))
            · intro size C v m get b e hc hpos hr
              subst e
              have hz : Fz (findH H) b := ⟨k, size, C, v, m, get, h1, hc, hpos, hr⟩
              exact hk'.same b (hm.fz_lt hz) (fun hO => hm.fam b hz (hownA b hO))
        sep := fun i j x y n₁ n₂ b h1 h2 l1 l2 r1 r2 o1 o2 => by
          rcases cases' i x h1 with ⟨t1, x1, rfl, f1, rfl⟩ | ⟨z1, h1⟩ <;> rcases cases' j y h2 with ⟨t2, x2, rfl, f2, rfl⟩ | ⟨z2, h2⟩
          · rw [renB_live] at l1 l2
            obtain ⟨nm1, g1, g2, _⟩ := hplace t1 x1 f1
            obtain ⟨nm2, k1, k2, _⟩ := hplace t2 x2 f2
            rw [g2] at r1; cases r1
            rw [k2] at r2; cases r2
            rw [hm'.sep t1 t2 x1 x2 _ _ b f1 f2 l1 l2 g1 k1 o1 o2]
          · rw [renB_live] at l1
            obtain ⟨nm1, g1, g2, _⟩ := hplace t1 x1 f1
            rw [g2] at r1; cases r1
            obtain ⟨nm, q1, q2, q3⟩ := hleft j y h2
            rw [q2] at r2; cases r2
            have k1 := hRown j y _ b z2 h2 l2 q1 o2
            have k2 := hlt j y _ b h2 l2 q1 o2
            rcases ownNew _ ⟨t1, x1, _, f1, l1, g1, o1⟩ with h | h
            · exact absurd h k1
            · omega
          · rw [renB_live] at l2
            obtain ⟨nm1, g1, g2, _⟩ := hplace t2 x2 f2
            rw [g2] at r2; cases r2
            obtain ⟨nm, q1, q2, q3⟩ := hleft i x h1
            rw [q2] at r1; cases r1
            have k1 := hRown i x _ b z1 h1 l1 q1 o1
            have k2 := hlt i x _ b h1 l1 q1 o1
            rcases ownNew _ ⟨t2, x2, _, f2, l2, g1, o2⟩ with h | h
            · exact absurd h k1
            · omega
          · obtain ⟨nm, q1, q2, q3⟩ := hleft i x h1
            obtain ⟨nm', p1, p2, p3⟩ := hleft j y h2
            rw [q2] at r1; cases r1
            rw [p2] at r2; cases r2
            exact hm.sep i j x y _ _ b h1 h2 l1 l2 q1 p1 o1 o2
        ro := fun j size m get nm b hf hpos hr hb hO => by
          obtain ⟨id, x, nm', g1, g2, g3, g4⟩ := hO
          rcases cases' j _ hf with ⟨t1, x1, rfl, f1, e1⟩ | ⟨z1, h1⟩
          · rw [renB_ro e1.symm] at f1
            obtain ⟨nm1, k1, k2, _⟩ := hplace t1 _ f1
            rw [k2] at hr; cases hr
            rcases cases' id x g1 with ⟨t2, x2, rfl, f2, rfl⟩ | ⟨z2, g1⟩
            · rw [renB_live] at g2
              obtain ⟨nm2, q1, q2, _⟩ := hplace t2 x2 f2
              rw [q2] at g3; cases g3
              exact hm'.ro t1 size m get _ b f1 hpos k1 hb ⟨t2, x2, _, f2, g2, q1, g4⟩
            · obtain ⟨nm2, q1, q2, q3⟩ := hleft id x g1
              rw [q2] at g3; cases g3
              obtain ⟨s', g', e⟩ := roSame_find hro t1 size m get f1
              obtain ⟨nm3, p1, p2, _⟩ := hok0 e
              have p3 := hk'.ext _ _ p1
              rw [k1] at p3; cases p3
              obtain ⟨_, c2, b2, b3⟩ := hfind t1 _ e
              obtain ⟨g'', rfl⟩ := lessHB_ro b3
              exact hm.ro _ s' m g'' _ b b2 hpos p2 hb ⟨id, x, _, g1, g2, q1, g4⟩
          · obtain ⟨nm2, q1, q2, q3⟩ := hleft j _ h1
            rw [hr] at q2; cases q2
            rcases cases' id x g1 with ⟨t2, x2, rfl, f2, rfl⟩ | ⟨z2, g1⟩
            · rw [renB_live] at g2
              obtain ⟨nm2, k1, k2, _⟩ := hplace t2 x2 f2
              rw [k2] at g3; cases g3
              rcases ownNew b ⟨t2, x2, _, f2, g2, k1, g4⟩ with h | h
              · exact hm.ro j size m get nm b h1 hpos q1 hb (hownA b h)
              · have := hrolt j size m get nm b h1 hpos q1 hb
                omega
            · obtain ⟨nm3, p1, p2, p3⟩ := hleft id x g1
              rw [p2] at g3; cases g3
              exact hm.ro j size m get nm b h1 hpos q1 hb ⟨id, x, _, g1, g2, p1, g4⟩
        fam := fun b hz hO => by
          obtain ⟨id, x, nm', g1, g2, g3, g4⟩ := hO
          rcases fzNew b hz with hz | hz
          · rcases cases' id x g1 with ⟨t2, x2, rfl, f2, rfl⟩ | ⟨z2, g1⟩
            · rw [renB_live] at g2
              obtain ⟨nm2, k1, k2, _⟩ := hplace t2 x2 f2
              rw [k2] at g3; cases g3
              exact hm'.fam b hz ⟨t2, x2, _, f2, g2, k1, g4⟩
            · obtain ⟨nm2, q1, q2, q3⟩ := hleft id x g1
              rw [q2] at g3; cases g3
              rcases hk'.fz b hz with h | h | h
              · exact hRown id x _ b z2 g1 g2 q1 g4 h
              · have := hlt id x _ b g1 g2 q1 g4
                have h : w.heap.size ≤ b := h
                omega
              · exact hm.fam b (hfzA b h) ⟨id, x, _, g1, g2, q1, g4⟩
          · rcases cases' id x g1 with ⟨t2, x2, rfl, f2, rfl⟩ | ⟨z2, g1⟩
            · rw [renB_live] at g2
              obtain ⟨nm2, k1, k2, _⟩ := hplace t2 x2 f2
              rw [k2] at g3; cases g3
              rcases ownNew b ⟨t2, x2, _, f2, g2, k1, g4⟩ with h | h
              · exact hm.fam b hz (hownA b h)
              · have := hm.fz_lt hz
                omega
            · obtain ⟨nm3, p1, p2, p3⟩ := hleft id x g1
              rw [p2] at g3; cases g3
              exact hm.fam b hz ⟨id, x, _, g1, g2, p1, g4⟩ }
    · exact {
        str := hk'.str
        size := hk'.size
        same := fun b hb hnM => hk'.same b hb (fun h => hnM (hownA b h))
        own := fun b ⟨id, x, nm', g1, g2, g3, g4⟩ => by
          rcases cases' id x g1 with ⟨t2, x2, rfl, f2, rfl⟩ | ⟨z1, g1⟩
          · rw [renB_live] at g2
            obtain ⟨nm2, k1, k2, _⟩ := hplace t2 x2 f2
            rw [k2] at g3; cases g3
            rcases ownNew b ⟨t2, x2, _, f2, g2, k1, g4⟩ with h | h
            · exact .inl (hownA b h)
            · exact .inr h
          · obtain ⟨nm, q1, q2, q3⟩ := hleft id x g1
            rw [q2] at g3; cases g3
            exact .inl ⟨id, x, _, g1, g2, q1, g4⟩
        ext := hext
        fz := fun b hz => by
          rcases fzNew b hz with hz | hz
          · exact (hk'.fz b hz).imp (hownA b) (Or.imp id (hfzA b))
          · exact .inr (.inr hz) }
    · intro j hj
      rw [hρge (by omega)]
      exact hnx' _ (by omega)
  refine (h ρ₀ w vals hmA hn0 hd0).mono ?_
  rintro e w' (⟨v, H', nx', ρ₁, u, rfl, h1, h2, h3, h4, hc, hr, ho, hK⟩ | ⟨ch, H', nx', ρ₁, rfl, h2, h3, h4, hc, hr, ho, hK⟩)
  · obtain ⟨ρ', b1, b2, b3, b4⟩ := back hc hr ho h2 h3 h4
    rw [fSV_eq, fRenH_eq, natF_eq] at hK
    exact .inl ⟨_, _, _, ρ', u, rfl, den_imp b1 _ _ h1, b2, b3, b4, hK⟩
  · obtain ⟨ρ', b1, b2, b3, b4⟩ := back hc hr ho h2 h3 h4
    rw [fRenH_eq, natF_eq] at hK
    exact .inr ⟨ch, _, _, ρ', rfl, b2, b3, b4, hK⟩
end Go.X
end

section
set_option linter.unusedVariables false
set_option linter.unusedSimpArgs false
set_option linter.unusedSectionVars false
/- Before a call: a piece under a new number, a new family. -/
set_option linter.unusedVariables false
set_option linter.unusedSimpArgs false
set_option maxRecDepth 10000
namespace Go.X
open Go

theorem HM.move {ρ : Env} {H : List (Nat × HB)} {w : World} (hm : HM ρ (findH H) w) {id nx : Nat} {hb : HB} {nm : Nm} (hf : findH H id = some hb) (hn : ρ id = some nm) (hx : ρ nx = none) (hl : hb.live = true) (hnr : ∀ s n g, hb ≠ .ro s n g) (hnf : ∀ s C, hb ≠ .fam s C) :
    HM (upd ρ nx nm) (findH ((nx, hb) :: (id, .dead) :: H)) w ∧ (∀ b, Own (upd ρ nx nm) (findH ((nx, hb) :: (id, .dead) :: H)) b → Own ρ (findH H) b) ∧ ∀ b, Fz (findH ((nx, hb) :: (id, .dead) :: H)) b → Fz (findH H) b := by
  have hne : nx ≠ id := by rintro rfl; rw [hn] at hx; cases hx
  have key : ∀ {j : Nat} {x : HB}, findH ((nx, hb) :: (id, .dead) :: H) j = some x → (j = nx ∧ x = hb) ∨ (j = id ∧ x = .dead) ∨ (j ≠ nx ∧ j ≠ id ∧ findH H j = some x) := by
    intro j x h
    rw [findH_cons] at h
    by_cases e1 : nx = j
    · subst e1; rw [updL_self] at h; cases h; exact .inl ⟨rfl, rfl⟩
    · rw [updL_ne _ _ e1, findH_cons] at h
      by_cases e2 : id = j
      · subst e2; rw [updL_self] at h; cases h; exact .inr (.inl ⟨rfl, rfl⟩)
      · rw [updL_ne _ _ e2] at h; exact .inr (.inr ⟨Ne.symm e1, Ne.symm e2, h⟩)
  -- a live piece is one that was
  have back : ∀ {j : Nat} {x : HB} {nm' : Nm}, findH ((nx, hb) :: (id, .dead) :: H) j = some x → x.live = true → upd ρ nx nm j = some nm' → ∃ j', findH H j' = some x ∧ ρ j' = some nm' ∧ ((j = nx ∧ j' = id) ∨ (j ≠ nx ∧ j ≠ id ∧ j' = j)) := by
    intro j x nm' h hl' hr
    rcases key h with ⟨rfl, rfl⟩ | ⟨rfl, rfl⟩ | ⟨h1, h2, h3⟩
    · rw [upd_self] at hr; cases hr; exact ⟨id, hf, hn, .inl ⟨rfl, rfl⟩⟩
    · cases hl'
    · rw [upd_ne _ _ h1] at hr; exact ⟨j, h3, hr, .inr ⟨h1, h2, rfl⟩⟩
  have hown : ∀ b, Own (upd ρ nx nm) (findH ((nx, hb) :: (id, .dead) :: H)) b → Own ρ (findH H) b := by
    rintro b ⟨j, x, nm', h1, h2, h3, h4⟩
    obtain ⟨j', g1, g2, _⟩ := back h1 h2 h3
    exact ⟨j', x, nm', g1, h2, g2, h4⟩
  have hfz : ∀ b, Fz (findH ((nx, hb) :: (id, .dead) :: H)) b → Fz (findH H) b := fun b hz => hz.sub fun j s C h => by
    rcases key h with ⟨rfl, e⟩ | ⟨rfl, e⟩ | ⟨_, _, h3⟩
    · exact (hnf _ _ e.symm).elim
    · cases e
    · exact h3
  refine ⟨⟨?_, ?_, ?_, fun b hz ho => hm.fam b (hfz b hz) (hown b ho)⟩, hown, hfz⟩
  · intro j x h
    rcases key h with ⟨rfl, rfl⟩ | ⟨rfl, rfl⟩ | ⟨h1, h2, h3⟩
    · obtain ⟨nm', g1, g2⟩ := hm.ok _ _ hf
      rw [hn] at g1; cases g1
      exact ⟨nm, upd_self _ _ _, HBok_ext (Ext.upd nm hx) g2⟩
    · exact ⟨nm, by rw [upd_ne _ _ (Ne.symm hne)]; exact hn, trivial⟩
    · obtain ⟨nm', g1, g2⟩ := hm.ok _ _ h3
      exact ⟨nm', by rw [upd_ne _ _ h1]; exact g1, HBok_ext (Ext.upd nm hx) g2⟩
  · intro i j x y n₁ n₂ b h1 h2 l1 l2 r1 r2 o1 o2
    obtain ⟨i', g1, g2, g3⟩ := back h1 l1 r1
    obtain ⟨j', k1, k2, k3⟩ := back h2 l2 r2
    have := hm.sep i' j' x y n₁ n₂ b g1 k1 l1 l2 g2 k2 o1 o2
    subst this
    rcases g3 with ⟨rfl, rfl⟩ | ⟨a1, a2, rfl⟩ <;> rcases k3 with ⟨rfl, e⟩ | ⟨b1, b2, e⟩
    · rfl
    · exact (b2 e.symm).elim
    · exact (a2 e).elim
    · exact e
  · intro j size m get nm' b h hpos hr hb' ho
    rcases key h with ⟨rfl, e⟩ | ⟨rfl, e⟩ | ⟨h1, h2, h3⟩
    · exact (hnr _ _ _ e.symm).elim
    · cases e
    · rw [upd_ne _ _ h1] at hr
      exact hm.ro j size m get nm' b h3 hpos hr hb' (hown b ho)

end Go.X
end

section
set_option linter.unusedVariables false
set_option linter.unusedSimpArgs false
set_option linter.unusedSectionVars false
/- Regions of any order: guarded operations whose guards hold, and calls. -/
set_option linter.unusedVariables false
set_option linter.unusedSimpArgs false
set_option maxRecDepth 10000
namespace Go.X
open Go

end Go.X
end

section
set_option linter.unusedVariables false
set_option linter.unusedSimpArgs false
set_option linter.unusedSectionVars false
/- Operations that wrap; slices that are compared with nil. -/
set_option linter.unusedVariables false
set_option linter.unusedSimpArgs false
set_option maxRecDepth 10000
namespace Go.X
open Go
section
variable {X : Cx} {st : St}

end
end Go.X
end

section
set_option linter.unusedVariables false
set_option linter.unusedSimpArgs false
set_option linter.unusedSectionVars false
/- Slices that are told of, or nil, are looked at. -/
set_option linter.unusedVariables false
set_option linter.unusedSimpArgs false
set_option maxRecDepth 10000
namespace Go.X
open Go
section
variable {X : Cx} {ρ : Env} {st : St} {a : Act} {w : World}
/-- A new id for nil, to be read. -/
theorem Mod.nilRo (hm : Mod X ρ st a w) (s : Nat) (get : Nat → List SV) : Mod X (upd ρ st.nx (.sl none 0 0 s)) { st with H := (st.nx, .ro s 0 get) :: st.H, nx := st.nx + 1 } a w := by
  have hf : ρ st.nx = none := hm.nx _ (Nat.le_refl _)
  exact {
    fm := hm.fm.ext (Ext.upd _ hf)
    gs := hm.gs
    df := hm.df.ext (Ext.upd _ hf)
    hm := {
      ok := fun j hb hj => by
        rw [findH_cons] at hj
        by_cases e : st.nx = j
        · subst e; rw [updL_self] at hj; cases hj
          exact ⟨_, upd_self _ _ _, rfl, rfl, Nat.le_refl _, fun h => absurd h (Nat.lt_irrefl _)⟩
        · rw [updL_ne _ _ e] at hj
          obtain ⟨nm, h1, h2⟩ := hm.hm.ok j hb hj
          exact ⟨nm, by rw [upd_ne _ _ (Ne.symm e)]; exact h1, HBok_ext (Ext.upd _ hf) h2⟩
      sep := fun i j x y n₁ n₂ b h1 h2 l1 l2 r1 r2 o1 o2 => by
        rw [findH_cons] at h1 h2
        by_cases e1 : st.nx = i
        · subst e1; rw [upd_self] at r1; cases r1; cases o1
        · by_cases e2 : st.nx = j
          · subst e2; rw [upd_self] at r2; cases r2; cases o2
          · rw [updL_ne _ _ e1] at h1; rw [updL_ne _ _ e2] at h2
            rw [upd_ne _ _ (Ne.symm e1)] at r1; rw [upd_ne _ _ (Ne.symm e2)] at r2
            exact hm.hm.sep i j x y n₁ n₂ b h1 h2 l1 l2 r1 r2 o1 o2
      ro := fun j size n get' nm b hj hn hr hb ho => by
        rw [findH_cons] at hj
        by_cases e : st.nx = j
        · subst e; rw [updL_self] at hj; cases hj; omega
        · rw [updL_ne _ _ e] at hj
          rw [upd_ne _ _ (Ne.symm e)] at hr
          rcases Own.cons hf ho with h | h
          · cases h
          · exact hm.hm.ro j size n get' nm b hj hn hr hb h
      fam := fun b hz ho => by
        rw [findH_cons] at hz
        rcases Own.cons hf ho with h | h
        · cases h
        · exact hm.hm.fam b (hz.upd fun s C h => by cases h) h }
    kp := {
      str := hm.kp.str
      size := hm.kp.size
      same := hm.kp.same
      own := fun b ho => by
        rcases Own.cons hf ho with h | h
        · cases h
        · exact hm.kp.own b h
      ext := hm.kp.ext.trans (Ext.upd _ hf)
      fz := fun b hz => hm.kp.fz b (by rw [findH_cons] at hz; exact hz.upd fun s C h => by cases h) }
    nx := fun j hj => by
      have : st.nx + 1 ≤ j := hj
      rw [upd_ne _ _ (by omega)]; exact hm.nx j (by omega)
    sz := hm.sz }
/-- A slice that is told of, or nil. -/
def toldV (C : Value → Nat → (Nat → List SV) → Prop) (v : Value) (n : Nat) (get : Nat → List SV) : Prop :=
  (v = .slice none 0 0 ∧ n = 0) ∨ ∃ ad c, v = .slice (some ad) n c ∧ C v n get
end
end Go.X
end

section
set_option linter.unusedVariables false
set_option linter.unusedSimpArgs false
set_option linter.unusedSectionVars false
/- Regions of any order: a part that is followed set by set (also in a round of a range over a function). -/
set_option linter.unusedVariables false
set_option linter.unusedSimpArgs false
set_option maxRecDepth 10000
set_option maxHeartbeats 4000000
namespace Go.X
open Go

/-- All of these slots are there. -/
def subF (F : List (Nat × FE)) : List (Nat × FE) → Prop
  | [] => True
  | (d, e) :: r => (findF F d = some e ∧ e.gp = []) ∧ subF F r
/-! Operations that only read, in whatever order: each of them is looked at once. -/
theorem findF_mem {A : List (Nat × FE)} : ∀ {L : List (Nat × FE)}, (∀ p ∈ L, findF A p.1 = some p.2) → ∀ {t : Nat} {e : FE}, (findF L t = some e → findF A t = some e ∧ (t, e) ∈ L) ∧ ((t, e) ∈ L → findF L t = some e)
  | [], _, t, e => ⟨fun h => (by cases h), fun h => (by cases h)⟩
  | (d, x) :: r, hc, t, e => by
    have ih := findF_mem (A := A) (L := r) (fun p hp => hc p (List.mem_cons_of_mem _ hp)) (t := t) (e := e)
    have h0 := hc (d, x) List.mem_cons_self
    simp only [findF]
    constructor
    · intro h
      split at h
      · rename_i hd
        cases h
        have : d = t := Nat.eq_of_beq_eq_true hd
        subst this
        exact ⟨h0, List.mem_cons_self⟩
      · obtain ⟨h1, h2⟩ := ih.1 h
        exact ⟨h1, List.mem_cons_of_mem _ h2⟩
    · intro h
      split
      · rename_i hd
        have : d = t := Nat.eq_of_beq_eq_true hd
        subst this
        have h1 := hc (d, e) h
        rw [h0] at h1
        exact h1
      · rename_i hd
        rcases List.mem_cons.1 h with h | h
        · cases h
          rw [Nat.beq_refl] at hd
          exact absurd rfl hd
        · exact ih.2 h
theorem mod_sub {X : Cx} {ρ : Env} {A F F' : List (Nat × FE)} {gs : List Nat} {H : List (Nat × HB)} {nx nx' : Nat} {D : List SDef} {a : Act} {w : World} (hA : ∀ p ∈ A, findF A p.1 = some p.2 ∧ p.2.gp = []) (h1 : ∀ p ∈ F, p ∈ A) (h2 : ∀ p ∈ F', p ∈ F) (hn : nx ≤ nx')
    (hm : Mod X ρ ⟨F, gs, H, nx, D⟩ a w) : Mod X ρ ⟨F', [], H, nx', D⟩ a w := by
  have key : ∀ t e, findF F' t = some e → findF F t = some e ∧ e.gp = [] := fun t e h => by
    have m := ((findF_mem (A := A) (L := F') fun p hp => (hA p (h1 p (h2 p hp))).1).1 h).2
    exact ⟨(findF_mem (A := A) (L := F) fun p hp => (hA p (h1 p hp)).1).2 (h2 _ m), (hA _ (h1 _ (h2 _ m))).2⟩
  exact {
    fm := fun t e h => hm.fm t e (key t e h).1
    gs := fun t e h x hx => by rw [(key t e h).2] at hx; cases hx
    df := hm.df
    hm := hm.hm
    kp := hm.kp
    nx := fun j hj => hm.nx j (Nat.le_trans hn hj)
    sz := hm.sz }
def allB : Nat → List (List Bool)
  | 0 => [[]]
  | n + 1 => (allB n).flatMap fun l => [false :: l, true :: l]
theorem mem_allB : ∀ (l : List Bool), l ∈ allB l.length
  | [] => List.mem_cons_self
  | b :: r => by
    refine List.mem_flatMap.2 ⟨r, mem_allB r, ?_⟩
    cases b <;> simp
def clB2 (anc : Nat → List Nat) (l : List Bool) : Bool := (List.range l.length).all fun i => !(l.getD i false) || (anc i).all fun j => l.getD j false
def slF (slots : Nat → List (Nat × FE)) (base : List (Nat × FE)) (l : List Bool) : List (Nat × FE) := ((List.range l.length).flatMap fun i => if l.getD i false = true then slots i else []) ++ base
theorem slF_mem {slots : Nat → List (Nat × FE)} {base : List (Nat × FE)} {l : List Bool} {p : Nat × FE} : p ∈ slF slots base l ↔ (∃ i, i < l.length ∧ l.getD i false = true ∧ p ∈ slots i) ∨ p ∈ base := by
  unfold slF
  rw [List.mem_append, List.mem_flatMap]
  constructor
  · rintro (⟨i, hi, hp⟩ | hp)
    · left
      split at hp
      · rename_i h
        exact ⟨i, List.mem_range.1 hi, h, hp⟩
      · cases hp
    · exact .inr hp
  · rintro (⟨i, hi, h, hp⟩ | hp)
    · exact .inl ⟨i, List.mem_range.2 hi, by rw [if_pos h]; exact hp⟩
    · exact .inr hp
def latX (ops : Array Oper) (m : Nat) (arr : List Bool → Array Bool) (opi : Nat → Nat) (ex : List Bool → Bool) (anc : Nat → List Nat) (l : List Bool) : Bool :=
  !clB2 anc l || (ex l || (let rs := Region.ready .any ops (arr l); !rs.isEmpty && rs.all fun o => (List.range m).any fun i => opi i == o && (!(l.getD i true) && ((anc i).all (fun j => l.getD j false) && (arr l).setIfInBounds o true == arr (l.set i true)))))
section
variable {X : Cx} {st : St}
end
end Go.X
end

section
set_option linter.unusedVariables false
set_option linter.unusedSimpArgs false
set_option linter.unusedSectionVars false
/- A cell that holds a slice that is told of is looked at. -/
set_option linter.unusedVariables false
set_option linter.unusedSimpArgs false
set_option maxRecDepth 10000
namespace Go.X
open Go
section
variable {X : Cx} {st : St}
theorem sem_lookCell (fid id Tc n size : Nat) (v : Value) (get : Nat → List SV) (cs cs' : List SV) {C : Value → Nat → (Nat → List SV) → Prop} {c : Code} {K : Ex → St → Prop} (h1 : findH st.H id = some (.cells Tc cs)) (h2 : findH st.H fid = some (.fam size C)) (hc : toldV C v n get) (hu : frzL st.nx v cs' = cs)
    (h : stK st fun F gs H nx D => natF (nx + 1) fun nx' => SemC X c ⟨F, gs, (id, .cells Tc cs') :: (nx, .ro size n get) :: H, nx', D⟩ K) : SemC X c st K := by
  intro ρ a w hm
  rw [stK_eq, natF_eq] at h
  have hid : id ≠ st.nx := fun e => by
    obtain ⟨nm, h2, _⟩ := hm.hm.ok _ _ h1
    rw [hm.nx id (by omega)] at h2; cases h2
  obtain ⟨nm, h3, h4⟩ := hm.hm.ok _ _ h1
  have key : ∀ ρ', Ext ρ ρ' → Mod X ρ' { st with H := (st.nx, .ro size n get) :: st.H, nx := st.nx + 1 } a w → v.oneCell' = true → den ρ' (.sl st.nx) = some v → (∀ j, j ≠ st.nx → ρ' j = ρ j) → c.wpIn (FW X.r) 0 X.P (Qof X K) a w := by
    intro ρ' hx hm2 hv hd hs
    have h5 : findH ((st.nx, .ro size n get) :: st.H) id = some (.cells Tc cs) := by
      rw [findH_cons, updL_ne _ _ (Ne.symm hid)]; exact h1
    refine h _ a w (hm2.swap (hb' := .cells Tc cs') h5 rfl (nm := nm) (by rw [hs id hid]; exact h3) ?_ (fun _ _ _ h => by cases h))
    have h6 := HBok_ext hx h4
    cases nm <;> simp only [HBok] at h6 ⊢
    obtain ⟨vs, d1, d2, d3⟩ := h6
    exact ⟨vs, by rw [← denL_frz hv hd, hu]; exact d1, d2, d3⟩
  rcases hc with ⟨rfl, rfl⟩ | ⟨ad, k, rfl, hc⟩
  · exact key _ (Ext.upd _ (hm.nx _ (Nat.le_refl _))) (hm.nilRo size get) rfl (by simp [den, upd_self]) (fun j hj => upd_ne _ _ hj)
  · exact key _ (Ext.upd _ (hm.nx _ (Nat.le_refl _))) (hm.focus h2 hc) rfl (by simp [den, upd_self]) (fun j hj => upd_ne _ _ hj)
end
end Go.X
end

section
set_option linter.unusedVariables false
set_option linter.unusedSimpArgs false
set_option linter.unusedSectionVars false
/- Calls of functions with a range over a function, that come to a state. -/
set_option linter.unusedVariables false
set_option linter.unusedSimpArgs false
set_option maxRecDepth 10000
namespace Go.X
open Go
theorem callS_toEM {ι : Type} {P : Program} {T : Tab} {C : Nat → Option Ct} (hX : ∀ G r nt, (⟨P, T, C, G, r, nt⟩ : Cx).Ok) {n : Nat} {fn : Func} {c : Code} (hf : P.funcs[n]? = some fn) (hb : fn.body = some c) {l : List SV} (hlen : l.length ≤ fn.ntmps)
    {H : List (Nat × HB)} {nx : Nat} {Rv : SV → List (Nat × HB) → Nat → Prop} {Rp : List PanicEntry → List (Nat × HB) → Nat → Prop} (v' : ι → SV) (H' : ι → List (Nat × HB)) (nx' : Nat)
    (h : ∀ G : Base, (∀ j, nx ≤ j → G.ρ j = none) → exec ⟨P, T, C, G, none, fn.ntmps⟩ c (start l H nx) (FinM ⟨P, T, C, G, none, fn.ntmps⟩ fn.results.toList (fun v st => ∃ x s, EndR nx v st.H st.nx (v' x) (H' x) nx' s) (fun _ _ => False)))
    (hk : ∀ x, Rv (v' x) (H' x) nx') : CallS P n l H nx Rv Rp := by
  intro ρ w vals hm hnx hd
  refine (callS_execM hX hf hb hlen (Rv := fun v H₁ nx₁ => ∃ x s, EndR nx v H₁ nx₁ (v' x) (H' x) nx' s) (Rp := fun _ _ _ => False) h ρ w vals hm hnx hd).mono ?_
  rintro e w' (⟨v, H₁, nx₁, ρ₁, u, rfl, h1, h2, h3, h4, x, s, hs⟩ | ⟨_, _, _, _, _, _, _, _, hF⟩)
  · have hm1 : Mod ⟨P, T, C, ⟨w, Own ρ (findH H), ρ, Fz (findH H)⟩, none, 0⟩ ρ₁ ⟨[], [], H₁, nx₁, []⟩ { tmps := #[], defers := [] } w' := {
      fm := fun t e hf => by cases hf
      gs := fun t e hf => by cases hf
      df := trivial
      hm := h2
      kp := h3
      nx := h4
      sz := rfl }
    have hm2 := hm1.ren (n0 := nx) (s := s) (st' := ⟨[], [], H' x, nx', []⟩) ⟨trivial, hs.H, hs.inj, hs.fix, hs.ge, rfl, trivial⟩ hnx
    exact .inl ⟨v' x, H' x, nx', _, u, rfl, by rw [den_envR _ hs.vi, ← SVeq_eq _ _ hs.v]; exact h1, hm2.hm, hm2.kp, hm2.nx, hk x⟩
  · exact hF.elim

end Go.X
end

section
set_option linter.unusedVariables false
set_option linter.unusedSimpArgs false
set_option linter.unusedSectionVars false
/- Regions of any order: operations that only read, and one call that may run between them. -/
set_option linter.unusedVariables false
set_option linter.unusedSimpArgs false
set_option maxRecDepth 10000
set_option maxHeartbeats 4000000
namespace Go.X
open Go

theorem allB_len : ∀ {m : Nat} {l : List Bool}, l ∈ allB m → l.length = m
  | 0, l, h => by rw [List.mem_singleton.1 h]; rfl
  | m + 1, l, h => by
    obtain ⟨l', h1, h2⟩ := List.mem_flatMap.1 h
    have := allB_len h1
    rcases List.mem_cons.1 h2 with rfl | h2
    · simp [this]
    · rw [List.mem_singleton.1 h2]; simp [this]
end Go.X
end

section
set_option linter.unusedVariables false
set_option linter.unusedSimpArgs false
set_option linter.unusedSectionVars false
/- Regions whose order Go leaves open: the first operations in any order, and the others after them, in any order too. -/
set_option linter.unusedVariables false
set_option linter.unusedSimpArgs false
set_option maxRecDepth 10000
set_option maxHeartbeats 4000000
namespace Go.X
open Go

section
variable {X : Cx} {ops : List Oper} {A : List Nat} {S : List (Nat × Nat)} {st : St} {acc : List DE} {L : Nat → Bool} {ρ : Env} {a : Act} {w : World}
end
section
variable {X : Cx} {st : St}
end
end Go.X
end

section
set_option linter.unusedVariables false
set_option linter.unusedSimpArgs false
set_option linter.unusedSectionVars false
/- Regions of any order: operations that change the heap, and a call between them; regions in which a call panics. -/
set_option linter.unusedVariables false
set_option linter.unusedSimpArgs false
set_option maxRecDepth 10000
set_option maxHeartbeats 4000000
namespace Go.X
open Go

end Go.X
end

section
set_option linter.unusedVariables false
set_option linter.unusedSimpArgs false
set_option linter.unusedSectionVars false
/- Regions whose order Go leaves open: the first operations in any order, one more that waits for none, and the others after them, in any order. -/
set_option linter.unusedVariables false
set_option linter.unusedSimpArgs false
set_option maxRecDepth 10000
set_option maxHeartbeats 4000000
namespace Go.X
open Go

section
variable {X : Cx} {A A' : List Nat} {S : List (Nat × Nat)} {st : St} {acc : List DE}
end
section
variable {X : Cx} {st : St}
end
end Go.X
end

section
set_option linter.unusedVariables false
set_option linter.unusedSimpArgs false
set_option linter.unusedSectionVars false
/- Contracts that hand back an empty piece where a function hands back a nil slice. -/
set_option linter.unusedVariables false
set_option linter.unusedSimpArgs false
set_option maxRecDepth 10000
set_option maxHeartbeats 4000000
namespace Go.X
open Go Go.Proofs
variable {P : Program}

end Go.X
end

section
set_option linter.unusedVariables false
set_option linter.unusedSimpArgs false
set_option linter.unusedSectionVars false
/- Own slices that are not written any more become slices to read; copies of parts that may be empty. -/
set_option linter.unusedVariables false
set_option linter.unusedSimpArgs false
set_option maxRecDepth 10000
set_option maxHeartbeats 4000000
namespace Go.X
open Go
section
variable {X : Cx} {ρ : Env} {st : St} {a : Act} {w : World}
theorem Mod.roVec (hm : Mod X ρ st a w) {sid e size n : Nat} {get : Nat → List SV} (h1 : findH st.H sid = some (.vec e size n get)) :
    ∃ A c, den ρ (.sl sid) = some (.slice A n c) ∧ Mod X (upd ρ st.nx (.sl A n c size)) { st with H := (st.nx, .ro size n get) :: (sid, .dead) :: st.H, nx := st.nx + 1 } a w := by
  have hf : ρ st.nx = none := hm.nx _ (Nat.le_refl _)
  obtain ⟨nm, g1, g2⟩ := hm.hm.ok _ _ h1
  have hk := hm.kill h1
  have key : ∃ A c, den ρ (.sl sid) = some (.slice A n c) ∧ HBok (upd ρ st.nx (.sl A n c size)) w (.ro size n get) (.sl A n c size) ∧ ∀ b, roBlock (.sl A n c size) = some b → 0 < n → ¬ Own ρ (findH ((sid, .dead) :: st.H)) b := by
    cases nm <;> simp only [HBok] at g2
    · obtain ⟨rfl, rfl, rfl, rfl, rfl⟩ := g2
      exact ⟨none, 0, by simp [den, g1], ⟨rfl, rfl, Nat.le_refl _, fun h => absurd h (Nat.lt_irrefl _)⟩, fun b hb => by cases hb⟩
    · rename_i nb n' c s'
      obtain ⟨rfl, rfl, hle, cells, d5, d6, d7⟩ := g2
      have hlt : nb < w.heap.size := by
        rcases Nat.lt_or_ge nb w.heap.size with h | h
        · exact h
        · rw [Array.getElem?_eq_none h] at d5; cases d5
      refine ⟨some ⟨nb, 0, none⟩, c, by simp [den, g1], ⟨rfl, rfl, hle.1, fun _ => ⟨_, rfl, hlt, fun i hi => ?_⟩⟩, fun b hb _ hO => ?_⟩
      · obtain ⟨vs, c1, c2, c3, c4⟩ := d7 i hi
        refine ⟨vs, denL_ext (Ext.upd _ hf) _ _ c1, c2, c3, fun j v hv => ?_⟩
        rw [add_zero_mk]
        simp only [World.cell?, d5, List.getElem?_toArray]
        exact c4 j v hv
      · simp only [roBlock, Option.some.injEq] at hb
        subst hb
        obtain ⟨i', x', nm', q0, q1, q2, q3, q4⟩ := Own.kill hO
        exact q0 (hm.hm.sep i' sid x' _ nm' _ nb q1 h1 q2 rfl q3 g1 q4 rfl)
  obtain ⟨A, c, hd, hok, hno⟩ := key
  refine ⟨A, c, hd, ?_⟩
  have hkh := hk.hm
  exact {
    fm := hm.fm.ext (Ext.upd _ hf)
    gs := hm.gs
    df := hm.df.ext (Ext.upd _ hf)
    hm := {
      ok := fun j hb hj => by
        rw [findH_cons] at hj
        by_cases e : st.nx = j
        · subst e; rw [updL_self] at hj; cases hj
          exact ⟨_, upd_self _ _ _, hok⟩
        · rw [updL_ne _ _ e] at hj
          obtain ⟨nm, h1, h2⟩ := hkh.ok j hb hj
          exact ⟨nm, by rw [upd_ne _ _ (Ne.symm e)]; exact h1, HBok_ext (Ext.upd _ hf) h2⟩
      sep := fun i j x y n₁ n₂ b h1 h2 l1 l2 r1 r2 o1 o2 => by
        rw [findH_cons] at h1 h2
        by_cases e1 : st.nx = i
        · subst e1; rw [upd_self] at r1; cases r1; cases o1
        · by_cases e2 : st.nx = j
          · subst e2; rw [upd_self] at r2; cases r2; cases o2
          · rw [updL_ne _ _ e1] at h1; rw [updL_ne _ _ e2] at h2
            rw [upd_ne _ _ (Ne.symm e1)] at r1; rw [upd_ne _ _ (Ne.symm e2)] at r2
            exact hkh.sep i j x y n₁ n₂ b h1 h2 l1 l2 r1 r2 o1 o2
      ro := fun j s2 n2 get' nm b hj hn hr hb ho => by
        rw [findH_cons] at hj
        rcases Own.cons hf ho with h | h
        · cases h
        by_cases e : st.nx = j
        · subst e; rw [updL_self] at hj; cases hj
          rw [upd_self] at hr; cases hr
          exact hno b hb hn h
        · rw [updL_ne _ _ e] at hj
          rw [upd_ne _ _ (Ne.symm e)] at hr
          exact hkh.ro j s2 n2 get' nm b hj hn hr hb h
      fam := fun b hz ho => by
        rw [findH_cons] at hz
        rcases Own.cons hf ho with h | h
        · cases h
        · exact hkh.fam b (hz.upd fun _ _ h => by cases h) h }
    kp := {
      str := hm.kp.str
      size := hm.kp.size
      same := hm.kp.same
      own := fun b ho => by
        rcases Own.cons hf ho with h | h
        · cases h
        · exact hk.kp.own b h
      ext := hm.kp.ext.trans (Ext.upd _ hf)
      fz := fun b hz => hk.kp.fz b (by rw [findH_cons] at hz; exact hz.upd fun _ _ h => by cases h) }
    nx := fun j hj => by
      have : st.nx + 1 ≤ j := hj
      rw [upd_ne _ _ (by omega)]; exact hm.nx j (by omega)
    sz := hm.sz }
/-- Cells, by another number of a slice. -/
def reL (id new : Nat) : List SV → List SV
  | [] => []
  | .sl j :: r => (match Nat.beq j id with
    | true => .sl new
    | false => .sl j) :: reL id new r
  | x :: r => x :: reL id new r
theorem denL_reL {ρ : Env} {id new : Nat} (h : den ρ (.sl new) = den ρ (.sl id)) : ∀ l : List SV, denL ρ (reL id new l) = denL ρ l
  | [] => rfl
  | x :: r => by
    have ih := denL_reL h r
    cases x with
    | sl j =>
      simp only [reL]
      split
      · rename_i e
        have : j = id := Nat.eq_of_beq_eq_true e
        subst this
        simp only [denL, ih, h]
      · simp only [denL, ih]
    | _ => simp only [reL, denL, ih]
theorem sem_roCell (sid cid Tc e size n : Nat) (get : Nat → List SV) (cs cs' : List SV) {c : Code} {K : Ex → St → Prop} (h1 : findH st.H sid = some (.vec e size n get)) (h2 : findH st.H cid = some (.cells Tc cs)) (hu : reL sid st.nx cs = cs')
    (h : stK st fun F gs H nx D => natF (nx + 1) fun nx' => SemC X c ⟨F, gs, (cid, .cells Tc cs') :: (nx, .ro size n get) :: (sid, .dead) :: H, nx', D⟩ K) : SemC X c st K := by
  intro ρ a w hm
  rw [stK_eq, natF_eq] at h
  obtain ⟨A, k, hd, hm2⟩ := hm.roVec h1
  have hf : ρ st.nx = none := hm.nx _ (Nat.le_refl _)
  obtain ⟨nm, h3, h4⟩ := hm.hm.ok _ _ h2
  have hcx : cid ≠ st.nx := fun e => by rw [e] at h3; rw [hf] at h3; cases h3
  have hcs : cid ≠ sid := fun e => by rw [e] at h2; rw [h1] at h2; cases h2
  have h5 : findH ((st.nx, .ro size n get) :: (sid, .dead) :: st.H) cid = some (.cells Tc cs) := by
    rw [findH_cons, updL_ne _ _ (Ne.symm hcx), findH_cons, updL_ne _ _ (Ne.symm hcs)]; exact h2
  have hd1 : den (upd ρ st.nx (.sl A n k size)) (.sl st.nx) = den (upd ρ st.nx (.sl A n k size)) (.sl sid) := by
    rw [den_ext (Ext.upd _ hf) _ _ hd]
    simp [den, upd_self]
  refine h _ a w (hm2.swap (hb' := .cells Tc cs') h5 rfl (nm := nm) (by rw [upd_ne _ _ hcx]; exact h3) ?_ (fun _ _ _ h => by cases h))
  have h6 := HBok_ext (Ext.upd (.sl A n k size) hf) h4
  cases nm <;> simp only [HBok] at h6 ⊢
  obtain ⟨vs, d1, d2, d3⟩ := h6
  exact ⟨vs, by rw [← hu, denL_reL hd1]; exact d1, d2, d3⟩
end
end Go.X
end

section
set_option linter.unusedVariables false
set_option linter.unusedSimpArgs false
set_option linter.unusedSectionVars false
/- Regions of any order: cells that get numbers of their own, whatever the order is (ids renumbered behind each operation). -/
set_option linter.unusedVariables false
set_option linter.unusedSimpArgs false
set_option maxRecDepth 10000
set_option maxHeartbeats 4000000
namespace Go.X
open Go

def keepN (s : Nat → Nat) (n : Nat) : List (Nat × FE) → Prop
  | [] => True
  | (_, ⟨[], v⟩) :: r => (SVeq v (renSV s v) ∧ idsSV n v = true) ∧ keepN s n r
  | _ :: _ => False
theorem keepN_mem {s : Nat → Nat} {n : Nat} : ∀ {L : List (Nat × FE)}, keepN s n L → ∀ p ∈ L, p.2.gp = [] ∧ SVeq p.2.v (renSV s p.2.v) ∧ idsSV n p.2.v = true
  | [], _, p, h => by cases h
  | (_, ⟨[], v⟩) :: r, hk, p, h => by
    rcases List.mem_cons.1 h with rfl | h
    · exact ⟨rfl, hk.1⟩
    · exact keepN_mem hk.2 p h
  | (_, ⟨_ :: _, _⟩) :: _, hk, p, h => hk.elim
theorem weakRF_mem {s : Nat → Nat} {n : Nat} {F : List (Nat × FE)} : ∀ {L : List (Nat × FE)}, weakRF s n F L → ∀ p ∈ L, p.2.gp = [] ∧ ∃ u, findF F p.1 = some ⟨[], u⟩ ∧ SVeq u (renSV s p.2.v) ∧ idsSV n p.2.v = true
  | [], _, p, h => by cases h
  | (t, ⟨[], v⟩) :: r, hk, p, h => by
    simp only [weakRF] at hk
    rcases List.mem_cons.1 h with rfl | h
    · have h1 := hk.1
      split at h1
      · rename_i u e1
        exact ⟨rfl, u, e1, h1.1, h1.2⟩
      · exact h1.elim
    · exact weakRF_mem hk.2 p h
  | (_, ⟨_ :: _, _⟩) :: _, hk, p, h => by simp only [weakRF] at hk
theorem weakRF_of {s : Nat → Nat} {n : Nat} {F : List (Nat × FE)} : ∀ {L : List (Nat × FE)}, (∀ p ∈ L, p.2.gp = [] ∧ ∃ u, findF F p.1 = some ⟨[], u⟩ ∧ SVeq u (renSV s p.2.v) ∧ idsSV n p.2.v = true) → weakRF s n F L
  | [], _ => trivial
  | (t, ⟨g, v⟩) :: r, h => by
    obtain ⟨h1, u, h2, h3, h4⟩ := h (t, ⟨g, v⟩) List.mem_cons_self
    have h1 : g = [] := h1
    subst h1
    simp only [weakRF]
    rw [h2]
    exact ⟨⟨h3, h4⟩, weakRF_of fun p hp => h p (List.mem_cons_of_mem _ hp)⟩
theorem findF_none {t : Nat} : ∀ {L : List (Nat × FE)}, (∀ p ∈ L, p.1 ≠ t) → ∀ B, findF (L ++ B) t = findF B t
  | [], _, B => rfl
  | (d, x) :: r, h, B => by
    have hd : Nat.beq d t = false := by
      cases hb : Nat.beq d t with
      | false => rfl
      | true => exact absurd (Nat.eq_of_beq_eq_true hb) (h (d, x) List.mem_cons_self)
    show findF ((d, x) :: (r ++ B)) t = _
    simp only [findF, hd]
    exact findF_none (fun q hq => h q (List.mem_cons_of_mem _ hq)) B
theorem findF_app {B : List (Nat × FE)} {t : Nat} {e : FE} : ∀ {L : List (Nat × FE)}, findF L t = some e → findF (L ++ B) t = some e
  | [], h => by cases h
  | (d, x) :: r, h => by
    show findF ((d, x) :: (r ++ B)) t = _
    simp only [findF] at h ⊢
    split at h
    · rename_i hd
      simp only [hd]
      exact h
    · rename_i hd
      simp only [hd]
      exact findF_app h

/-- A renumbering behind an operation. -/
structure NewR (n0 : Nat) (s : Nat → Nat) (N : Nat) (sl' sl : List (Nat × FE)) (H' H : List (Nat × HB)) (D : List SDef) : Prop where
  wF : weakRF s N sl' sl
  key : sl'.map (·.1) = sl.map (·.1)
  wH : weakRH s N H' H
  inj : injI s H = true
  fix : fixI s n0 = true
  ge : Nat.ble n0 N = true
  wD : weakRD s N D D
theorem any_latN {D : List SDef} {X : Cx} {ops : Array Oper} {K : Ex → St → Prop} (hX : X.Ok) (m : Nat) (arr : List Bool → Array Bool) (opi : Nat → Nat) (ex : List Bool → Bool) (slots : Nat → List (Nat × FE)) (base : List (Nat × FE)) (Hf : List Bool → List (Nat × HB)) (nxf : List Bool → Nat) (anc : Nat → List Nat) (rest : Nat) (n0 : Nat) (hn : ∀ j, n0 ≤ j → X.G.ρ j = none)
    (hanc : ∀ i, i < m → ∀ j ∈ anc i, j < m) (hchk : ∀ l ∈ allB m, latX ops m arr opi ex anc l = true) (hA : subF (slF slots base (List.replicate m true)) (slF slots base (List.replicate m true)))
    (hst : ∀ i, i < m → ∀ l : List Bool, l.length = m → l.getD i true = false → (∀ j ∈ anc i, l.getD j false = true) → clB2 anc l = true → ∃ o, ops[opi i]? = some o ∧ o.guard = none ∧
      ((∀ (tail : List (Nat × FE)) (Q : Exit → Act → World → Prop) (Kn : St → Prop), Cont X Q Kn (fun _ _ => False) → Kn ⟨slots i ++ ((anc i).flatMap slots ++ (base ++ tail)), [], Hf (l.set i true), nxf (l.set i true), D⟩ →
        execL X [o] Q Kn (fun _ _ => False) 0 [o] ⟨(anc i).flatMap slots ++ (base ++ tail), [], Hf l, nxf l, D⟩) ∨
      ∃ (s : Nat → Nat) (sl' : List (Nat × FE)) (H' : List (Nat × HB)) (nx' : Nat), NewR n0 s (nxf (l.set i true)) sl' (slots i) H' (Hf (l.set i true)) D ∧ keepN s (nxf (l.set i true)) base ∧ (∀ j, j < m → j ≠ i → keepN s (nxf (l.set i true)) (slots j)) ∧
        ∀ (tail : List (Nat × FE)) (Q : Exit → Act → World → Prop) (Kn : St → Prop), Cont X Q Kn (fun _ _ => False) → Kn ⟨sl' ++ ((anc i).flatMap slots ++ (base ++ tail)), [], H', nx', D⟩ →
          execL X [o] Q Kn (fun _ _ => False) 0 [o] ⟨(anc i).flatMap slots ++ (base ++ tail), [], Hf l, nxf l, D⟩))
    (hend : ∀ l : List Bool, l.length = m → ex l = true → AnyS X ops (l.count false + rest) (arr l) ⟨slF slots base l, [], Hf l, nxf l, D⟩ K) :
    ∀ l : List Bool, l.length = m → clB2 anc l = true → AnyS X ops (l.count false + rest) (arr l) ⟨slF slots base l, [], Hf l, nxf l, D⟩ K := by
  have hA' : ∀ p ∈ slF slots base (List.replicate m true), findF (slF slots base (List.replicate m true)) p.1 = some p.2 ∧ p.2.gp = [] := by
    generalize slF slots base (List.replicate m true) = A at hA
    have : ∀ L : List (Nat × FE), subF A L → ∀ p ∈ L, findF A p.1 = some p.2 ∧ p.2.gp = [] := by
      intro L
      induction L with
      | nil => intro _ p hp; cases hp
      | cons q r ih =>
        intro h p hp
        obtain ⟨d, e⟩ := q
        rcases List.mem_cons.1 hp with rfl | hp
        · exact h.1
        · exact ih h.2 p hp
    exact this A hA
  have hall : ∀ l : List Bool, l.length = m → ∀ p ∈ slF slots base l, p ∈ slF slots base (List.replicate m true) := by
    intro l hl p hp
    rcases slF_mem.1 hp with ⟨i, hi, _, h⟩ | h
    · refine slF_mem.2 (.inl ⟨i, by simpa [hl] using hi, ?_, h⟩)
      have : i < m := hl ▸ hi
      simp [List.getD, this]
    · exact slF_mem.2 (.inr h)
  have main : ∀ k, ∀ l : List Bool, l.length = m → clB2 anc l = true → l.count false = k → AnyS X ops (k + rest) (arr l) ⟨slF slots base l, [], Hf l, nxf l, D⟩ K := by
    intro k
    induction k with
    | zero =>
      intro l hl hcl hk
      have hc := hchk l (hl ▸ mem_allB l)
      cases he : ex l with
      | true => have := hend l hl he; rw [hk] at this; exact this
      | false =>
        unfold latX at hc
        rw [hcl, he] at hc
        simp only [Bool.not_true, Bool.false_or, Bool.and_eq_true, Bool.not_eq_true', List.all_eq_true, List.any_eq_true, beq_iff_eq] at hc
        obtain ⟨hne, hrs⟩ := hc
        cases hr : Region.ready .any ops (arr l) with
        | nil => rw [hr] at hne; cases hne
        | cons o r =>
          obtain ⟨i, him, -, hif, -⟩ := hrs o (by rw [hr]; exact List.mem_cons_self)
          have him : i < m := List.mem_range.1 him
          have hil : i < l.length := by omega
          have hli2 : l[i] = false := by
            rw [List.getD, List.getElem?_eq_getElem hil] at hif
            simpa using hif
          have : false ∈ l := hli2 ▸ List.getElem_mem hil
          have := List.count_pos_iff.2 this
          omega
    | succ k ih =>
      intro l hl hcl hk
      have hc := hchk l (hl ▸ mem_allB l)
      cases he : ex l with
      | true => have := hend l hl he; rw [hk] at this; exact this
      | false =>
      unfold latX at hc
      rw [hcl, he] at hc
      simp only [Bool.not_true, Bool.false_or, Bool.and_eq_true, Bool.not_eq_true', List.all_eq_true, List.any_eq_true, beq_iff_eq] at hc
      obtain ⟨hne, hrs⟩ := hc
      refine ⟨fun ρ a w hmod => ?_⟩
      rw [show k + 1 + rest = (k + rest) + 1 by omega]
      refine wpAnyIn_all (rs := Region.ready .any ops (arr l)) rfl (by intro h; rw [h] at hne; cases hne) fun oi hi => ?_
      obtain ⟨i, him, rfl, hif, hia, hset⟩ := hrs oi hi
      have him : i < m := List.mem_range.1 him
      have hil : i < l.length := by omega
      obtain ⟨o, ho, hg, hstep⟩ := hst i him l hl hif hia hcl
      rw [hset]
      have hlen : (l.set i true).length = m := by rw [List.length_set, hl]
      have hget : ∀ j, (l.set i true).getD j false = true ↔ j = i ∨ l.getD j false = true := by
        intro j
        simp only [List.getD, List.getElem?_set]
        by_cases e : i = j
        · subst e; simp [hil]
        · simp [e, Ne.symm e]
      have hcl' : clB2 anc (l.set i true) = true := by
        unfold clB2 at hcl ⊢
        rw [List.all_eq_true] at hcl ⊢
        intro j hj
        rw [List.length_set] at hj
        have h0 := hcl j hj
        cases hd : (l.set i true).getD j false with
        | false => rfl
        | true =>
          rw [Bool.not_true, Bool.false_or, List.all_eq_true]
          intro q hq
          refine (hget q).2 ?_
          rcases (hget j).1 hd with rfl | hd
          · exact .inr (hia q hq)
          · rw [hd] at h0
            rw [Bool.not_true, Bool.false_or, List.all_eq_true] at h0
            exact .inr (h0 q hq)
      have hcount : (l.set i true).count false = k := by
        have hli : l[i]? = some false := by
          have : l.getD i true = false := hif
          rw [List.getD, List.getElem?_eq_getElem hil] at this
          rw [List.getElem?_eq_getElem hil]
          simpa using this
        have hli2 : l[i] = false := by rw [List.getElem?_eq_getElem hil] at hli; simpa using hli
        have := List.count_set (a := true) (b := false) (l := l) (i := i) hil
        rw [hli2] at this
        simp at this
        omega
      have ihh := ih (l.set i true) hlen hcl' hcount
      have hmem : ∀ p ∈ (anc i).flatMap slots ++ (base ++ slF slots base l), p ∈ slF slots base l := by
        intro p hp
        rcases List.mem_append.1 hp with hp | hp
        · obtain ⟨j, hj, hp⟩ := List.mem_flatMap.1 hp
          exact slF_mem.2 (.inl ⟨j, hl ▸ hanc i him j hj, hia j hj, hp⟩)
        · rcases List.mem_append.1 hp with hp | hp
          · exact slF_mem.2 (.inr hp)
          · exact hp
      have hmod' := mod_sub (F' := (anc i).flatMap slots ++ (base ++ slF slots base l)) hA' (hall l hl) hmem (Nat.le_refl _) hmod
      refine stepsK_ok hX (l := [opi i]) (K := K) (st := ⟨(anc i).flatMap slots ++ (base ++ slF slots base l), [], Hf l, nxf l, D⟩) ⟨?_, trivial⟩ (opi i) (List.mem_singleton.2 rfl) ρ a w hmod' |> fun h => by rw [hset] at h; exact h
      have hnth : nth ops.toList (opi i) = some o := by rw [nth_eq, Array.getElem?_toList]; exact ho
      rw [hnth]
      show (match o.guard with
        | none => _
        | some _ => False)
      rw [hg]
      have hfin : AnyS X ops (k + rest) ((arr l).setIfInBounds (opi i) true) ⟨slots i ++ ((anc i).flatMap slots ++ (base ++ slF slots base l)), [], Hf (l.set i true), nxf (l.set i true), D⟩ K := by
        rw [hset]
        refine ⟨fun ρ a w hm2 => ?_⟩
        refine ihh.h ρ a w (mod_sub (F := slots i ++ ((anc i).flatMap slots ++ (base ++ slF slots base l))) (nx := nxf (l.set i true)) hA' ?_ ?_ (Nat.le_refl _) hm2)
        · intro p hp
          rcases List.mem_append.1 hp with hp | hp
          · refine slF_mem.2 (.inl ⟨i, by simpa using him, ?_, hp⟩)
            simp [List.getD, him]
          · exact hall l hl p (hmem p hp)
        · intro p hp
          rcases slF_mem.1 hp with ⟨j, hj, hd, hp2⟩ | hp2
          · rw [List.length_set] at hj
            rcases (hget j).1 hd with e | hd
            · exact List.mem_append_left _ (e ▸ hp2)
            · exact List.mem_append_right _ (List.mem_append_right _ (List.mem_append_right _ (slF_mem.2 (.inl ⟨j, hj, hd, hp2⟩))))
          · exact List.mem_append_right _ (List.mem_append_right _ (List.mem_append_left _ hp2))

      rcases hstep with hstep | ⟨s, sl', H', nx', hN, hkb, hks, hstep⟩
      · exact hstep _ _ _ cont_any hfin
      · refine hstep _ _ _ cont_any (any_weaken n0 s hn (st' := ⟨slots i ++ ((anc i).flatMap slots ++ (base ++ slF slots base l)), [], Hf (l.set i true), nxf (l.set i true), D⟩) ?_ hfin)
        refine ⟨weakRF_of fun p hp => ?_, hN.wH, hN.inj, hN.fix, hN.ge, rfl, hN.wD⟩
        have h1 : ∀ p ∈ slots i, p.2.gp = [] ∧ ∃ u, findF (sl' ++ ((anc i).flatMap slots ++ (base ++ slF slots base l))) p.1 = some ⟨[], u⟩ ∧ SVeq u (renSV s p.2.v) ∧ idsSV (nxf (l.set i true)) p.2.v = true := fun p hp => by
          obtain ⟨q1, u, q2, q3, q4⟩ := weakRF_mem hN.wF p hp
          exact ⟨q1, u, findF_app q2, q3, q4⟩
        rcases List.mem_append.1 hp with hp | hp
        · exact h1 p hp
        · have hpA := hall l hl p (hmem p hp)
          by_cases hk : ∃ q ∈ sl', q.1 = p.1
          · obtain ⟨q, hq, hqp⟩ := hk
            have : p.1 ∈ (slots i).map (·.1) := by rw [← hN.key]; exact List.mem_map.2 ⟨q, hq, hqp⟩
            obtain ⟨q2, hq2, hqp2⟩ := List.mem_map.1 this
            have hA2 : q2 ∈ slF slots base (List.replicate m true) := slF_mem.2 (.inl ⟨i, by simpa using him, by simp [List.getD, him], hq2⟩)
            have e1 := (hA' _ hA2).1
            have e2 := (hA' _ hpA).1
            rw [hqp2, e2] at e1
            have : p = q2 := Prod.ext hqp2.symm (Option.some.inj e1)
            exact h1 p (this ▸ hq2)
          · have hkeep : p.2.gp = [] ∧ SVeq p.2.v (renSV s p.2.v) ∧ idsSV (nxf (l.set i true)) p.2.v = true := by
              rcases slF_mem.1 (hmem p hp) with ⟨j, hj, hd, hp2⟩ | hp2
              · refine keepN_mem (hks j (hl ▸ hj) ?_) p hp2
                rintro rfl
                rw [List.getD, List.getElem?_eq_getElem hj] at hif hd
                simp at hif hd
                rw [hif] at hd; cases hd
              · exact keepN_mem hkb p hp2
            refine ⟨hkeep.1, p.2.v, ?_, hkeep.2⟩
            rw [findF_none fun q hq hqp => hk ⟨q, hq, hqp⟩]
            have e3 : findF ((anc i).flatMap slots ++ (base ++ slF slots base l)) p.1 = some p.2 := (findF_mem (A := slF slots base (List.replicate m true)) (L := (anc i).flatMap slots ++ (base ++ slF slots base l)) fun q hq => (hA' q (hall l hl q (hmem q hq))).1).2 hp
            rw [e3, ← hkeep.1]
  exact fun l hl hcl => main _ l hl hcl rfl
end Go.X
end

section
set_option linter.unusedVariables false
set_option linter.unusedSimpArgs false
set_option linter.unusedSectionVars false
/- Slices frozen, be they empty or not; nil in a struct's cell; rows whose arguments hold slices of slices. -/
set_option linter.unusedVariables false
set_option linter.unusedSimpArgs false
set_option maxRecDepth 10000
set_option maxHeartbeats 4000000
namespace Go.X
open Go Go.ChangeShapes Go.WideShapes Go.ChangeAt Go.RowKit
section
variable {X : Cx} {ρ : Env} {st : St} {a : Act} {w : World}
/-- A slice by its value: nil, or n of a block. -/
def isSl (v : Value) (n : Nat) : Prop := (v = .slice none 0 0 ∧ n = 0) ∨ ∃ ad c, v = .slice (some ad) n c
theorem isSl.one {v : Value} {n : Nat} (h : isSl v n) : v.oneCell' = true := by
  rcases h with ⟨rfl, _⟩ | ⟨ad, c, rfl⟩ <;> rfl
/-- A cell that holds nil. -/
theorem sem_nilVec (id Tc T size : Nat) (get : Nat → List SV) (cs cs' : List SV) {c : Code} {K : Ex → St → Prop} (h1 : findH st.H id = some (.cells Tc cs)) (hu : frzL st.nx (.slice none 0 0) cs' = cs)
    (h : stK st fun F gs H nx D => natF (nx + 1) fun nx' => SemC X c ⟨F, gs, (id, .cells Tc cs') :: (nx, .vec T size 0 get) :: H, nx', D⟩ K) : SemC X c st K := by
  intro ρ a w hm
  rw [stK_eq, natF_eq] at h
  have hid : id ≠ st.nx := fun e => by
    obtain ⟨nm, h2, _⟩ := hm.hm.ok _ _ h1
    rw [hm.nx id (by omega)] at h2; cases h2
  obtain ⟨nm, h3, h4⟩ := hm.hm.ok _ _ h1
  have hx : Ext ρ (upd ρ st.nx (.sl none 0 0 size)) := Ext.upd _ (hm.nx _ (Nat.le_refl _))
  have hm2 := hm.nilNew T size get
  have hd : den (upd ρ st.nx (.sl none 0 0 size)) (.sl st.nx) = some (.slice none 0 0) := by simp [den, upd_self]
  have h5 : findH ((st.nx, .vec T size 0 get) :: st.H) id = some (.cells Tc cs) := by
    rw [findH_cons, updL_ne _ _ (Ne.symm hid)]; exact h1
  refine h _ a w (hm2.swap (hb' := .cells Tc cs') h5 rfl (nm := nm) (by rw [upd_ne _ _ hid]; exact h3) ?_ (fun _ _ _ h => by cases h))
  have h6 := HBok_ext hx h4
  cases nm <;> simp only [HBok] at h6 ⊢
  obtain ⟨vs, d1, d2, d3⟩ := h6
  exact ⟨vs, by rw [← denL_frz rfl hd, hu]; exact d1, d2, d3⟩
end
/-- Arguments that came in, in the executor's words: with slices that are told of. -/
def OpenedS (P : Program) (f : Nat) (W : World) (vals : List Value) : Prop :=
  ∃ (ρ : Env) (H : List (Nat × HB)) (l : List SV) (nx : Nat), HM ρ (findH H) W ∧ (∀ b, ¬ Own ρ (findH H) b) ∧ (∀ j, nx ≤ j → ρ j = none) ∧ denL ρ l = some vals ∧ CallS P f l H nx (fun v _ _ => v = .sb true) (fun _ _ _ => False)
section
variable {H : Type} {enc : TypeId × Value → H}
end
end Go.X
end

section
set_option linter.unusedVariables false
set_option linter.unusedSimpArgs false
set_option linter.unusedSectionVars false
/- A cell that holds a slice that is told of is looked at, with a slot that holds it too; before any operation. -/
set_option linter.unusedVariables false
set_option linter.unusedSimpArgs false
set_option maxRecDepth 10000
namespace Go.X
open Go
theorem underX_of {F : Nat → Option FE} {p : Prop} (h : p) : ∀ {π : GP}, underGP F π p
  | [] => h
  | (a, b) :: r => by
    simp only [underGP]
    split
    · exact fun _ => underX_of h
    · exact underX_of h
section
variable {X : Cx} {st : St} {K : Ex → St → Prop}
/-- What follows the first of two. -/
def KSeq (X : Cx) (b : Code) (K : Ex → St → Prop) : Ex → St → Prop := fun e st => match e with
  | .normal => SemC X b st K
  | e => K e st
def KBlk (n : Nat) (K : Ex → St → Prop) : Ex → St → Prop := fun e st => match e with
  | .exit m => (match Nat.beq m n with
    | true => K .normal st
    | false => K (.exit m) st)
  | e => K e st
theorem sem_seq {x y : Code} (h : SemC X x st (KSeq X y K)) : SemC X (.seq x y) st K := by
  intro ρ a w hm
  refine wpIn_seq (wpIn_mono (h ρ a w hm) ?_)
  rintro e a' w' ⟨x', st', ρ', rfl, hm', hk⟩
  cases x' with
  | normal => exact hk ρ' a' w' hm'
  | ret => exact ⟨.ret, st', ρ', rfl, hm', hk⟩
  | exit n => exact ⟨.exit n, st', ρ', rfl, hm', hk⟩
  | panic ch => exact ⟨.panic ch, st', ρ', rfl, hm', hk⟩
theorem sem_block {n : Nat} {x : Code} (h : SemC X x st (KBlk n K)) : SemC X (.block n x) st K := by
  intro ρ a w hm
  refine wpIn_block (wpIn_mono (h ρ a w hm) ?_)
  rintro e a' w' ⟨x', st', ρ', rfl, hm', hk⟩
  cases x' with
  | normal => exact ⟨.normal, st', ρ', rfl, hm', hk⟩
  | ret => exact ⟨.ret, st', ρ', rfl, hm', hk⟩
  | panic ch => exact ⟨.panic ch, st', ρ', rfl, hm', hk⟩
  | exit m =>
    simp only [KBlk] at hk
    simp only [Ex.to, Exit.inBlock]
    by_cases hmn : m = n
    · subst hmn
      simp only [Nat.beq_refl] at hk
      rw [if_pos rfl]
      exact ⟨.normal, st', ρ', rfl, hm', hk⟩
    · have hb : Nat.beq m n = false := by
        cases hbb : Nat.beq m n with
        | false => rfl
        | true => exact absurd (Nat.eq_of_beq_eq_true hbb) hmn
      simp only [hb] at hk
      rw [if_neg hmn]
      exact ⟨.exit m, st', ρ', rfl, hm', hk⟩
theorem loop_okS {body : Code} {α : Type} (n0 : Nat) (I : α → St) (μ : α → Nat) (hn : ∀ j, n0 ≤ j → X.G.ρ j = none) (x0 : α) (s0 : Nat → Nat)
    (h0 : WeakR n0 s0 st (I x0)) (hr : ∀ x, SemC X body (I x) (RoundR n0 I μ x K)) : SemC X (.loop body) st K := by
  intro ρ a w hm
  refine wpIn_loop_rel (fun j a w => ∃ x ρ, μ x = j ∧ Mod X ρ (I x) a w) ⟨x0, _, rfl, hm.ren h0 hn⟩ ?_
  rintro j a' w' ⟨x, ρ', rfl, hm'⟩
  refine wpIn_mono (hr x ρ' a' w' hm') ?_
  rintro e a₂ w₂ ⟨y, st₂, ρ₂, rfl, hm₂, hk⟩
  cases y with
  | normal =>
    obtain ⟨x', s, h1, h2⟩ := hk
    exact ⟨_, h2, x', _, rfl, hm₂.ren h1 hn⟩
  | ret => exact ⟨.ret, st₂, ρ₂, rfl, hm₂, hk⟩
  | exit n => exact ⟨.exit n, st₂, ρ₂, rfl, hm₂, hk⟩
  | panic ch => exact ⟨.panic ch, st₂, ρ₂, rfl, hm₂, hk⟩
end
section
variable {X : Cx} {ρ : Env} {st : St} {a : Act} {w : World}
end
end Go.X
end

section
set_option linter.unusedVariables false
set_option linter.unusedSimpArgs false
set_option linter.unusedSectionVars false
/- Package variables that are told of; arrays seen as slices of our own. -/
set_option linter.unusedVariables false
set_option linter.unusedSimpArgs false
set_option maxRecDepth 10000
namespace Go.X
open Go
section
variable {X : Cx} {ρ : Env} {st : St} {a : Act} {w : World}
/-- A package variable that is told of is loaded. -/
theorem fb_loadG (fid g n c size : Nat) (get : Nat → List SV) (s : SV) {C : Value → Nat → (Nat → List SV) → Prop} {ops : List Oper} {i : Nat} {o : Oper} {r : List Oper} {Q : Exit → Act → World → Prop} {K : St → Prop} {Kp : List PanicEntry → St → Prop} {t d : Nat} {ti : TI}
    (hX : X.Ok) (hC : Cont X Q K Kp) (hi : ops.drop i = o :: r) (hc : o.op = .load t (.global g)) (hg : o.guard = none) (hp : putN st.gs X.nt o.dst = false) (hdst : o.dst = some d) (ht : X.T t = some ti)
    (h1 : findH st.H fid = some (.fam size C)) (h2 : C (.slice (some ⟨g, 0, none⟩) n c) n get) (hn : 0 < n) (hl : loadC (aggD ti.desc) ti.size 0 (get 0) = some s) (hs : idsSV 0 s = true)
    (h : stK st fun F gs H nx D => execL X ops Q K Kp (i + 1) r ⟨(d, ⟨[], s⟩) :: F, gs, H, nx, D⟩) : FbO X ops Q K Kp i o r st := by
  refine fb_sem hX hC hi (by rw [hc]; intro c h; cases h) hg fun ρ a w hm => ?_
  have hf := hm.focus h1 h2
  have hd : den (upd ρ st.nx (.sl (some ⟨g, 0, none⟩) n c size)) (.se st.nx 0 0) = some (.pointer (some ⟨g, 0, none⟩)) := by
    simp [den, upd_self, hn, Addr.add]
  have hfx : findH ((st.nx, HB.ro size n get) :: st.H) st.nx = some (.ro size n get) := by rw [findH_cons, updL_self]
  obtain ⟨u, hu, hu2⟩ := load_ok hX.tab hf.hm ht hd (s := s) (by
    simp only [hfx]; exact hl)
  have hρ : den ρ s = some u := by
    have h3 := den_closed (l := [s]) (vs := [u]) (by simp only [idsL, hs]) (by simp [denL, hu2] : denL (upd ρ st.nx (.sl (some ⟨g, 0, none⟩) n c size)) [s] = some [u])
    have h4 := denL_ext (ρ' := ρ) (fun _ _ h => by cases h) _ _ h3
    simp only [denL] at h4
    split at h4
    · rename_i v vs e1 e2
      cases h4; exact e1
    · cases h4
  refine ⟨u, w, ρ, _, .inl ?_, hm.put (d := o.dst) (s := s) hp hρ, ?_⟩
  · simp only [execOp, hc]; exact run_v hu
  · rw [stK_eq] at h; rw [hdst]; exact h
/-- An array in a cell is seen as a slice of our own, under a new number. -/
theorem Mod.asVec (hm : Mod X ρ st a w) {id T n s nm : Nat} {cs : List SV} {get : Nat → List SV} (h1 : findH st.H id = some (.cells T cs)) (hnm : ρ id = some (.blk nm)) (hlen : cs.length = n * s) (hnx : n ≤ maxLen) (hg : ∀ i, i < n → (cs.drop (i * s)).take s = get i) :
    Mod X (upd ρ st.nx (.row nm n n s)) { st with H := (st.nx, .vec T s n get) :: (id, .dead) :: st.H, nx := st.nx + 1 } a w := by
  have hf : ρ st.nx = none := hm.nx _ (Nat.le_refl _)
  have hne : id ≠ st.nx := by rintro rfl; rw [hf] at hnm; cases hnm
  have hk := hm.kill h1
  have hO : Own ρ (findH st.H) nm := ⟨id, _, _, h1, rfl, hnm, rfl⟩
  have hno : ¬ Own ρ (findH ((id, .dead) :: st.H)) nm := by
    intro hO
    obtain ⟨i', x', nm', q0, q1, q2, q3, q4⟩ := Own.kill hO
    exact q0 (hm.hm.sep i' id x' _ nm' _ nm q1 h1 q2 rfl q3 hnm q4 rfl)
  obtain ⟨nm', k1, k2⟩ := hm.hm.ok _ _ h1
  rw [hnm] at k1; cases k1
  simp only [HBok] at k2
  obtain ⟨vs, d1, d2, d3⟩ := k2
  have hvl := denL_len d1
  have hx := Ext.upd (ρ := ρ) (Nm.row nm n n s) hf
  have hok : HBok (upd ρ st.nx (.row nm n n s)) w (.vec T s n get) (.row nm n n s) := by
    refine ⟨rfl, rfl, ⟨Nat.le_refl _, hnx⟩, vs, d3, by omega, fun i hi => ?_⟩
    have hle : i * s + s ≤ n * s := by
      have : (i + 1) * s ≤ n * s := Nat.mul_le_mul_right _ hi
      rw [Nat.add_mul] at this; omega
    have e1 := denL_take (denL_drop d1 (i * s)) s
    rw [hg i hi] at e1
    refine ⟨_, denL_ext hx _ _ e1, ?_, by rw [List.length_take, List.length_drop]; omega, fun j v hv => ?_⟩
    · rw [List.all_eq_true] at d2 ⊢
      exact fun x hx => d2 x (List.mem_of_mem_drop (List.mem_of_mem_take hx))
    · rw [List.getElem?_take] at hv
      split at hv
      · rw [List.getElem?_drop] at hv; exact hv
      · cases hv
  exact {
    fm := hm.fm.ext hx
    gs := hm.gs
    df := hm.df.ext hx
    hm := {
      ok := fun j hb hj => by
        rw [findH_cons] at hj
        by_cases e : st.nx = j
        · subst e; rw [updL_self] at hj; cases hj
          exact ⟨_, upd_self _ _ _, hok⟩
        · rw [updL_ne _ _ e] at hj
          obtain ⟨nm2, q1, q2⟩ := hk.hm.ok j hb hj
          exact ⟨nm2, by rw [upd_ne _ _ (Ne.symm e)]; exact q1, HBok_ext hx q2⟩
      sep := fun i j x y n₁ n₂ b q1 q2 l1 l2 r1 r2 o1 o2 => by
        rw [findH_cons] at q1 q2
        by_cases e1 : st.nx = i <;> by_cases e2 : st.nx = j
        · exact e1.symm.trans e2
        · subst e1
          rw [updL_ne _ _ e2] at q2
          rw [upd_self] at r1; cases r1
          rw [upd_ne _ _ (Ne.symm e2)] at r2
          cases o1
          exact absurd ⟨j, y, n₂, q2, l2, r2, o2⟩ hno
        · subst e2
          rw [updL_ne _ _ e1] at q1
          rw [upd_self] at r2; cases r2
          rw [upd_ne _ _ (Ne.symm e1)] at r1
          cases o2
          exact absurd ⟨i, x, n₁, q1, l1, r1, o1⟩ hno
        · rw [updL_ne _ _ e1] at q1; rw [updL_ne _ _ e2] at q2
          rw [upd_ne _ _ (Ne.symm e1)] at r1; rw [upd_ne _ _ (Ne.symm e2)] at r2
          exact hk.hm.sep i j x y n₁ n₂ b q1 q2 l1 l2 r1 r2 o1 o2
      ro := fun j s2 n2 get' nm2 b hj hn hr hb ho => by
        rw [findH_cons] at hj
        by_cases e : st.nx = j
        · subst e; rw [updL_self] at hj; cases hj
        rw [updL_ne _ _ e] at hj
        rw [upd_ne _ _ (Ne.symm e)] at hr
        rcases Own.cons hf ho with h | h
        · cases h
          have hj' : findH st.H j = some (.ro s2 n2 get') := by
            rw [findH_cons] at hj
            by_cases e2 : id = j
            · subst e2; rw [updL_self] at hj; cases hj
            · rw [updL_ne _ _ e2] at hj; exact hj
          exact hm.hm.ro j s2 n2 get' nm2 _ hj' hn hr hb hO
        · exact hk.hm.ro j s2 n2 get' nm2 b hj hn hr hb h
      fam := fun b hz ho => by
        rw [findH_cons] at hz
        have hz2 := hz.upd fun s C h => by cases h
        rcases Own.cons hf ho with h | h
        · cases h
          exact hm.hm.fam _ (hz2.upd fun s C h => by cases h) hO
        · exact hk.hm.fam b hz2 h }
    kp := {
      str := hk.kp.str
      size := hk.kp.size
      same := hk.kp.same
      own := fun b ho => by
        rcases Own.cons hf ho with h | h
        · cases h; exact hm.kp.own _ hO
        · exact hk.kp.own b h
      ext := hk.kp.ext.trans hx
      fz := fun b hz => hk.kp.fz b (by rw [findH_cons] at hz; exact hz.upd fun s C h => by cases h) }
    nx := fun j hj => by
      have : st.nx + 1 ≤ j := hj
      rw [upd_ne _ _ (by omega)]; exact hk.nx j (by show st.nx ≤ j; omega)
    sz := hk.sz }
end
end Go.X
end

section
set_option linter.unusedVariables false
set_option linter.unusedSimpArgs false
set_option linter.unusedSectionVars false
/- Arrays seen as slices of our own; method expressions called. -/
set_option linter.unusedVariables false
set_option linter.unusedSimpArgs false
set_option maxRecDepth 10000
namespace Go.X
open Go
section
variable {X : Cx} {ρ : Env} {st : St} {a : Act} {w : World}
def asVecK (id d n s : Nat) (get : Nat → List SV) (st : St) (Kst : St → Prop) : Prop :=
  match findH st.H id, findF st.F d with
  | some (.cells T cs), some ⟨[], .sp id' 0⟩ => id' = id ∧ cs.length = n * s ∧ 0 < n ∧ n ≤ maxLen ∧ (∀ i, i < n → (cs.drop (i * s)).take s = get i) ∧
      natF (st.nx + 1) fun nx' => Kst ⟨(d, ⟨[], .se st.nx 0 0⟩) :: st.F, st.gs, (st.nx, .vec T s n get) :: (id, .dead) :: st.H, nx', st.D⟩
  | _, _ => False
theorem asVec_ok {id d n s : Nat} {get : Nat → List SV} {Kst : St → Prop} (h : asVecK id d n s get st Kst) (hm : Mod X ρ st a w) : ∃ ρ' st', Mod X ρ' st' a w ∧ Kst st' := by
  unfold asVecK at h
  split at h
  · rename_i T cs id' h1 h2
    obtain ⟨rfl, hl, hn, hmx, hg, h⟩ := h
    rw [natF_eq] at h
    obtain ⟨nm, k1, k2⟩ := hm.hm.ok _ _ h1
    cases nm <;> simp only [HBok] at k2
    rename_i nm
    have hm' := hm.asVec h1 k1 hl hmx hg
    have hne : id' ≠ st.nx := by rintro rfl; rw [hm.nx _ (Nat.le_refl _)] at k1; cases k1
    exact ⟨_, _, hm'.reslot (d := d) (u := .sp id' 0) (u' := .se st.nx 0 0) h2 (by simp [den, upd_self, upd_ne _ _ hne, k1, hn]), h⟩
  · exact h.elim
theorem sem_asVec (id d n s : Nat) (get : Nat → List SV) {c : Code} {K : Ex → St → Prop} (h : asVecK id d n s get st fun st => SemC X c st K) : SemC X c st K :=
  fun ρ a w hm => let ⟨ρ', st', h1, h2⟩ := asVec_ok h hm; h2 ρ' a w h1
/-- An element of an array that is seen so. -/
theorem fb_indexA (id n s : Nat) (k : Int) {Tr d : Nat} {get : Nat → List SV} {kk : IntKind} {e : TypeId} {te : TI} {ops : List Oper} {i : Nat} {o : Oper} {r : List Oper} {Q : Exit → Act → World → Prop} {K : St → Prop} {Kp : List PanicEntry → St → Prop} {t : Nat} {x y : Operand} {ti : TI}
    (hX : X.Ok) (hC : Cont X Q K Kp) (hi : ops.drop i = o :: r) (hc : o.op = .indexAddr t x y) (hg : o.guard = none) (hp : putN st.gs X.nt o.dst = false) (hdst : o.dst = some d) (ht : X.T t = some ti) (hd : ti.desc = .array n e) (hte : X.T e = some te) (hs : te.size = s)
    (h1 : ev (findF st.F) [] x = some (.se id 0 0)) (h2 : ev (findF st.F) [] y = some (.si kk k)) (h3 : findH st.H id = some (.vec Tr s n get)) (hk : 0 ≤ k ∧ k < (n : Int))
    (h : stK st fun F gs H nx D => execL X ops Q K Kp (i + 1) r ⟨(d, ⟨[], .se id k 0⟩) :: F, gs, H, nx, D⟩) : FbO X ops Q K Kp i o r st := by
  refine fb_sem hX hC hi (by rw [hc]; intro c h; cases h) hg fun ρ a w hm => ?_
  have hss : GPsat a [] := fun x hx => by cases hx
  have e1 := ev_ok hm.fm hss h1
  have e2 := ev_ok hm.fm hss h2
  obtain ⟨nm, k1, k2⟩ := hm.hm.ok _ _ h3
  have hn0 : 0 < n := by omega
  have hkn : k.toNat < n := by omega
  cases nm <;> simp only [HBok] at k2
  · obtain ⟨_, _, _, rfl, _⟩ := k2; omega
  rename_i b n' c s'
  obtain ⟨rfl, rfl, _⟩ := k2
  simp only [den, k1, Int.toNat_zero, hn0, if_true, Nat.zero_mul, Nat.zero_add, Option.some.injEq] at e1
  simp only [den, Option.some.injEq] at e2
  have hrun := indexAt_array_ok (P := X.P) hX.tab ht hd hte (k := kk) hk ⟨b, 0, none⟩ w
  refine ⟨.pointer (some ⟨b, k.toNat * s' + 0, none⟩), w, ρ, _, .inl ?_, hm.put (d := o.dst) (s := .se id k 0) hp (by simp only [den, k1, hkn, if_true]), ?_⟩
  · simp only [execOp, hc, ← e1, ← e2]
    rw [hs] at hrun
    have : (⟨b, 0, none⟩ : Addr).add (k.toNat * s') = ⟨b, k.toNat * s' + 0, none⟩ := by rw [add_mk, Nat.zero_add, Nat.add_zero]
    rw [this] at hrun
    exact run_v hrun
  · rw [stK_eq] at h; rw [hdst]; exact h
theorem vec_flat {w : World} {cells : List Value} {s n : Nat} {get : Nat → List SV} (h : ∀ i, i < n → ∃ vs : List Value, denL ρ (get i) = some vs ∧ vs.all (·.oneCell') = true ∧ vs.length = s ∧ ∀ (j : Nat) (v : Value), vs[j]? = some v → cells[i * s + j]? = some v) :
    ∀ (m : Nat), m ≤ n → ∃ vs : List Value, denL ρ ((List.range m).flatMap get) = some vs ∧ vs.all (·.oneCell') = true ∧ vs.length = m * s ∧ ∀ (j : Nat) (v : Value), vs[j]? = some v → cells[j]? = some v
  | 0, _ => ⟨[], rfl, rfl, by simp, fun j v h => by simp at h⟩
  | m + 1, hm => by
    obtain ⟨vs, h1, h2, h3, h4⟩ := vec_flat (w := w) h m (by omega)
    obtain ⟨us, g1, g2, g3, g4⟩ := h m (by omega)
    refine ⟨vs ++ us, ?_, ?_, ?_, fun j v hv => ?_⟩
    · rw [List.range_succ, List.flatMap_append, List.flatMap_singleton]
      exact denL_append h1 g1
    · rw [List.all_append, h2, g2]; rfl
    · rw [List.length_append, h3, g3, Nat.add_mul, Nat.one_mul]
    · rw [List.getElem?_append] at hv
      split at hv
      · exact h4 j v hv
      · have := g4 _ v hv
        rwa [h3, show m * s + (j - m * s) = j by omega] at this
/-- The whole array is loaded. -/
theorem fb_loadA (id n s : Nat) {Tr d : Nat} {get : Nat → List SV} {u : SV} {ops : List Oper} {i : Nat} {o : Oper} {r : List Oper} {Q : Exit → Act → World → Prop} {K : St → Prop} {Kp : List PanicEntry → St → Prop} {t : Nat} {x : Operand} {ti : TI}
    (hX : X.Ok) (hC : Cont X Q K Kp) (hi : ops.drop i = o :: r) (hc : o.op = .load t x) (hg : o.guard = none) (hp : putN st.gs X.nt o.dst = false) (hdst : o.dst = some d) (ht : X.T t = some ti)
    (h1 : ev (findF st.F) [] x = some (.se id 0 0)) (h3 : findH st.H id = some (.vec Tr s n get)) (hn : 0 < n) (hl : loadC (aggD ti.desc) ti.size 0 ((List.range n).flatMap get) = some u)
    (h : stK st fun F gs H nx D => execL X ops Q K Kp (i + 1) r ⟨(d, ⟨[], u⟩) :: F, gs, H, nx, D⟩) : FbO X ops Q K Kp i o r st := by
  refine fb_sem hX hC hi (by rw [hc]; intro c h; cases h) hg fun ρ a w hm => ?_
  have hss : GPsat a [] := fun x hx => by cases hx
  have e1 := ev_ok hm.fm hss h1
  obtain ⟨nm, k1, k2⟩ := hm.hm.ok _ _ h3
  cases nm <;> simp only [HBok] at k2
  · obtain ⟨_, _, _, rfl, _⟩ := k2; omega
  rename_i b n' c s'
  obtain ⟨rfl, rfl, hcap, cells, c1, c2, c3⟩ := k2
  simp only [den, k1, Int.toNat_zero, hn, if_true, Nat.zero_mul, Nat.zero_add, Option.some.injEq] at e1
  obtain ⟨vs, g1, g2, g3, g4⟩ := vec_flat (w := w) c3 n' (Nat.le_refl _)
  obtain ⟨v, q1, q2⟩ := loadVar_ok (w := w) (ad := ⟨b, 0, none⟩) hX.tab ht hl g1 g2 (fun j v hv => by
    rw [Nat.zero_add] at hv
    rw [add_zero_mk]
    simp only [World.cell?, c1, List.getElem?_toArray]
    exact g4 j v hv)
  refine ⟨v, w, ρ, _, .inl ?_, hm.put (d := o.dst) (s := u) hp q2, ?_⟩
  · simp only [execOp, hc, ← e1]
    exact run_v (by simpa [Instr.loadAt, Instr.sureAddr, Result.andThen] using q1)
  · rw [stK_eq] at h; rw [hdst]; exact h
/-- A method expression of an interface is called. -/
theorem fb_callMO (n : Nat) {it : TypeId} {ms : Array (String × TypeId)} {ops : List Oper} {i : Nat} {o : Oper} {r : List Oper} {Q : Exit → Act → World → Prop} {K : St → Prop} {Kp : List PanicEntry → St → Prop} {c : Call} {f : Operand} {name : String} {t : TypeId} {v : SV} {args : List SV} {ti : TI} (hX : X.Ok)
    (hC : Cont X Q K Kp) (hi : ops.drop i = o :: r) (hc : o.op = .call c) (hcl : c.callee = .value f) (hg : o.guard = none) (hp : putN st.gs X.nt o.dst = false)
    (h1 : ev (findF st.F) [] f = some (.fn (.methodOf it name) [] [])) (h2 : argsOf (findF st.F) [] c.args.toList = some (.ifc t v :: args)) (ht : X.T it = some ti) (hit : ti.desc = .interface ms) (hm : MethOk X.P t name n) (hbody : Body X.P n)
    (h : CallS X.P n (v :: args) st.H st.nx (fun v H' nx' => putSt st o.dst v H' nx' (execL X ops Q K Kp (i + 1) r)) (fun ch H' nx' => Kp ch ⟨st.F, st.gs, H', nx', st.D⟩)) : FbO X ops Q K Kp i o r st := by
  refine ⟨fun ρ a w hmod => ?_⟩
  have hs : GPsat a [] := fun x hx => by cases hx
  have e1 := ev_ok hmod.fm hs h1
  have hl := argsOf_ok hmod.fm hs h2
  simp only [den, denL, Option.some.injEq] at e1
  obtain ⟨u, vs, hu, hvs, hal⟩ : ∃ u vs, den ρ v = some u ∧ denL ρ args = some vs ∧ c.args.toList.map a.eval = .iface t u :: vs := by
    simp only [denL, den] at hl
    cases e : den ρ v with
    | none => simp [e] at hl
    | some u =>
      cases e2 : denL ρ args with
      | none => simp [e, e2] at hl
      | some vs => simp only [e, e2, Option.some.injEq] at hl; exact ⟨u, vs, rfl, rfl, hl.symm⟩
  have hd : denL ρ (v :: args) = some (u :: vs) := denL_mk hu hvs
  have hargs : c.args.map a.eval = (Value.iface t u :: vs).toArray := by
    apply Array.ext'
    rw [Array.toList_map, hal]
  have hrun : (do let d ← resolve a.eval c o.type; invoke d.target d.args : Sem Next).run X.P w = .ok (.enter n (u :: vs).toArray) w := by
    have hres : (resolve a.eval c o.type).run X.P w = .ok { target := .fn (.methodOf it name) #[], args := (Value.iface t u :: vs).toArray } w := by
      simp only [resolve, hcl, ← e1, hargs, Deferred.ofValue, Array.empty_append]
      rfl
    rw [Sem.run_bind, hres]
    have hmm := hm u w
    have he : (#[u] ++ vs.toArray) = (u :: vs).toArray := by apply Array.ext'; simp
    have hb2 := hbody (u :: vs).toArray w
    have hcm : (callMethod (.iface t u) name vs.toArray).run X.P w = .ok (.enter n (u :: vs).toArray) w := by
      have hpg : (program).run X.P w = .ok X.P w := rfl
      simp only [callMethod, Sem.run_bind, hpg, Result.andThen, hmm]
      rw [he]
      exact hb2
    have h3 : ((Value.iface t u :: vs).toArray.extract 1 (Value.iface t u :: vs).toArray.size) = vs.toArray := by
      apply Array.ext'
      rw [Array.toList_extract]
      simp
    have h0 : (Value.iface t u :: vs).toArray[0]? = some (.iface t u) := rfl
    simp only [Result.andThen, invoke, h0, Sem.run_bind, run_und hX.tab ht, hit, h3]
    exact hcm
  have ho : ops[i]? = some o := by
    have := congrArg (fun l => l[0]?) hi
    simpa using this
  have hd' : ops.drop (i + 1) = r := by
    have := congrArg List.tail hi
    simpa using this
  rw [List.range'_succ]
  refine wpOps_cons (by simpa using ho) (fun _ => ?_) (fun hw => by rw [guard_none hg] at hw; cases hw)
  refine wpIn_call (by rw [hc]; intro c' hc'; cases hc') (by simp only [execOp, hc]; exact hrun) (h ρ w _ hmod.hm hmod.nx hd) ?_
  rintro e w' (⟨v, H', nx', ρ', u, rfl, h1, h2, h3, h4, h5⟩ | ⟨ch, H', nx', ρ', rfl, h2, h3, h4, h5⟩)
  · have hm' := (hmod.call h2 h3 h4).put (d := o.dst) hp h1
    refine execL_ok hX hC.k hC.p r (i + 1) ρ' _ _ w' hd' ?_ hm'
    cases hdst : o.dst with
    | none => rw [hdst] at h5; cases st; exact h5
    | some d => rw [hdst] at h5; cases st; exact h5
  · exact hC.p ch ρ' _ _ w' (hmod.call h2 h3 h4) h5
/-- An element of a part of a row. -/
theorem fb_indexP (id q len tot s n : Nat) (k : Int) {Tr d : Nat} {xs : List SV} {kk : IntKind} {e : TypeId} {te : TI} {ops : List Oper} {i : Nat} {o : Oper} {r : List Oper} {Q : Exit → Act → World → Prop} {K : St → Prop} {Kp : List PanicEntry → St → Prop} {t : Nat} {x y : Operand} {ti : TI}
    (hX : X.Ok) (hC : Cont X Q K Kp) (hi : ops.drop i = o :: r) (hc : o.op = .indexAddr t x y) (hg : o.guard = none) (hp : putN st.gs X.nt o.dst = false) (hdst : o.dst = some d) (ht : X.T t = some ti) (hd : ti.desc = .slice e) (hte : X.T e = some te) (hs : te.size = s) (hs0 : 0 < s)
    (h1 : ev (findF st.F) [] x = some (.ss id (q * s) len tot)) (h2 : ev (findF st.F) [] y = some (.si kk k)) (h3 : findH st.H id = some (.row Tr s n xs)) (hk : 0 ≤ k ∧ k < (len : Int)) (hq : q + len ≤ n)
    (h : stK st fun F gs H nx D => execL X ops Q K Kp (i + 1) r ⟨(d, ⟨[], .se id ((q : Int) + k) 0⟩) :: F, gs, H, nx, D⟩) : FbO X ops Q K Kp i o r st := by
  refine fb_sem hX hC hi (by rw [hc]; intro c h; cases h) hg fun ρ a w hm => ?_
  have hss : GPsat a [] := fun x hx => by cases hx
  have e1 := ev_ok hm.fm hss h1
  have e2 := ev_ok hm.fm hss h2
  obtain ⟨nm, k1, k2⟩ := hm.hm.ok _ _ h3
  cases nm <;> simp only [HBok] at k2
  rename_i b n' c s'
  obtain ⟨rfl, rfl, hcap, _⟩ := k2
  have hle : q * s' + len * s' ≤ n' * s' := by rw [← Nat.add_mul]; exact Nat.mul_le_mul_right _ hq
  have hdiv : q * s' / s' = q := Nat.mul_div_cancel _ hs0
  have hcq : ¬ c - q = 0 := by omega
  simp only [den, k1, partOf, hdiv] at e1
  rw [if_pos ⟨hle, hs0⟩, if_neg hcq] at e1
  simp only [Option.some.injEq] at e1
  simp only [den, Option.some.injEq] at e2
  have hkn : ((q : Int) + k).toNat < n' := by omega
  have hrun := indexAt_slice_ok (P := X.P) hX.tab ht hd hte (k := kk) (c := c - q) hk ⟨b, q * s', none⟩ w
  have hmul : ((q : Int) + k).toNat * s' = q * s' + k.toNat * s' := by
    rw [show ((q : Int) + k).toNat = q + k.toNat by omega, Nat.add_mul]
  refine ⟨.pointer (some ⟨b, ((q : Int) + k).toNat * s' + 0, none⟩), w, ρ, _, .inl ?_, hm.put (d := o.dst) (s := .se id ((q : Int) + k) 0) hp (by simp only [den, k1, hkn, if_true]), ?_⟩
  · simp only [execOp, hc, ← e1, ← e2]
    rw [hs] at hrun
    have : (⟨b, q * s', none⟩ : Addr).add (k.toNat * s') = ⟨b, ((q : Int) + k).toNat * s' + 0, none⟩ := by rw [add_mk, hmul, Nat.add_zero]
    rw [this] at hrun
    exact run_v hrun
  · rw [stK_eq] at h; rw [hdst]; exact h
end
end Go.X
end

section
set_option linter.unusedVariables false
set_option linter.unusedSimpArgs false
set_option linter.unusedSectionVars false
/- Wear: the small functions. -/
set_option linter.unusedVariables false
set_option linter.unusedSimpArgs false
set_option maxRecDepth 10000
set_option maxHeartbeats 4000000
namespace Go.X.Wr
open Go Go.Proofs Go.X

noncomputable abbrev P : Program := Tryd.prog
def pl : List Nat := [24, 55, 94]
theorem pl_ok : PlainOk P pl := by
  intro t ht
  simp only [pl, List.mem_cons, List.not_mem_nil, or_false] at ht
  rcases ht with rfl | rfl | rfl <;> exact ⟨by kernel_rfl, by kernel_rfl, by decide⟩
noncomputable abbrev T : Tab := tabP P pl
theorem fol : P.follows .mixedOrders = true := by kernel_rfl
theorem good0 : Good P T [] := ⟨tabP_ok pl_ok, fun p h => by cases h⟩
def code (f : Func) : Code := match f.body with
  | some c => c
  | none => .skip

abbrev Sp := Int × Int
def spC (s : Sp) : List SV := [.si .i64 s.1, .si .i64 s.2]
def noneS : Sp := (1048576, -1048576)
def bothV (a b : Sp) : Sp := if max a.1 b.1 ≤ min a.2 b.2 then (max a.1 b.1, min a.2 b.2) else noneS
def lessV (k s : Sp) : Sp := (k.1 - s.2, k.2 - s.1)
def moreV (k s : Sp) : Sp := (k.1 + s.1, k.2 + s.2)
def isSp (a b lo hi : Int) : Bool := decide (lo ≤ a) && decide (a ≤ b) && decide (b ≤ hi)

def c19 : Ct := plainCt fun
  | [.si .i64 n, .si .i64 lo, .si .i64 hi] => some ⟨none, none, .sb (decide (lo ≤ n) && decide (n ≤ hi)), []⟩
  | _ => none
theorem k19 {l : List (Nat × Ct)} (g : Good P T l) : COk P 19 c19 := by
  refine cok (C := tabC _) g.ok Tryd.func19 (c := code Tryd.f19) rfl fun fr args H out h hp => ?_
  simp only [c19, plainCt] at h
  split at h
  · cases h
    exact walk_plain rfl (Nat.le_of_ble_eq_true rfl) fun G hG => ⟨.inl rfl, end_plain rfl rfl rfl⟩
  · cases h
theorem g19 {l : List (Nat × Ct)} (g : Good P T l) : Good P T ((19, c19) :: l) := g.add (k19 g) (plainCt_mono _) (body_of Tryd.func19 (c := code Tryd.f19) rfl (by decide))
theorem k35 {l : List (Nat × Ct)} (g : Good P T l) : COk P 35 c19 := by
  refine cok (C := tabC _) g.ok Tryd.func35 (c := code Tryd.f35) rfl fun fr args H out h hp => ?_
  simp only [c19, plainCt] at h
  split at h
  · cases h
    exact walk_plain rfl (Nat.le_of_ble_eq_true rfl) fun G hG => ⟨.inl rfl, end_plain rfl rfl rfl⟩
  · cases h
theorem g35 {l : List (Nat × Ct)} (g : Good P T l) : Good P T ((35, c19) :: l) := g.add (k35 g) (plainCt_mono _) (body_of Tryd.func35 (c := code Tryd.f35) rfl (by decide))
def c36 : Ct := plainCt fun
  | [.agg [.si .i64 a, .si .i64 b], .si .i64 lo, .si .i64 hi] => some ⟨none, none, .sb (isSp a b lo hi), []⟩
  | _ => none
theorem k36 {l : List (Nat × Ct)} (g : Good P T l) : COk P 36 c36 := by
  refine cok (C := tabC _) g.ok Tryd.func36 (c := code Tryd.f36) rfl fun fr args H out h hp => ?_
  simp only [c36, plainCt] at h
  split at h
  · cases h
    exact walk_plain rfl (Nat.le_of_ble_eq_true rfl) fun G hG => ⟨.inl rfl, end_plain rfl rfl rfl⟩
  · cases h
theorem g36 {l : List (Nat × Ct)} (g : Good P T l) : Good P T ((36, c36) :: l) := g.add (k36 g) (plainCt_mono _) (body_of Tryd.func36 (c := code Tryd.f36) rfl (by decide))
theorem k15 {l : List (Nat × Ct)} (g : Good P T l) : COk P 15 c36 := by
  refine cok (C := tabC _) g.ok Tryd.func15 (c := code Tryd.f15) rfl fun fr args H out h hp => ?_
  simp only [c36, plainCt] at h
  split at h
  · cases h
    exact walk_plain rfl (Nat.le_of_ble_eq_true rfl) fun G hG => ⟨.inl rfl, end_plain rfl rfl rfl⟩
  · cases h
theorem g15 {l : List (Nat × Ct)} (g : Good P T l) : Good P T ((15, c36) :: l) := g.add (k15 g) (plainCt_mono _) (body_of Tryd.func15 (c := code Tryd.f15) rfl (by decide))
def c28 : Ct := plainCt fun
  | [.si .i64 n] => some ⟨none, none, .sb (decide (-1000 ≤ n) && decide (n ≤ 1000)), []⟩
  | _ => none
theorem k28 {l : List (Nat × Ct)} (g0 : Good P T l) : COk P 28 c28 := by
  have g := g19 g0
  refine cok (C := tabC _) g.ok Tryd.func28 (c := code Tryd.f28) rfl fun fr args H out h hp => ?_
  simp only [c28, plainCt] at h
  split at h
  · cases h
    exact walk_plain rfl (Nat.le_of_ble_eq_true rfl) fun G hG => ⟨.inl rfl, end_plain rfl rfl rfl⟩
  · cases h
theorem g28 {l : List (Nat × Ct)} (g : Good P T l) : Good P T ((28, c28) :: l) := g.add (k28 g) (plainCt_mono _) (body_of Tryd.func28 (c := code Tryd.f28) rfl (by decide))
def refP (e : Int) : List PanicEntry := [{ v := .iface 86 (.int .i64 e), recovered := false }]
def c30 : Ct := plainCt fun
  | [.sb b, .si .i64 e] => some ⟨none, some (!b, refP e), .tup [], []⟩
  | _ => none
theorem k30 {l : List (Nat × Ct)} (g : Good P T l) : COk P 30 c30 := by
  refine cok (C := tabC _) g.ok Tryd.func30 (c := code Tryd.f30) rfl fun fr args H out h hp => ?_
  simp only [c30, plainCt] at h
  split at h
  · rename_i b e
    cases h
    refine walk_plain rfl (Nat.le_of_ble_eq_true rfl) fun G hG => ?_
    refine Br.mk (fun h => ?_) (fun h => ?_)
    · refine fb_panic cont_std rfl rfl rfl ?_
      exact ⟨by rw [h]; rfl, trivial⟩
    · exact ⟨.inr ⟨_, by rw [h]⟩, end_plain trivial rfl rfl⟩
  · cases h
theorem g30 {l : List (Nat × Ct)} (g : Good P T l) : Good P T ((30, c30) :: l) := g.add (k30 g) (plainCt_mono _) (body_of Tryd.func30 (c := code Tryd.f30) rfl (by decide))
theorem answer_ok : AnswerOk P 17 86 35 := by
  refine answer_of (T := T) (tabP_ok pl_ok) Tryd.func17 rfl (by decide) rfl rfl rfl rfl rfl rfl rfl rfl (by decide) (by decide) (by decide) (by decide) (by decide) ?_ ?_
  · intro x G hG
    refine Br.mk (fun h => by cases h) (fun _ => rfl)
  · intro x k m G hG
    refine Br.mk (fun _ => ?_) (fun h => by cases h)
    refine Br.mk (fun h => by cases h) (fun _ => rfl)
def c53 : Ct := plainCt fun
  | [.agg [.si .i64 a, .si .i64 b]] => some ⟨none, none, .sb (decide (a ≤ b)), []⟩
  | _ => none
theorem k53 {l : List (Nat × Ct)} (g : Good P T l) : COk P 53 c53 := by
  refine cok (C := tabC _) g.ok Tryd.func53 (c := code Tryd.f53) rfl fun fr args H out h hp => ?_
  simp only [c53, plainCt] at h
  split at h
  · cases h
    exact walk_plain rfl (Nat.le_of_ble_eq_true rfl) fun G hG => ⟨.inl rfl, end_plain rfl rfl rfl⟩
  · cases h
theorem g53 {l : List (Nat × Ct)} (g : Good P T l) : Good P T ((53, c53) :: l) := g.add (k53 g) (plainCt_mono _) (body_of Tryd.func53 (c := code Tryd.f53) rfl (by decide))
/-- A number of what is known. -/
def kB (n : Int) : Prop := -10000000 ≤ n ∧ n ≤ 10000000
def c101 (f : Sp → Sp → Sp) : Ct := plainCt fun
  | [.agg [.si .i64 a, .si .i64 b], .agg [.si .i64 c, .si .i64 d]] => some ⟨some (kB a ∧ kB b ∧ kB c ∧ kB d), none, .agg (spC (f (a, b) (c, d))), []⟩
  | _ => none
theorem k101 {l : List (Nat × Ct)} (g : Good P T l) : COk P 101 (c101 lessV) := by
  refine cok (C := tabC _) g.ok Tryd.func101 (c := code Tryd.f101) rfl fun fr args H out h hp => ?_
  simp only [c101, plainCt] at h
  split at h
  · rename_i a b c d
    cases h
    obtain ⟨⟨h1, h2⟩, ⟨h3, h4⟩, ⟨h5, h6⟩, h7, h8⟩ : kB a ∧ kB b ∧ kB c ∧ kB d := hp
    exact walk_plain rfl (Nat.le_of_ble_eq_true rfl) fun G hG => Chk.mk (show InK .i64 (a - d) from ⟨by omega, by omega⟩) (Chk.mk (show InK .i64 (b - c) from ⟨by omega, by omega⟩) ⟨.inl rfl, end_plain ⟨⟨rfl, rfl⟩, ⟨rfl, rfl⟩, trivial⟩ rfl rfl⟩)
  · cases h
theorem g101 {l : List (Nat × Ct)} (g : Good P T l) : Good P T ((101, c101 lessV) :: l) := g.add (k101 g) (plainCt_mono _) (body_of Tryd.func101 (c := code Tryd.f101) rfl (by decide))
theorem k102 {l : List (Nat × Ct)} (g : Good P T l) : COk P 102 (c101 moreV) := by
  refine cok (C := tabC _) g.ok Tryd.func102 (c := code Tryd.f102) rfl fun fr args H out h hp => ?_
  simp only [c101, plainCt] at h
  split at h
  · rename_i a b c d
    cases h
    obtain ⟨⟨h1, h2⟩, ⟨h3, h4⟩, ⟨h5, h6⟩, h7, h8⟩ : kB a ∧ kB b ∧ kB c ∧ kB d := hp
    exact walk_plain rfl (Nat.le_of_ble_eq_true rfl) fun G hG => Chk.mk (show InK .i64 (a + c) from ⟨by omega, by omega⟩) (Chk.mk (show InK .i64 (b + d) from ⟨by omega, by omega⟩) ⟨.inl rfl, end_plain ⟨⟨rfl, rfl⟩, ⟨rfl, rfl⟩, trivial⟩ rfl rfl⟩)
  · cases h
theorem g102 {l : List (Nat × Ct)} (g : Good P T l) : Good P T ((102, c101 moreV) :: l) := g.add (k102 g) (plainCt_mono _) (body_of Tryd.func102 (c := code Tryd.f102) rfl (by decide))
theorem k99 {l : List (Nat × Ct)} (g0 : Good P T l) : COk P 99 (c101 fun s k => lessV k s) := by
  have g := g101 g0
  refine cok (C := tabC _) g.ok Tryd.func99 (c := code Tryd.f99) rfl fun fr args H out h hp => ?_
  simp only [c101, plainCt] at h
  split at h
  · rename_i a b c d
    cases h
    obtain ⟨h1, h2, h3, h4⟩ : kB a ∧ kB b ∧ kB c ∧ kB d := hp
    exact walk_plain rfl (Nat.le_of_ble_eq_true rfl) fun G hG => Chk.mk ⟨h3, h4, h1, h2⟩ ⟨.inl rfl, end_plain ⟨⟨rfl, rfl⟩, ⟨rfl, rfl⟩, trivial⟩ rfl rfl⟩
  · cases h
def c103 : Ct := plainCt fun
  | [.agg [], .agg [.si .i64 a, .si .i64 b]] => some ⟨none, none, .agg (spC (a, b)), []⟩
  | _ => none
theorem k104 {l : List (Nat × Ct)} (g : Good P T l) : COk P 104 c103 := by
  refine cok (C := tabC _) g.ok Tryd.func104 (c := code Tryd.f104) rfl fun fr args H out h hp => ?_
  simp only [c103, plainCt] at h
  split at h
  · cases h
    exact walk_plain rfl (Nat.le_of_ble_eq_true rfl) fun G hG => ⟨.inl rfl, end_plain ⟨⟨rfl, rfl⟩, ⟨rfl, rfl⟩, trivial⟩ rfl rfl⟩
  · cases h
end Go.X.Wr
end

section
set_option linter.unusedVariables false
set_option linter.unusedSimpArgs false
set_option linter.unusedSectionVars false
/- Wear: both. -/
set_option linter.unusedVariables false
set_option linter.unusedSimpArgs false
set_option maxRecDepth 10000
set_option maxHeartbeats 4000000
namespace Go.X.Wr
open Go Go.Proofs Go.X

/-- The package variable that holds none. -/
def gF : Value → Nat → (Nat → List SV) → Prop := fun v n get => v = .slice (some ⟨0, 0, none⟩) 1 1 ∧ n = 1 ∧ get = fun _ => spC noneS
def kbS (s : Sp) : Prop := kB s.1 ∧ kB s.2
theorem b56 : Body P 56 := body_of Tryd.func56 (c := code Tryd.f56) rfl (by decide)
def bH (a b : Sp) : List (Nat × HB) := [(0, .fam 2 gF), (1, .row 55 2 2 [.si .i64 a.1, .si .i64 a.2, .si .i64 b.1, .si .i64 b.2])]
def l56 (a b : Sp) : Bool → List (Nat × FE)
  | false => [(2, ⟨[], .sp 2 0⟩), (3, ⟨[], .sp 3 0⟩), (10, ⟨[], .ss 1 2 1 0⟩), (11, ⟨[], .si .i64 1⟩), (12, ⟨[], .si .i64 0⟩)]
  | true => [(2, ⟨[], .sp 2 0⟩), (3, ⟨[], .sp 3 0⟩), (10, ⟨[], .ss 1 2 1 0⟩), (11, ⟨[], .si .i64 1⟩), (12, ⟨[], .si .i64 1⟩)]
def m56 (a b : Sp) : Bool → List (Nat × HB)
  | false => (3, .cells 55 [.si .i64 a.1, .si .i64 a.2]) :: (2, .cells 55 [.si .i64 0, .si .i64 0]) :: bH a b
  | true => (3, .cells 55 [.si .i64 (max a.1 b.1), .si .i64 (min a.2 b.2)]) :: (2, .cells 55 [.si .i64 0, .si .i64 0]) :: bH a b
theorem s56 {a b : Sp} (ha : kbS a) (hb : kbS b) {Rv : SV → List (Nat × HB) → Nat → Prop} {Rp : List PanicEntry → List (Nat × HB) → Nat → Prop}
    (hRv : Rv (.agg (spC (bothV a b))) (bH a b) 2) : CallS P 56 [.sl 1] (bH a b) 2 Rv Rp := by
  have g := g53 good0
  refine callS_toE (ι := Unit) g.ok Tryd.func56 (c := code Tryd.f56) rfl (Nat.le_of_ble_eq_true rfl) (fun _ => .agg (spC (bothV a b))) (fun x => bH a b) 2 (fun G hG => ?_) (fun x => hRv)
  refine Chk.mk ⟨by decide, by decide⟩ ?_
  refine Chk.mk ⟨by decide, by decide, by decide, by decide, by decide⟩ ?_
  refine loop_okR (g.ok _ _ _) 2 (fun x : Bool => ⟨l56 a b x, [], m56 a b x, 4, []⟩) (fun x => match x with | false => 1 | true => 0) hG false (fun j => j) ?_ ?_
  · refine ⟨?_, ?_, rfl, rfl, rfl, rfl, trivial⟩ <;> repeat' (first | exact trivial | exact rfl | (intro i hi; exact ⟨rfl, rfl⟩) | (intro v m g h; exact h) | refine And.intro ?_ ?_)
  rintro (_ | _)
  · refine Br.mk (fun _ => ?_) (fun h => by cases h)
    refine fb_indexP 1 1 1 0 2 2 0 (g.ok _ _ _) cont_std rfl rfl rfl rfl rfl rfl rfl rfl rfl (by decide) rfl rfl rfl ⟨by decide, by decide⟩ (by decide) ?_
    refine Chk.mk (show InK .i64 (0 + 1) from ⟨by decide, by decide⟩) ⟨true, (fun j => j), ?_, by decide⟩
    refine ⟨?_, ?_, rfl, rfl, rfl, rfl, trivial⟩ <;> repeat' (first | exact trivial | exact rfl | (intro i hi; exact ⟨rfl, rfl⟩) | (intro v m g h; exact h) | refine And.intro ?_ ?_)
  · refine Br.mk (fun h => by cases h) (fun _ => ?_)
    refine Br.mk (fun h => ?_) (fun h => ?_)
    · have h : (!decide (max a.1 b.1 ≤ min a.2 b.2)) = true := h
      have h : ¬ max a.1 b.1 ≤ min a.2 b.2 := by simpa using h
      refine fb_loadG 0 0 1 1 2 (fun _ => spC noneS) (.agg (spC noneS)) (g.ok _ _ _) cont_std rfl rfl rfl rfl rfl rfl rfl ⟨rfl, rfl, rfl⟩ (by decide) rfl rfl ?_
      have e : bothV a b = noneS := by unfold bothV; rw [if_neg h]
      refine ⟨(), (fun j => j), ?_, ?_, rfl, rfl, rfl, rfl⟩
      · repeat' (first | exact trivial | exact rfl | (intro i hi; exact ⟨rfl, rfl⟩) | (intro v m g h; exact h) | refine And.intro ?_ ?_)
      · rw [e]; repeat' (first | exact trivial | exact rfl | refine And.intro ?_ ?_)
    · have h : (!decide (max a.1 b.1 ≤ min a.2 b.2)) = false := h
      have h : max a.1 b.1 ≤ min a.2 b.2 := by simpa using h
      have e : bothV a b = (max a.1 b.1, min a.2 b.2) := by unfold bothV; rw [if_pos h]
      refine ⟨(), (fun j => j), ?_, ?_, rfl, rfl, rfl, rfl⟩
      · repeat' (first | exact trivial | exact rfl | (intro i hi; exact ⟨rfl, rfl⟩) | (intro v m g h; exact h) | refine And.intro ?_ ?_)
      · rw [e]; repeat' (first | exact trivial | exact rfl | refine And.intro ?_ ?_)
end Go.X.Wr
end

section
set_option linter.unusedVariables false
set_option linter.unusedSimpArgs false
set_option linter.unusedSectionVars false
/- Wear: what events do. -/
set_option linter.unusedVariables false
set_option linter.unusedSimpArgs false
set_option maxRecDepth 10000
set_option maxHeartbeats 4000000
namespace Go.X.Wr
open Go Go.Proofs Go.X

inductive Ef where
  | tk (s : Sp)
  | rd (s : Sp)
  | no
def efT : Ef → Nat
  | .tk _ => 161
  | .rd _ => 165
  | .no => 163
def efV : Ef → SV
  | .tk s => .agg (spC s)
  | .rd s => .agg (spC s)
  | .no => .agg []
def efS (e : Ef) : SV := .ifc (efT e) (efV e)
def aftV : Ef → Sp → Sp
  | .tk s, k => lessV k s
  | .rd s, k => bothV k s
  | .no, k => k
def befV : Ef → Sp → Sp
  | .tk s, k => moreV k s
  | .rd s, k => bothV k s
  | .no, k => k
def efOk : Ef → Prop
  | .tk s => kbS s
  | .rd s => kbS s
  | .no => True
def afF : Ef → Nat
  | .tk _ => 99
  | .rd _ => 105
  | .no => 103
def beF : Ef → Nat
  | .tk _ => 100
  | .rd _ => 106
  | .no => 104
theorem me_af (e : Ef) : MethOk P (efT e) "blockworks/wear.after" (afF e) := by
  cases e <;> exact meth_of' (by kernel_rfl)
theorem me_be (e : Ef) : MethOk P (efT e) "blockworks/wear.before" (beF e) := by
  cases e <;> exact meth_of' (by kernel_rfl)
theorem bd_af (e : Ef) : Body P (afF e) := by
  cases e
  · exact body_of Tryd.func99 (c := code Tryd.f99) rfl (by decide)
  · exact body_of Tryd.func105 (c := code Tryd.f105) rfl (by decide)
  · exact body_of Tryd.func103 (c := code Tryd.f103) rfl (by decide)
theorem bd_be (e : Ef) : Body P (beF e) := by
  cases e
  · exact body_of Tryd.func100 (c := code Tryd.f100) rfl (by decide)
  · exact body_of Tryd.func106 (c := code Tryd.f106) rfl (by decide)
  · exact body_of Tryd.func104 (c := code Tryd.f104) rfl (by decide)
def hG0 : List (Nat × HB) := [(0, .fam 2 gF)]
section
variable {k : Sp} {Rv : SV → List (Nat × HB) → Nat → Prop} {Rp : List PanicEntry → List (Nat × HB) → Nat → Prop}
theorem s_af (e : Ef) (he : efOk e) (hk : kbS k) (hRv : Rv (.agg (spC (aftV e k))) hG0 1) : CallS P (afF e) [efV e, .agg (spC k)] hG0 1 Rv Rp := by
  cases e with
  | tk s =>
    have g := g101 good0
    refine callS_toE (ι := Unit) g.ok Tryd.func99 (c := code Tryd.f99) rfl (Nat.le_of_ble_eq_true rfl) (fun _ => .agg (spC (lessV k s))) (fun x => hG0) 1 (fun G hG => ?_) (fun x => hRv)
    refine Chk.mk ⟨hk.1, hk.2, he.1, he.2⟩ ?_
    refine ⟨(), (fun j => j), ?_, ?_, rfl, rfl, rfl, rfl⟩ <;> repeat' (first | exact trivial | exact rfl | (intro v m g h; exact h) | refine And.intro ?_ ?_)
  | rd s =>
    have g := good0
    refine callS_toE (ι := Unit) g.ok Tryd.func105 (c := code Tryd.f105) rfl (Nat.le_of_ble_eq_true rfl) (fun _ => .agg (spC (bothV k s))) (fun x => hG0) 1 (fun G hG => ?_) (fun x => hRv)
    refine fb_call (g.ok _ _ _) cont_std rfl rfl rfl rfl ⟨b56, ?_⟩
    refine callS_at [.sl 1] (bH k s) 2 (fun j => match j with | 0 => 0 | _ => 4) (by repeat' (first | exact trivial | exact rfl | refine And.intro ?_ ?_)) rfl (by repeat' (first | exact trivial | exact rfl | (intro v m g h; exact h) | refine And.intro ?_ ?_)) rfl rfl ?_
    refine s56 hk he ⟨rfl, (by repeat' (first | exact trivial | exact rfl | refine And.intro ?_ ?_)), (by repeat' (first | exact trivial | exact rfl | refine And.intro ?_ ?_)), ?_⟩
    refine ⟨(), (fun j => j), ?_, ?_, rfl, rfl, rfl, rfl⟩ <;> repeat' (first | exact trivial | exact rfl | (intro v m g h; exact h) | refine And.intro ?_ ?_)
  | no =>
    have g := good0
    refine callS_toE (ι := Unit) g.ok Tryd.func103 (c := code Tryd.f103) rfl (Nat.le_of_ble_eq_true rfl) (fun _ => .agg (spC k)) (fun x => hG0) 1 (fun G hG => ?_) (fun x => hRv)
    refine ⟨(), (fun j => j), ?_, ?_, rfl, rfl, rfl, rfl⟩ <;> repeat' (first | exact trivial | exact rfl | (intro v m g h; exact h) | refine And.intro ?_ ?_)
theorem s_be (e : Ef) (he : efOk e) (hk : kbS k) (hRv : Rv (.agg (spC (befV e k))) hG0 1) : CallS P (beF e) [efV e, .agg (spC k)] hG0 1 Rv Rp := by
  cases e with
  | tk s =>
    have g := g102 good0
    refine callS_toE (ι := Unit) g.ok Tryd.func100 (c := code Tryd.f100) rfl (Nat.le_of_ble_eq_true rfl) (fun _ => .agg (spC (moreV k s))) (fun x => hG0) 1 (fun G hG => ?_) (fun x => hRv)
    refine Chk.mk ⟨hk.1, hk.2, he.1, he.2⟩ ?_
    refine ⟨(), (fun j => j), ?_, ?_, rfl, rfl, rfl, rfl⟩ <;> repeat' (first | exact trivial | exact rfl | (intro v m g h; exact h) | refine And.intro ?_ ?_)
  | rd s =>
    have g := good0
    refine callS_toE (ι := Unit) g.ok Tryd.func106 (c := code Tryd.f106) rfl (Nat.le_of_ble_eq_true rfl) (fun _ => .agg (spC (bothV k s))) (fun x => hG0) 1 (fun G hG => ?_) (fun x => hRv)
    refine fb_call (g.ok _ _ _) cont_std rfl rfl rfl rfl ⟨b56, ?_⟩
    refine callS_at [.sl 1] (bH k s) 2 (fun j => match j with | 0 => 0 | _ => 4) (by repeat' (first | exact trivial | exact rfl | refine And.intro ?_ ?_)) rfl (by repeat' (first | exact trivial | exact rfl | (intro v m g h; exact h) | refine And.intro ?_ ?_)) rfl rfl ?_
    refine s56 hk he ⟨rfl, (by repeat' (first | exact trivial | exact rfl | refine And.intro ?_ ?_)), (by repeat' (first | exact trivial | exact rfl | refine And.intro ?_ ?_)), ?_⟩
    refine ⟨(), (fun j => j), ?_, ?_, rfl, rfl, rfl, rfl⟩ <;> repeat' (first | exact trivial | exact rfl | (intro v m g h; exact h) | refine And.intro ?_ ?_)
  | no =>
    have g := good0
    refine callS_toE (ι := Unit) g.ok Tryd.func104 (c := code Tryd.f104) rfl (Nat.le_of_ble_eq_true rfl) (fun _ => .agg (spC k)) (fun x => hG0) 1 (fun G hG => ?_) (fun x => hRv)
    refine ⟨(), (fun j => j), ?_, ?_, rfl, rfl, rfl, rfl⟩ <;> repeat' (first | exact trivial | exact rfl | (intro v m g h; exact h) | refine And.intro ?_ ?_)
end
end Go.X.Wr
end

section
set_option linter.unusedVariables false
set_option linter.unusedSimpArgs false
set_option linter.unusedSectionVars false
/- Wear: a block that is looked at; an event of it; its readings. -/
set_option linter.unusedVariables false
set_option linter.unusedSimpArgs false
set_option maxRecDepth 10000
set_option maxHeartbeats 4000000
namespace Go.X.Wr
open Go Go.Proofs Go.X

structure Evn where
  kind : Int
  uses : Int
  lo : Int
  hi : Int
def evC (e : Evn) : List SV := [.si .i64 e.kind, .si .i64 e.uses, .si .i64 e.lo, .si .i64 e.hi]
/-- A block. -/
structure Wd where
  l1 : Int
  l2 : Int
  u1 : Int
  u2 : Int
  n : Nat
  ev : Nat → Evn
def evOk (e : Evn) : Bool := (decide (e.kind = 0) && (decide (0 ≤ e.uses) && decide (e.uses ≤ 20))) || (decide (e.kind = 1) && isSp e.lo e.hi (-1000) 1000) || (decide (e.kind = 2) && isSp e.lo e.hi 0 10)
def wdOk (w : Wd) : Bool := isSp w.l1 w.l2 0 300 && decide (w.l2 - w.l1 ≤ 20) && isSp w.u1 w.u2 0 3 && decide (w.n ≤ 8) && (List.range w.n).all fun i => evOk (w.ev i)
theorem evOk_b {e : Evn} (h : evOk e = true) : (e.kind = 0 ∧ 0 ≤ e.uses ∧ e.uses ≤ 20) ∨ (e.kind = 1 ∧ -1000 ≤ e.lo ∧ e.lo ≤ e.hi ∧ e.hi ≤ 1000) ∨ (e.kind = 2 ∧ 0 ≤ e.lo ∧ e.lo ≤ e.hi ∧ e.hi ≤ 10) := by
  unfold evOk isSp at h
  simp only [Bool.or_eq_true, Bool.and_eq_true, decide_eq_true_eq] at h
  omega
theorem wdOk_b {w : Wd} (h : wdOk w = true) : (0 ≤ w.l1 ∧ w.l1 ≤ w.l2 ∧ w.l2 ≤ 300 ∧ w.l2 - w.l1 ≤ 20) ∧ (0 ≤ w.u1 ∧ w.u1 ≤ w.u2 ∧ w.u2 ≤ 3) ∧ w.n ≤ 8 ∧ ∀ i, i < w.n → evOk (w.ev i) = true := by
  unfold wdOk isSp at h
  simp only [Bool.and_eq_true, decide_eq_true_eq, List.all_eq_true] at h
  obtain ⟨⟨⟨⟨h1, h2⟩, h3⟩, h4⟩, h5⟩ := h
  exact ⟨by omega, by omega, h4, fun i hi => h5 i (List.mem_range.2 hi)⟩
def ofV (w : Wd) (e : Evn) (bit : Bool) : Ef := if e.kind = 0 then .tk (e.uses * w.u1, e.uses * w.u2) else if e.kind = 2 then .tk (e.lo, e.hi) else if bit then .rd (e.lo, e.hi) else .no
structure Qn where
  reads : Nat
  lo : Int
  hi : Int
deriving DecidableEq
def evG (w : Wd) (i : Nat) : List SV := evC (w.ev i)
def bkS (w : Wd) (em : List (SV × SV)) : List (Nat × HB) := [(0, .fam 2 gF), (1, .vec 49 4 w.n (evG w)), (2, .mp em), (3, .cells 91 [.si .i64 w.l1, .si .i64 w.l2, .si .i64 w.u1, .si .i64 w.u2, .sl 1, .sm 2])]
theorem shr_bit {S k : Nat} : ((((S : Nat) : Int).fdiv (2 ^ (k : Int).toNat)).toNat &&& (1 : Int).toNat : Nat) = (S.testBit k).toNat := by
  have e2 : ((2 : Int) ^ k) = ((2 ^ k : Nat) : Int) := by rw [Int.natCast_pow]; rfl
  rw [Int.toNat_natCast, e2, Int.fdiv_eq_ediv_of_nonneg _ (Int.natCast_nonneg _), ← Int.natCast_ediv, Int.toNat_natCast]
  show S / 2 ^ k &&& 1 = _
  rw [Nat.and_one_is_mod, ← Nat.shiftRight_eq_div_pow, Nat.testBit, Nat.and_comm, Nat.and_one_is_mod]
  rcases Nat.mod_two_eq_zero_or_one (S >>> k) with h | h <;> rw [h] <;> rfl
theorem shr_b {S w : Nat} (h : S < 256) : (0 ≤ ((S : Nat) : Int).fdiv (2 ^ (w : Int).toNat) ∧ ((S : Nat) : Int).fdiv (2 ^ (w : Int).toNat) ≤ 255) := by
  have e2 : ((2 : Int) ^ w) = ((2 ^ w : Nat) : Int) := by rw [Int.natCast_pow]; rfl
  have e3 : ((S : Nat) : Int).fdiv (2 ^ (w : Int).toNat) = ((S / 2 ^ w : Nat) : Int) := by
    rw [Int.toNat_natCast, e2, Int.fdiv_eq_ediv_of_nonneg _ (Int.natCast_nonneg _), ← Int.natCast_ediv]
  rw [e3]
  have : S / 2 ^ w ≤ S := Nat.div_le_self _ _
  generalize S / 2 ^ w = D at *
  omega
theorem b65 : Body P 65 := body_of Tryd.func65 (c := code Tryd.f65) rfl (by decide)
section
variable {w : Wd} {em : List (SV × SV)} {Rv : SV → List (Nat × HB) → Nat → Prop} {Rp : List PanicEntry → List (Nat × HB) → Nat → Prop}
theorem s65 (hw : wdOk w = true) {i reads : Nat} (hi : i < w.n) (hr : reads < 256) (hRv : ∀ e, e = ofV w (w.ev i) (reads.testBit i) → Rv (efS e) (bkS w em) 4) : CallS P 65 [.sp 3 0, .si .i64 (i : Int), .si .u64 (reads : Int)] (bkS w em) 4 Rv Rp := by
  have g := good0
  obtain ⟨_, hu, hn, hev⟩ := wdOk_b hw
  have he := evOk_b (hev i hi)
  refine callS_toE (ι := {e : Ef // e = ofV w (w.ev i) (reads.testBit i)}) g.ok Tryd.func65 (c := code Tryd.f65) rfl (Nat.le_of_ble_eq_true rfl) (fun e => efS e.1) (fun x => bkS w em) 4 (fun G hG => ?_) (fun e => hRv e.1 e.2)
  refine Chk.mk (show (0 : Int) ≤ (i : Int) ∧ (i : Int) < (w.n : Int) from ⟨by omega, by omega⟩) ?_
  refine Br.mk (fun h => ?_) (fun h => ?_)
  · have h : (w.ev i).kind = 0 := of_decide_eq_true h
    have hus : 0 ≤ (w.ev i).uses ∧ (w.ev i).uses ≤ 20 := by omega
    have m1 : 0 ≤ (w.ev i).uses * w.u1 ∧ (w.ev i).uses * w.u1 ≤ 60 := ⟨Int.mul_nonneg (by omega) (by omega), Int.le_trans (Int.mul_le_mul (by omega) (show w.u1 ≤ 3 by omega) (by omega) (by decide)) (by decide : (20 : Int) * 3 ≤ 60)⟩
    have m2 : 0 ≤ (w.ev i).uses * w.u2 ∧ (w.ev i).uses * w.u2 ≤ 60 := ⟨Int.mul_nonneg (by omega) (by omega), Int.le_trans (Int.mul_le_mul (by omega) (show w.u2 ≤ 3 by omega) (by omega) (by decide)) (by decide : (20 : Int) * 3 ≤ 60)⟩
    refine drawn_ok (g.ok _ _ _) fol [0,1,0,4,12,28,60,124,255,0,512,0,2048,6144,14336,30720,63488,130560,262143,524287,1048575,2097151] [] 22 (by kernel_rfl) ?_
    refine Chk.mk (show InK .i64 ((w.ev i).uses * w.u1) from ⟨by omega, by omega⟩) (Chk.mk (show InK .i64 ((w.ev i).uses * w.u2) from ⟨by omega, by omega⟩) ?_)
    refine ⟨⟨.tk ((w.ev i).uses * w.u1, (w.ev i).uses * w.u2), by unfold ofV; rw [if_pos h]⟩, (fun j => j), ?_, ?_, rfl, rfl, rfl, rfl⟩ <;> repeat' (first | exact trivial | exact rfl | exact List.Perm.refl _ | (intro i hi; exact ⟨rfl, rfl⟩) | (intro v m g h; exact h) | refine And.intro ?_ ?_)
  have h : ¬ (w.ev i).kind = 0 := of_decide_eq_false h
  refine Br.mk (fun h2 => ?_) (fun h2 => ?_)
  · have h2 : (w.ev i).kind = 2 := of_decide_eq_true h2
    refine ⟨⟨.tk ((w.ev i).lo, (w.ev i).hi), by unfold ofV; rw [if_neg h, if_pos h2]⟩, (fun j => j), ?_, ?_, rfl, rfl, rfl, rfl⟩ <;> repeat' (first | exact trivial | exact rfl | exact List.Perm.refl _ | (intro i hi; exact ⟨rfl, rfl⟩) | (intro v m g h; exact h) | refine And.intro ?_ ?_)
  have h2 : ¬ (w.ev i).kind = 2 := of_decide_eq_false h2
  have hsb := shr_b (S := reads) (w := i) hr
  refine Chk.mk (show (0 : Int) ≤ (i : Int) ∧ (i : Int).toNat ≤ IntKind.u64.bits from ⟨by omega, by show (i : Int).toNat ≤ 64; omega⟩) ?_
  refine Chk.mk ⟨hsb.1, by decide, ⟨by omega, by omega⟩, by decide, by decide⟩ ?_
  refine Br.mk (fun h3 => ?_) (fun h3 => ?_)
  · have h3 : decide (((((reads : Nat) : Int).fdiv (2 ^ (i : Int).toNat)).toNat &&& (1 : Int).toNat : Nat) = (0 : Int)) = true := h3
    rw [shr_bit] at h3
    have hbit : reads.testBit i = false := by
      cases hb : reads.testBit i with
      | false => rfl
      | true => rw [hb] at h3; simp at h3
    refine ⟨⟨.no, by unfold ofV; rw [if_neg h, if_neg h2, hbit]; rfl⟩, (fun j => j), ?_, ?_, rfl, rfl, rfl, rfl⟩ <;> repeat' (first | exact trivial | exact rfl | exact List.Perm.refl _ | (intro i hi; exact ⟨rfl, rfl⟩) | (intro v m g h; exact h) | refine And.intro ?_ ?_)
  · have h3 : decide (((((reads : Nat) : Int).fdiv (2 ^ (i : Int).toNat)).toNat &&& (1 : Int).toNat : Nat) = (0 : Int)) = false := h3
    rw [shr_bit] at h3
    have hbit : reads.testBit i = true := by
      cases hb : reads.testBit i with
      | true => rfl
      | false => rw [hb] at h3; simp at h3
    refine ⟨⟨.rd ((w.ev i).lo, (w.ev i).hi), by unfold ofV; rw [if_neg h, if_neg h2, hbit]; rfl⟩, (fun j => j), ?_, ?_, rfl, rfl, rfl, rfl⟩ <;> repeat' (first | exact trivial | exact rfl | exact List.Perm.refl _ | (intro i hi; exact ⟨rfl, rfl⟩) | (intro v m g h; exact h) | refine And.intro ?_ ?_)
end
end Go.X.Wr
end

section
set_option linter.unusedVariables false
set_option linter.unusedSimpArgs false
set_option linter.unusedSectionVars false
/- Wear: the set of readings; the plain question. -/
set_option linter.unusedVariables false
set_option linter.unusedSimpArgs false
set_option maxRecDepth 10000
set_option maxHeartbeats 4000000
namespace Go.X.Wr
open Go Go.Proofs Go.X

def rdN (w : Wd) : Nat → Nat
  | 0 => 0
  | i + 1 => if (w.ev i).kind = 1 then rdN w i ||| 2 ^ i else rdN w i
theorem rdN_lt (w : Wd) : ∀ i, rdN w i < 2 ^ i
  | 0 => by simp [rdN]
  | i + 1 => by
    have h := rdN_lt w i
    have h2 : 2 ^ i < 2 ^ (i + 1) := Nat.pow_lt_pow_right (by decide) (by omega)
    unfold rdN
    split
    · exact Nat.or_lt_two_pow (by omega) h2
    · omega
theorem rdN_256 {w : Wd} {i : Nat} (h : i ≤ 8) : rdN w i < 256 := Nat.lt_of_lt_of_le (rdN_lt w i) (Nat.le_trans (Nat.pow_le_pow_right (by decide) h) (by decide))
theorem b54 : Body P 54 := body_of Tryd.func54 (c := code Tryd.f54) rfl (by decide)
theorem b41 : Body P 41 := body_of Tryd.func41 (c := code Tryd.f41) rfl (by decide)
theorem pow_b {i : Nat} (h : i < 8) : ∃ q : Nat, (1 : Int) * 2 ^ (i : Int).toNat = (q : Int) ∧ q ≤ 128 ∧ 2 ^ i = q := by
  refine ⟨2 ^ i, ?_, Nat.le_trans (Nat.pow_le_pow_right (by decide) (show i ≤ 7 by omega)) (by decide), rfl⟩
  rw [Int.one_mul, Int.toNat_natCast, Int.natCast_pow]; rfl
section
variable {w : Wd} {em : List (SV × SV)} {Rv : SV → List (Nat × HB) → Nat → Prop} {Rp : List PanicEntry → List (Nat × HB) → Nat → Prop}
theorem s54 (hw : wdOk w = true) (hRv : Rv (.si .u64 (rdN w w.n : Int)) (bkS w em) 4) : CallS P 54 [.sp 3 0] (bkS w em) 4 Rv Rp := by
  have g := good0
  obtain ⟨_, hu, hn, hev⟩ := wdOk_b hw
  refine callS_toE (ι := Unit) g.ok Tryd.func54 (c := code Tryd.f54) rfl (Nat.le_of_ble_eq_true rfl) (fun _ => .si .u64 (rdN w w.n : Int)) (fun x => bkS w em) 4 (fun G hG => ?_) (fun _ => hRv)
  refine loop_okR (g.ok _ _ _) 4 (fun x : {i : Nat // i ≤ w.n} => ⟨[(2, ⟨[], .si .u64 (rdN w x.1 : Int)⟩), (9, ⟨[], .sl 1⟩), (10, ⟨[], .si .i64 (w.n : Int)⟩), (11, ⟨[], .si .i64 (x.1 : Int)⟩)], [], bkS w em, 4, []⟩) (fun x => w.n - x.1) hG ⟨0, Nat.zero_le _⟩ (fun j => j) ?_ ?_
  · refine ⟨?_, ?_, rfl, rfl, rfl, rfl, trivial⟩ <;> repeat' (first | exact trivial | exact rfl | exact List.Perm.refl _ | (intro i hi; exact ⟨rfl, rfl⟩) | (intro v m g h; exact h) | refine And.intro ?_ ?_)
  rintro ⟨i, hi⟩
  have hi : i ≤ w.n := hi
  refine Br.mk (fun h => ?_) (fun h => ?_)
  · have h : (i : Int) < (w.n : Int) := of_decide_eq_true h
    refine Chk.mk (show (0 : Int) ≤ (i : Int) ∧ (i : Int) < (w.n : Int) from ⟨by omega, h⟩) ?_
    have hlt := rdN_256 (w := w) (i := i) (by omega)
    obtain ⟨q, hp1, hp2, hp3⟩ := pow_b (i := i) (by omega)
    refine Br.mk (fun h2 => ?_) (fun h2 => ?_)
    · have h2 : (w.ev i).kind = 1 := of_decide_eq_true h2
      refine Chk.mk ⟨by omega, by show (i : Int).toNat ≤ 64; omega, (show InK .u64 ((1 : Int) * 2 ^ (i : Int).toNat) from by rw [hp1]; exact ⟨by omega, by omega⟩)⟩ ?_
      refine Chk.mk (show (0 : Int) ≤ (rdN w i : Int) ∧ (0 : Int) ≤ (1 : Int) * 2 ^ (i : Int).toNat ∧ InK .u64 (rdN w i : Int) ∧ InK .u64 ((1 : Int) * 2 ^ (i : Int).toNat) from by rw [hp1]; exact ⟨by omega, by omega, ⟨by omega, by omega⟩, by omega, by omega⟩) ?_
      have er : ((((rdN w i : Nat) : Int).toNat ||| ((1 : Int) * 2 ^ (i : Int).toNat).toNat : Nat) : Int) = (rdN w (i + 1) : Int) := by rw [hp1, Int.toNat_natCast, Int.toNat_natCast, rdN, if_pos h2, hp3]
      refine Chk.mk (show InK .i64 ((i : Int) + 1) from ⟨by omega, by omega⟩) ⟨⟨i + 1, by omega⟩, (fun j => j), ?_, by show w.n - (i + 1) < w.n - i; omega⟩
      refine ⟨?_, ?_, rfl, rfl, rfl, rfl, trivial⟩ <;> repeat' (first | exact trivial | exact rfl | exact er | exact List.Perm.refl _ | (intro i hi; exact ⟨rfl, rfl⟩) | (intro v m g h; exact h) | refine And.intro ?_ ?_)
    · have h2 : ¬ (w.ev i).kind = 1 := of_decide_eq_false h2
      have er : (rdN w i : Int) = (rdN w (i + 1) : Int) := by rw [rdN, if_neg h2]
      refine Chk.mk (show InK .i64 ((i : Int) + 1) from ⟨by omega, by omega⟩) ⟨⟨i + 1, by omega⟩, (fun j => j), ?_, by show w.n - (i + 1) < w.n - i; omega⟩
      refine ⟨?_, ?_, rfl, rfl, rfl, rfl, trivial⟩ <;> repeat' (first | exact trivial | exact rfl | exact er | exact List.Perm.refl _ | (intro i hi; exact ⟨rfl, rfl⟩) | (intro v m g h; exact h) | refine And.intro ?_ ?_)
  · have h : ¬ (i : Int) < (w.n : Int) := of_decide_eq_false h
    obtain rfl : i = w.n := by omega
    refine ⟨(), (fun j => j), ?_, ?_, rfl, rfl, rfl, rfl⟩ <;> repeat' (first | exact trivial | exact rfl | exact List.Perm.refl _ | (intro i hi; exact ⟨rfl, rfl⟩) | (intro v m g h; exact h) | refine And.intro ?_ ?_)
def qnS (q : Qn) : SV := .agg [.si .u64 (q.reads : Int), .si .i64 q.lo, .si .i64 q.hi]
def plQ (w : Wd) : Qn := ⟨rdN w w.n, w.l1, w.l2⟩
theorem s41 (hw : wdOk w = true) (hRv : Rv (qnS (plQ w)) (bkS w em) 4) : CallS P 41 [.sp 3 0] (bkS w em) 4 Rv Rp := by
  have g := good0
  refine callS_toE (ι := Unit) g.ok Tryd.func41 (c := code Tryd.f41) rfl (Nat.le_of_ble_eq_true rfl) (fun _ => qnS (plQ w)) (fun x => bkS w em) 4 (fun G hG => ?_) (fun _ => hRv)
  refine (show SemC _ _ _ _ from ?_)
  refine any_region fol ?_
  refine any_take 0 (g.ok _ _ _) rfl rfl rfl rfl rfl rfl rfl (by kernel_rfl) (by kernel_rfl) (by kernel_rfl) ?_
  refine any_take 2 (g.ok _ _ _) rfl rfl rfl rfl rfl rfl rfl (by kernel_rfl) (by kernel_rfl) (by kernel_rfl) ?_
  refine any_take 3 (g.ok _ _ _) rfl rfl rfl rfl rfl rfl rfl (by kernel_rfl) (by kernel_rfl) (by kernel_rfl) ?_
  refine any_take 4 (g.ok _ _ _) rfl rfl rfl rfl rfl rfl rfl (by kernel_rfl) (by kernel_rfl) (by kernel_rfl) ?_
  refine any_take 5 (g.ok _ _ _) rfl rfl rfl rfl rfl rfl rfl (by kernel_rfl) (by kernel_rfl) (by kernel_rfl) ?_
  refine any_step [1, 6] (g.ok _ _ _) (by kernel_rfl) (by decide) ⟨?_, ?_, trivial⟩
  · refine fb_call (g.ok _ _ _) cont_any rfl rfl rfl rfl ⟨b54, ?_⟩
    refine callS_at [.sp 3 0] (bkS w em) 4 (fun j => j) (by repeat' (first | exact trivial | exact rfl | refine And.intro ?_ ?_)) rfl (by repeat' (first | exact trivial | exact rfl | exact List.Perm.refl _ | (intro i hi; exact ⟨rfl, rfl⟩) | (intro v m g h; exact h) | refine And.intro ?_ ?_)) rfl rfl ?_
    refine s54 hw ⟨rfl, (by repeat' (first | exact trivial | exact rfl | (intro i hi; exact ⟨rfl, rfl⟩) | refine And.intro ?_ ?_)), (by repeat' (first | exact trivial | exact rfl | (intro i hi; exact rfl) | refine And.intro ?_ ?_)), ?_⟩
    refine any_step [6] (g.ok _ _ _) (by kernel_rfl) (by decide) ⟨?_, trivial⟩
    refine any_take 7 (g.ok _ _ _) rfl rfl rfl rfl rfl rfl rfl (by kernel_rfl) (by kernel_rfl) (by kernel_rfl) ?_
    refine any_take 8 (g.ok _ _ _) rfl rfl rfl rfl rfl rfl rfl (by kernel_rfl) (by kernel_rfl) (by kernel_rfl) ?_
    refine any_step [9] (g.ok _ _ _) (by kernel_rfl) (by decide) ⟨?_, trivial⟩
    refine any_done (by kernel_rfl) ?_
    refine ⟨(), (fun j => j), ?_, ?_, rfl, rfl, rfl, rfl⟩ <;> repeat' (first | exact trivial | exact rfl | exact List.Perm.refl _ | (intro i hi; exact ⟨rfl, rfl⟩) | (intro v m g h; exact h) | refine And.intro ?_ ?_)
  · refine any_take 7 (g.ok _ _ _) rfl rfl rfl rfl rfl rfl rfl (by kernel_rfl) (by kernel_rfl) (by kernel_rfl) ?_
    refine any_step [1] (g.ok _ _ _) (by kernel_rfl) (by decide) ⟨?_, trivial⟩
    refine fb_call (g.ok _ _ _) cont_any rfl rfl rfl rfl ⟨b54, ?_⟩
    refine callS_at [.sp 3 0] (bkS w em) 4 (fun j => j) (by repeat' (first | exact trivial | exact rfl | refine And.intro ?_ ?_)) rfl (by repeat' (first | exact trivial | exact rfl | exact List.Perm.refl _ | (intro i hi; exact ⟨rfl, rfl⟩) | (intro v m g h; exact h) | refine And.intro ?_ ?_)) rfl rfl ?_
    refine s54 hw ⟨rfl, (by repeat' (first | exact trivial | exact rfl | (intro i hi; exact ⟨rfl, rfl⟩) | refine And.intro ?_ ?_)), (by repeat' (first | exact trivial | exact rfl | (intro i hi; exact rfl) | refine And.intro ?_ ?_)), ?_⟩
    refine any_take 8 (g.ok _ _ _) rfl rfl rfl rfl rfl rfl rfl (by kernel_rfl) (by kernel_rfl) (by kernel_rfl) ?_
    refine any_step [9] (g.ok _ _ _) (by kernel_rfl) (by decide) ⟨?_, trivial⟩
    refine any_done (by kernel_rfl) ?_
    refine ⟨(), (fun j => j), ?_, ?_, rfl, rfl, rfl, rfl⟩ <;> repeat' (first | exact trivial | exact rfl | exact List.Perm.refl _ | (intro i hi; exact ⟨rfl, rfl⟩) | (intro v m g h; exact h) | refine And.intro ?_ ?_)
end
end Go.X.Wr
end

section
set_option linter.unusedVariables false
set_option linter.unusedSimpArgs false
set_option linter.unusedSectionVars false
/- Wear: what is known at first, and after each event (plain). -/
set_option linter.unusedVariables false
set_option linter.unusedSimpArgs false
set_option maxRecDepth 10000
set_option maxHeartbeats 4000000
namespace Go.X.Wr
open Go Go.Proofs Go.X

def efA (w : Wd) (q : Qn) (i : Nat) : Ef := ofV w (w.ev i) (q.reads.testBit i)
/-- Forward. -/
def fwV (w : Wd) (q : Qn) : Nat → Sp
  | 0 => (q.lo, q.hi)
  | i + 1 => aftV (efA w q i) (fwV w q i)
/-- Back, by how many events are behind it. -/
def bkD (w : Wd) (q : Qn) : Nat → Sp
  | 0 => fwV w q w.n
  | k + 1 => bothV (fwV w q (w.n - (k + 1))) (befV (efA w q (w.n - (k + 1))) (bkD w q k))
def lgV (w : Wd) (q : Qn) (j : Nat) : Sp := if j ≤ w.n then bkD w q (w.n - j) else (0, 0)
def arF (w : Wd) (q : Qn) (i j : Nat) : Sp := if j ≤ i then fwV w q j else (0, 0)
def arB (w : Wd) (q : Qn) (m j : Nat) : Sp := if j ≤ w.n then (if w.n - j ≤ m then bkD w q (w.n - j) else fwV w q j) else (0, 0)
theorem arB_zero (w : Wd) (q : Qn) : arB w q 0 = arF w q w.n := by
  funext j
  unfold arB arF
  split
  · split
    · rw [show w.n - j = 0 by omega, show j = w.n by omega]; rfl
    · rfl
  · rfl
theorem arB_full (w : Wd) (q : Qn) : arB w q w.n = lgV w q := by
  funext j
  unfold arB lgV
  split
  · rw [if_pos (by omega)]
  · rfl
def kc (c : Int) (s : Sp) : Prop := (-1100000 - c ≤ s.1 ∧ s.1 ≤ 1100000 + c) ∧ -1100000 - c ≤ s.2 ∧ s.2 ≤ 1100000 + c
theorem kc.kbS {c : Int} {s : Sp} (h : kc c s) (hc : c ≤ 5000) : kbS s := by
  unfold kc at h
  exact ⟨⟨by omega, by omega⟩, by omega, by omega⟩
theorem kc.mono {c d : Int} {s : Sp} (h : kc c s) (hd : c ≤ d) : kc d s := by
  unfold kc at h ⊢; omega
theorem bothV_c {a b : Sp} {c : Int} (ha : kc c a) (hb : kc c b) (hc : 0 ≤ c) : kc c (bothV a b) := by
  unfold kc at *
  unfold bothV noneS
  split
  · simp only; omega
  · simp only; omega
def efB : Ef → Prop
  | .tk s => (0 ≤ s.1 ∧ s.1 ≤ 60) ∧ 0 ≤ s.2 ∧ s.2 ≤ 60
  | .rd s => (-1000 ≤ s.1 ∧ s.1 ≤ 1000) ∧ -1000 ≤ s.2 ∧ s.2 ≤ 1000
  | .no => True
theorem efB.ok {e : Ef} (h : efB e) : efOk e := by
  cases e with
  | tk s => exact ⟨⟨by have := h.1; omega, by have := h.1; omega⟩, by have := h.2; omega, by have := h.2; omega⟩
  | rd s => exact ⟨⟨by have := h.1; omega, by have := h.1; omega⟩, by have := h.2; omega, by have := h.2; omega⟩
  | no => trivial
theorem efA_b {w : Wd} (hw : wdOk w = true) (q : Qn) {i : Nat} (hi : i < w.n) : efB (efA w q i) := by
  obtain ⟨_, hu, hn, hev⟩ := wdOk_b hw
  have he := evOk_b (hev i hi)
  unfold efA ofV
  split
  · rename_i h
    have m1 : 0 ≤ (w.ev i).uses * w.u1 ∧ (w.ev i).uses * w.u1 ≤ 60 := ⟨Int.mul_nonneg (by omega) (by omega), Int.le_trans (Int.mul_le_mul (show (w.ev i).uses ≤ 20 by omega) (show w.u1 ≤ 3 by omega) (by omega) (by decide)) (by decide : (20 : Int) * 3 ≤ 60)⟩
    have m2 : 0 ≤ (w.ev i).uses * w.u2 ∧ (w.ev i).uses * w.u2 ≤ 60 := ⟨Int.mul_nonneg (by omega) (by omega), Int.le_trans (Int.mul_le_mul (show (w.ev i).uses ≤ 20 by omega) (show w.u2 ≤ 3 by omega) (by omega) (by decide)) (by decide : (20 : Int) * 3 ≤ 60)⟩
    exact ⟨m1, m2⟩
  · split
    · exact ⟨⟨by omega, by show (w.ev i).lo ≤ 60; omega⟩, by show 0 ≤ (w.ev i).hi; omega, by show (w.ev i).hi ≤ 60; omega⟩
    · split
      · exact ⟨⟨by show -1000 ≤ (w.ev i).lo; omega, by show (w.ev i).lo ≤ 1000; omega⟩, by show -1000 ≤ (w.ev i).hi; omega, by show (w.ev i).hi ≤ 1000; omega⟩
      · trivial
theorem aft_c {e : Ef} (he : efB e) {k : Sp} {c : Int} (hc : 0 ≤ c) (hk : kc c k) : kc (c + 60) (aftV e k) := by
  cases e with
  | tk s => have h1 := he.1; have h2 := he.2; unfold kc at *; unfold aftV lessV; simp only; omega
  | rd s => exact (bothV_c hk (by have h1 := he.1; have h2 := he.2; unfold kc; omega) hc).mono (by omega)
  | no => exact hk.mono (by omega)
theorem bef_c {e : Ef} (he : efB e) {k : Sp} {c : Int} (hc : 0 ≤ c) (hk : kc c k) : kc (c + 60) (befV e k) := by
  cases e with
  | tk s => have h1 := he.1; have h2 := he.2; unfold kc at *; unfold befV moreV; simp only; omega
  | rd s => exact (bothV_c hk (by have h1 := he.1; have h2 := he.2; unfold kc; omega) hc).mono (by omega)
  | no => exact hk.mono (by omega)
theorem fwV_c {w : Wd} (hw : wdOk w = true) {q : Qn} (hq : kc 0 (q.lo, q.hi)) : ∀ i, i ≤ w.n → kc (60 * (i : Int)) (fwV w q i)
  | 0, _ => hq
  | i + 1, h => by
    have h1 := aft_c (efA_b hw q (i := i) (by omega)) (by omega) (fwV_c hw hq i (by omega))
    exact h1.mono (by omega)
theorem bkD_c {w : Wd} (hw : wdOk w = true) {q : Qn} (hq : kc 0 (q.lo, q.hi)) : ∀ k, k ≤ w.n → kc (60 * (w.n : Int) + 60 * (k : Int)) (bkD w q k)
  | 0, _ => (fwV_c hw hq w.n (Nat.le_refl _)).mono (by omega)
  | k + 1, h => by
    have h1 := bef_c (efA_b hw q (i := w.n - (k + 1)) (by omega)) (by omega) (bkD_c hw hq k (by omega))
    exact bothV_c ((fwV_c hw hq (w.n - (k + 1)) (by omega)).mono (by omega)) (h1.mono (by omega)) (by omega)
def lgS (lv : Nat → Sp) : List SV := (List.range 9).flatMap fun i => spC (lv i)
def encL (lv : Nat → Sp) : SV := .agg (lgS lv)
theorem encL_cl : Closed encL := fun a => ⟨.agg #[.int .i64 (a 0).1, .int .i64 (a 0).2, .int .i64 (a 1).1, .int .i64 (a 1).2, .int .i64 (a 2).1, .int .i64 (a 2).2, .int .i64 (a 3).1, .int .i64 (a 3).2, .int .i64 (a 4).1, .int .i64 (a 4).2, .int .i64 (a 5).1, .int .i64 (a 5).2, .int .i64 (a 6).1, .int .i64 (a 6).2, .int .i64 (a 7).1, .int .i64 (a 7).2, .int .i64 (a 8).1, .int .i64 (a 8).2], rfl⟩
theorem qnS_key : KeyT T 94 qnS where
  ty := ⟨_, rfl⟩
  chk := fun a => by kernel_rfl
  eq := fun a b => by
    have h : eqC T 9 94 (qnS a) (qnS b) = some (decide ((a.reads : Int) = (b.reads : Int)) && ((decide (a.lo = b.lo) && (decide (a.hi = b.hi) && true) && true) && true)) := by kernel_rfl
    rw [h]
    congr 1
    rw [Bool.eq_iff_iff]
    obtain ⟨a1, a2, a3⟩ := a
    obtain ⟨b1, b2, b3⟩ := b
    simp
    omega
  cl := fun a => ⟨.agg #[.int .u64 a.reads, .int .i64 a.lo, .int .i64 a.hi], rfl⟩
  same := fun a => by
    have : cv (qnS a) = .agg #[.int .u64 a.reads, .int .i64 a.lo, .int .i64 a.hi] := rfl
    rw [this]
    simp [Instr.sameBits]
/-- What is kept is right. -/
def kOk (w : Wd) (es : List (Qn × (Nat → Sp))) : Prop := ∀ q lv, lookA es q = some lv → lv = lgV w q
end Go.X.Wr
end

section
set_option linter.unusedVariables false
set_option linter.unusedSimpArgs false
set_option linter.unusedSectionVars false
/- Warm: the small functions of the package and of its document. -/
set_option linter.unusedVariables false
set_option linter.unusedSimpArgs false
set_option maxRecDepth 10000
set_option maxHeartbeats 1000000
namespace Go.X.W
open Go Go.Proofs Go.X

noncomputable abbrev P : Program := Tryd.prog
def pl : List Nat := [24, 117, 114]
theorem pl_ok : PlainOk P pl := by
  intro t ht
  simp only [pl, List.mem_cons, List.not_mem_nil, or_false] at ht
  rcases ht with rfl | rfl | rfl
  · exact ⟨by kernel_rfl, by kernel_rfl, by decide⟩
  · exact ⟨by kernel_rfl, by kernel_rfl, by decide⟩
  · exact ⟨by kernel_rfl, by kernel_rfl, by decide⟩
noncomputable abbrev T : Tab := tabP P pl
theorem fol : P.follows .mixedOrders = true := by kernel_rfl
theorem good0 : Good P T [] := ⟨tabP_ok pl_ok, fun p h => by cases h⟩

def code (f : Func) : Code := match f.body with
  | some c => c
  | none => .skip

/-! ### within, in -/
def inB (n lo hi : Int) : Bool := decide (lo ≤ n) && decide (n ≤ hi)
def c66 : Ct := plainCt fun
  | [.si .i64 a, .si .i64 b, .si .i64 c] => some ⟨none, none, .sb (inB a b c), []⟩
  | _ => none
theorem k66 {l : List (Nat × Ct)} (g : Good P T l) : COk P 49 c66 := cok (C := tabC l) g.ok Tryd.func49 (c := code Tryd.f49) rfl fun fr args H out h hp => by
  simp only [c66, plainCt] at h
  split at h
  · cases h
    refine walk_plain rfl (Nat.le_of_ble_eq_true rfl) fun G hG => ?_
    refine ⟨.inl rfl, end_plain rfl rfl rfl⟩
  · cases h
theorem g66 {l : List (Nat × Ct)} (g : Good P T l) : Good P T ((49, c66) :: l) := g.add (k66 g) (plainCt_mono _) (body_of Tryd.func49 (c := code Tryd.f49) rfl (by decide))
/-! ### isSpan, span -/
def spanB (a b lo hi wide : Int) : Bool := decide (lo ≤ a) && decide (a ≤ b) && decide (b ≤ hi) && decide (b - a ≤ wide)
def c99 : Ct := plainCt fun
  | [.agg [.si .i64 a, .si .i64 b], .si .i64 lo, .si .i64 hi, .si .i64 wide] => some ⟨some (-1000000 ≤ lo ∧ hi ≤ 1000000), none, .sb (spanB a b lo hi wide), []⟩
  | _ => none
theorem k99 {l : List (Nat × Ct)} (g : Good P T l) : COk P 61 c99 := cok (C := tabC l) g.ok Tryd.func61 (c := code Tryd.f61) rfl fun fr args H out h hp => by
  simp only [c99, plainCt] at h
  split at h
  · rename_i a b lo hi wide
    cases h
    obtain ⟨h1, h2⟩ : -1000000 ≤ lo ∧ hi ≤ 1000000 := hp
    refine walk_plain rfl (Nat.le_of_ble_eq_true rfl) fun G hG => ?_
    refine Chk.mk (fun h => ?_) ⟨.inl rfl, end_plain rfl rfl rfl⟩
    have h : (decide (lo ≤ a) && decide (a ≤ b) && decide (b ≤ hi)) = true := h
    simp only [Bool.and_eq_true, decide_eq_true_eq] at h
    show _ ≤ b - a ∧ b - a ≤ _
    omega
  · cases h
theorem g99 {l : List (Nat × Ct)} (g : Good P T l) : Good P T ((61, c99) :: l) := g.add (k99 g) (plainCt_mono _) (body_of Tryd.func61 (c := code Tryd.f61) rfl (by decide))
/-! ### ask, answer -/
def refP (e : Int) : List PanicEntry := [{ v := .iface 134 (.int .i64 e), recovered := false }]
def c95 : Ct := plainCt fun
  | [.sb b, .si .i64 e] => some ⟨none, some (!b, refP e), .tup [], []⟩
  | _ => none
theorem k95 {l : List (Nat × Ct)} (g : Good P T l) : COk P 60 c95 := by
  refine cok (C := tabC _) g.ok Tryd.func60 (c := code Tryd.f60) rfl fun fr args H out h hp => ?_
  simp only [c95, plainCt] at h
  split at h
  · rename_i b e
    cases h
    refine walk_plain rfl (Nat.le_of_ble_eq_true rfl) fun G hG => ?_
    refine Br.mk (fun h => ?_) (fun h => ?_)
    · refine fb_panic cont_std rfl rfl rfl ?_
      exact ⟨by rw [h]; rfl, trivial⟩
    · exact ⟨.inr ⟨_, by rw [h]⟩, end_plain trivial rfl rfl⟩
  · cases h
theorem g95 {l : List (Nat × Ct)} (g : Good P T l) : Good P T ((60, c95) :: l) := g.add (k95 g) (plainCt_mono _) (body_of Tryd.func60 (c := code Tryd.f60) rfl (by decide))
theorem answer_ok : AnswerOk P 47 134 35 := by
  refine answer_of (T := T) (tabP_ok pl_ok) Tryd.func47 rfl (by decide) rfl rfl rfl rfl rfl rfl rfl rfl (by decide) (by decide) (by decide) (by decide) (by decide) ?_ ?_
  · intro x G hG
    refine Br.mk (fun h => by cases h) (fun _ => rfl)
  · intro x k m G hG
    refine Br.mk (fun _ => ?_) (fun h => by cases h)
    refine Br.mk (fun h => by cases h) (fun _ => rfl)
end Go.X.W
end

section
set_option linter.unusedVariables false
set_option linter.unusedSimpArgs false
set_option linter.unusedSectionVars false
/- TopWarmed: a number of a span, by remainders (the closure that counts). -/
set_option linter.unusedVariables false
set_option linter.unusedSimpArgs false
set_option maxRecDepth 10000
set_option maxHeartbeats 4000000
namespace Go.X.W
open Go Go.Proofs Go.X

/-- What is drawn of a span, when at numbers were drawn before. -/
def drawV (m : Nat) (o : Nat → Int) (c lo hi : Int) : Int := if m = 0 then lo else lo + (o ((c + 1).tmod (m : Int)).toNat + 71 * (c + 1)).tmod (hi - lo + 1)
theorem bd53 : Body P 31 := body_of Tryd.func31 (c := code Tryd.f31) rfl (by decide)
def dA (m : Nat) (o : Nat → Int) (c : Int) : List (Nat × HB) := [(0, .ro 1 m fun i => [.si .u16 (o i)]), (1, .cells 3 [.si .i64 c]), (2, .cells 25 [.sl 0])]
theorem s53 {m : Nat} {o : Nat → Int} (hm : m ≤ maxLen) (ho : ∀ i, i < m → 0 ≤ o i ∧ o i < 65536) {c lo hi : Int} (hc : 0 ≤ c ∧ c ≤ 100000) (hl : -1000000 ≤ lo ∧ lo ≤ hi ∧ hi ≤ 1000000) {Rv : SV → List (Nat × HB) → Nat → Prop} {Rp : List PanicEntry → List (Nat × HB) → Nat → Prop}
    (hRv : Rv (.si .i64 (drawV m o c lo hi)) (dA m o (c + 1)) 3) : CallS P 31 [.agg [.si .i64 lo, .si .i64 hi], .sp 1 0, .sp 2 0] (dA m o c) 3 Rv Rp := by
  have g := good0
  refine callS_toE (ι := Unit) g.ok Tryd.func31 (c := code Tryd.f31) rfl (Nat.le_of_ble_eq_true rfl) (fun _ => .si .i64 (drawV m o c lo hi)) (fun x => dA m o (c + 1)) 3 (fun G hG => ?_) (fun x => hRv)
  refine Chk.mk (show InK .i64 (c + 1) from ⟨by omega, by omega⟩) ?_
  refine Br.mk (fun h => ?_) (fun h => ?_)
  · have h : ((m : Nat) : Int) = 0 := of_decide_eq_true h
    have e : lo = drawV m o c lo hi := by unfold drawV; rw [if_pos (by omega)]
    refine ⟨(), (fun j => j), ?_, ?_, rfl, rfl, rfl, rfl⟩ <;> repeat' (first | exact trivial | exact rfl | exact e | (intro i hi; exact ⟨rfl, rfl⟩) | refine And.intro ?_ ?_)
  · have h : ¬ ((m : Nat) : Int) = 0 := of_decide_eq_false h
    obtain ⟨c', rfl⟩ : ∃ c' : Nat, c = (c' : Int) := ⟨c.toNat, by omega⟩
    have hmm : (((c' : Nat) : Int) + 1).tmod (m : Int) = (((c' + 1) % m : Nat) : Int) := rfl
    have hlt : (c' + 1) % m < m := Nat.mod_lt _ (by omega)
    have hmt : ((((c' : Nat) : Int) + 1).tmod (m : Int)).toNat = (c' + 1) % m := by rw [hmm, Int.toNat_natCast]
    have hob := ho _ hlt
    obtain ⟨v, hv⟩ : ∃ v, o ((((c' : Nat) : Int) + 1).tmod (m : Int)).toNat = v := ⟨_, rfl⟩
    have hvb : 0 ≤ v ∧ v < 65536 := by rw [← hv, hmt]; exact hob
    have h1 : 0 ≤ v + 71 * ((c' : Int) + 1) := by omega
    have h2 := Int.tmod_nonneg (hi - lo + 1) h1
    have h3 := Int.tmod_lt_of_pos (v + 71 * ((c' : Int) + 1)) (show 0 < hi - lo + 1 by omega)
    have hV : drawV m o (c' : Int) lo hi = lo + (v + 71 * ((c' : Int) + 1)).tmod (hi - lo + 1) := by unfold drawV; rw [if_neg (by omega), hv]
    rw [hV]
    refine drawn_ok (g.ok _ _ _) fol [0,1,0,0,0,16,56,124,252,508,0,1024,4092,0,8192,0,32768,122880,253952,524284,1048575,2097151] [] 22 (by kernel_rfl) ?_
    refine Chk.mk (show ((m : Nat) : Int) ≠ 0 by omega) (Chk.mk (show (0 : Int) ≤ (((c' : Nat) : Int) + 1).tmod (m : Int) ∧ (((c' : Nat) : Int) + 1).tmod (m : Int) < (m : Int) from ⟨by rw [hmm]; omega, by rw [hmm]; omega⟩) ?_)
    refine Chk.mk (show InK .i64 (o ((((c' : Nat) : Int) + 1).tmod (m : Int)).toNat) by rw [hv]; exact ⟨by omega, by omega⟩) ?_
    refine Chk.mk (show InK .i64 (71 * (((c' : Nat) : Int) + 1)) from ⟨by omega, by omega⟩) (Chk.mk (show InK .i64 (o ((((c' : Nat) : Int) + 1).tmod (m : Int)).toNat + 71 * (((c' : Nat) : Int) + 1)) by rw [hv]; exact ⟨by omega, by omega⟩) ?_)
    refine Chk.mk (show InK .i64 (hi - lo) from ⟨by omega, by omega⟩) (Chk.mk (show InK .i64 (hi - lo + 1) from ⟨by omega, by omega⟩) (Chk.mk (show hi - lo + 1 ≠ 0 by omega) ?_))
    refine Chk.mk (show InK .i64 (lo + (o ((((c' : Nat) : Int) + 1).tmod (m : Int)).toNat + 71 * (((c' : Nat) : Int) + 1)).tmod (hi - lo + 1)) by rw [hv]; exact ⟨by omega, by omega⟩) ?_
    have hE : lo + (o ((((c' : Nat) : Int) + 1).tmod (m : Int)).toNat + 71 * (((c' : Nat) : Int) + 1)).tmod (hi - lo + 1) = lo + (v + 71 * ((c' : Int) + 1)).tmod (hi - lo + 1) := by rw [hv]
    refine ⟨(), (fun j => j), ?_, ?_, rfl, rfl, rfl, rfl⟩ <;> repeat' (first | exact trivial | exact rfl | exact hE | (intro i hi; exact ⟨rfl, rfl⟩) | refine And.intro ?_ ?_)
end Go.X.W
end

section
set_option linter.unusedVariables false
set_option linter.unusedSimpArgs false
set_option linter.unusedSectionVars false
/- TopWarmed: span04, draws04. -/
set_option linter.unusedVariables false
set_option linter.unusedSimpArgs false
set_option maxRecDepth 10000
set_option maxHeartbeats 4000000
namespace Go.X.W
open Go Go.Proofs Go.X
def c18t : Ct := plainCt fun
  | [.si .i64 a, .si .i64 b] => some ⟨none, none, .agg [.si .i64 a, .si .i64 b], []⟩
  | _ => none
theorem k18t {l : List (Nat × Ct)} (g0 : Good P T l) : COk P 8 c18t := by
  have g := good0
  refine cok (C := tabC _) g.ok Tryd.func8 (c := code Tryd.f8) rfl fun fr args H out h hp => ?_
  simp only [c18t, plainCt] at h
  split at h
  · cases h
    refine walk_plain rfl (Nat.le_of_ble_eq_true rfl) fun G hG => ⟨.inl rfl, end_plain ?_ rfl rfl⟩
    repeat' (first | exact trivial | exact rfl | refine And.intro ?_ ?_)
  · cases h
theorem g18t {l : List (Nat × Ct)} (g : Good P T l) : Good P T ((8, c18t) :: l) := g.add (k18t g) (plainCt_mono _) (body_of Tryd.func8 (c := code Tryd.f8) rfl (by decide))
theorem bd15 : Body P 13 := body_of Tryd.func13 (c := code Tryd.f13) rfl (by decide)
theorem s15 {m : Nat} {o : Nat → Int} {Rv : SV → List (Nat × HB) → Nat → Prop} {Rp : List PanicEntry → List (Nat × HB) → Nat → Prop}
    (hRv : Rv (.fn (.func 31) [] [.sp 1 0, .sp 2 0]) (dA m o 0) 3) : CallS P 13 [.sl 0] [(0, .ro 1 m fun i => [.si .u16 (o i)])] 1 Rv Rp := by
  have g := good0
  refine callS_toE (ι := Unit) g.ok Tryd.func13 (c := code Tryd.f13) rfl (Nat.le_of_ble_eq_true rfl) (fun _ => .fn (.func 31) [] [.sp 1 0, .sp 2 0]) (fun x => dA m o 0) 3 (fun G hG => ?_) (fun x => hRv)
  refine ⟨(), (fun j => match j with | 1 => 2 | 2 => 1 | j => j), ?_, ?_, rfl, rfl, rfl, rfl⟩ <;> repeat' (first | exact trivial | exact rfl | (intro i hi; exact ⟨rfl, rfl⟩) | refine And.intro ?_ ?_)
end Go.X.W
end

section
set_option linter.unusedVariables false
set_option linter.unusedSimpArgs false
set_option linter.unusedSectionVars false
/- Stack: the small functions. -/
set_option linter.unusedVariables false
set_option linter.unusedSimpArgs false
set_option maxRecDepth 10000
set_option maxHeartbeats 1000000
namespace Go.X.S
open Go Go.Proofs Go.X

noncomputable abbrev P : Program := Tryd.prog
def pl : List Nat := [24, 75]
theorem pl_ok : PlainOk P pl := by
  intro t ht
  simp only [pl, List.mem_cons, List.not_mem_nil, or_false] at ht
  rcases ht with rfl | rfl
  · exact ⟨by kernel_rfl, by kernel_rfl, by decide⟩
  · exact ⟨by kernel_rfl, by kernel_rfl, by decide⟩
noncomputable abbrev T : Tab := tabP P pl
theorem fol : P.follows .mixedOrders = true := by kernel_rfl
theorem good0 : Good P T [] := ⟨tabP_ok pl_ok, fun p h => by cases h⟩

def code (f : Func) : Code := match f.body with
  | some c => c
  | none => .skip

/-! ### within, in -/
def c61 : Ct := plainCt fun
  | [.si .i64 a, .si .i64 b, .si .i64 c] => some ⟨none, none, .sb (decide (b ≤ a) && decide (a ≤ c)), []⟩
  | _ => none
theorem k61 {l : List (Nat × Ct)} (g : Good P T l) : COk P 45 c61 := cok (C := tabC l) g.ok Tryd.func45 (c := code Tryd.f45) rfl fun fr args H out h hp => by
  simp only [c61, plainCt] at h
  split at h
  · cases h
    refine walk_plain rfl (Nat.le_of_ble_eq_true rfl) fun G hG => ?_
    refine ⟨.inl rfl, end_plain rfl rfl rfl⟩
  · cases h

/-! ### power -/
theorem pow_le {n : Nat} (h : n ≤ 62) : (0 : Int) < 2 ^ n ∧ (2 : Int) ^ n ≤ 4611686018427387904 := by
  constructor
  · exact Int.pow_pos (by decide)
  · have : (2 : Nat) ^ n ≤ 2 ^ 62 := Nat.pow_le_pow_right (by decide) h
    have h2 : ((2 ^ n : Nat) : Int) ≤ ((2 ^ 62 : Nat) : Int) := by exact_mod_cast this
    rw [Int.natCast_pow] at h2
    exact h2
/-! ### Has, Size -/
/-- How many bits. -/
def sizeN : Nat → Nat
  | 0 => 0
  | n + 1 => (n + 1) % 2 + sizeN ((n + 1) / 2)
decreasing_by omega
theorem sizeN_pos {n : Nat} (h : 0 < n) : sizeN n = n % 2 + sizeN (n / 2) := by
  obtain ⟨m, rfl⟩ : ∃ m, n = m + 1 := ⟨n - 1, by omega⟩
  rw [sizeN]
theorem sizeN_le (n : Nat) : sizeN n ≤ n := by
  induction n using Nat.strongRecOn with
  | _ n ih =>
    rcases Nat.eq_zero_or_pos n with rfl | h
    · simp [sizeN]
    · rw [sizeN_pos h]
      have := ih (n / 2) (by omega)
      omega

def c36 : Ct := plainCt fun
  | [.si .i64 x] => some ⟨some (x < 4611686018427387904), none, .si .i64 (sizeN x.toNat), []⟩
  | _ => none
theorem k36 {l : List (Nat × Ct)} (g : Good P T l) : COk P 11 c36 := cok (C := tabC l) g.ok Tryd.func11 (c := code Tryd.f11) rfl fun fr args H out h hp => by
  simp only [c36, plainCt] at h
  split at h
  · rename_i x
    cases h
    have hp : x < 4611686018427387904 := hp
    refine walk_plain rfl (Nat.le_of_ble_eq_true rfl) fun G hG => ?_
    refine loop_ok (g.ok _ _ _) (fun y : {y : Int × Int // y.1 ≤ x ∧ 0 ≤ y.2 ∧ y.2 + sizeN y.1.toNat = sizeN x.toNat} => ⟨[(0, ⟨[], .si .i64 y.1.1⟩), (3, ⟨[], .si .i64 y.1.2⟩)], [], [], 0, []⟩) (fun y => y.1.1.toNat) (fun _ => hG)
      ⟨(x, 0), by refine ⟨by omega, by omega, ?_⟩; simp⟩ ?_ ?_
    · refine ⟨?_, ?_, rfl, rfl, rfl⟩ <;> repeat' (first | exact trivial | exact rfl | refine And.intro ?_ ?_)
    · rintro ⟨⟨y, n⟩, h1, h2, h3⟩
      simp only at h1 h2 h3
      have hle := sizeN_le x.toNat
      refine Br.mk (fun h => ?_) (fun h => ?_)
      · have h : (0 : Int) < y := of_decide_eq_true h
        have e1 : y.tmod 2 = y % 2 := Int.tmod_eq_emod_of_nonneg (by omega)
        have e2 : y.tdiv 2 = y / 2 := Int.tdiv_eq_ediv_of_nonneg (by omega)
        have hs := sizeN_pos (n := y.toNat) (by omega)
        refine Chk.mk (show (2 : Int) ≠ 0 by decide) (Chk.mk (show _ ∧ _ from ?_) (Chk.mk (show _ ∧ _ from ⟨by decide, ?_⟩) ⟨⟨(y / 2, n + y % 2), ?_⟩, ?_, ?_⟩))
        · show _ ≤ n + y.tmod 2 ∧ n + y.tmod 2 ≤ _
          omega
        · show _ ≤ y.tdiv 2 ∧ y.tdiv 2 ≤ _
          omega
        · have e3 : (y / 2).toNat = y.toNat / 2 := by omega
          simp only [e3]
          omega
        · refine ⟨?_, ?_, rfl, rfl, rfl⟩ <;> repeat' (first | exact trivial | exact rfl | refine And.intro ?_ ?_)
          · exact e2
          · show n + y.tmod 2 = n + y % 2
            rw [e1]
        · show (y / 2).toNat < y.toNat
          omega
      · have h : ¬ (0 : Int) < y := of_decide_eq_false h
        refine ⟨.inl rfl, end_plain ⟨rfl, ?_⟩ rfl rfl⟩
        show n = sizeN x.toNat
        rw [show y.toNat = 0 by omega] at h3
        simp [sizeN] at h3
        omega
  · cases h

end Go.X.S
end

section
set_option linter.unusedVariables false
set_option linter.unusedSimpArgs false
set_option linter.unusedSectionVars false
/- Stack: more small functions. -/
set_option linter.unusedVariables false
set_option linter.unusedSimpArgs false
set_option maxRecDepth 10000
set_option maxHeartbeats 1000000
namespace Go.X.S
open Go Go.Proofs Go.X

theorem g61 {l : List (Nat × Ct)} (g : Good P T l) : Good P T ((45, c61) :: l) := g.add (k61 g) (plainCt_mono _) (body_of Tryd.func45 (c := code Tryd.f45) rfl (by decide))
theorem g36 {l : List (Nat × Ct)} (g : Good P T l) : Good P T ((11, c36) :: l) := g.add (k36 g) (plainCt_mono _) (body_of Tryd.func11 (c := code Tryd.f11) rfl (by decide))

/-! ### Length, isLength -/
/-! ### Want, isWant, span -/
def c47 : Ct := plainCt fun
  | [.agg [.si .i64 a, .si .i64 b]] => some ⟨none, none, .sb (decide (0 ≤ a) && decide (a ≤ b) && decide (b ≤ 5000)), []⟩
  | _ => none
theorem k47 {l : List (Nat × Ct)} (g : Good P T l) : COk P 23 c47 := by
  refine cok (C := tabC _) g.ok Tryd.func23 (c := code Tryd.f23) rfl fun fr args H out h hp => ?_
  simp only [c47, plainCt] at h
  split at h
  · cases h
    refine walk_plain rfl (Nat.le_of_ble_eq_true rfl) fun G hG => ?_
    exact ⟨.inl rfl, end_plain rfl rfl rfl⟩
  · cases h
theorem g47 {l : List (Nat × Ct)} (g : Good P T l) : Good P T ((23, c47) :: l) := g.add (k47 g) (plainCt_mono _) (body_of Tryd.func23 (c := code Tryd.f23) rfl (by decide))
/-! ### (long).with -/
/-- A span of lengths of stacks of so many blocks, with a block more. -/
def addS (a b n c d e f : Int) : SV := .agg [.si .i64 ((if 0 < n then a + e else a) + c), .si .i64 ((if 0 < n then b + f else b) + d), .si .i64 (n + 1)]
def okB (n : Int) : Prop := -1000000 ≤ n ∧ n ≤ 1000000
def c63 : Ct := plainCt fun
  | [.agg [.si .i64 a, .si .i64 b, .si .i64 n], .agg [.si .i64 c, .si .i64 d], .agg [.si .i64 e, .si .i64 f]] =>
    some ⟨some (okB a ∧ okB b ∧ okB n ∧ okB c ∧ okB d ∧ okB e ∧ okB f), none, addS a b n c d e f, []⟩
  | _ => none
theorem k63 {l : List (Nat × Ct)} (g : Good P T l) : COk P 46 c63 := by
  refine cok (C := tabC _) g.ok Tryd.func46 (c := code Tryd.f46) rfl fun fr args H out h hp => ?_
  simp only [c63, plainCt] at h
  split at h
  · rename_i a b n c d e f
    cases h
    obtain ⟨ha, hb, hn, hc, hd, he, hf⟩ : okB a ∧ okB b ∧ okB n ∧ okB c ∧ okB d ∧ okB e ∧ okB f := hp
    unfold okB at ha hb hn hc hd he hf
    refine walk_plain rfl (Nat.le_of_ble_eq_true rfl) fun G hG => ?_
    refine Br.mk (fun h => ?_) (fun h => ?_)
    · have h : 0 < n := of_decide_eq_true h
      refine drawn_ok (g.ok _ _ _) fol [0,1,3,0,8,31,0,64,192,0,512,1984,511,4607,12799,32767,65535,131071] [(14,0),(17,0)] 18 (by kernel_rfl) ?_
      refine Chk.mk (show _ ∧ _ by omega) (Chk.mk (show _ ∧ _ by omega) (Chk.mk (show _ ∧ _ by omega) (Chk.mk (show _ ∧ _ by omega) (Chk.mk (show _ ∧ _ by omega) ?_))))
      refine ⟨.inl rfl, end_plain ?_ rfl rfl⟩
      simp only [addS, if_pos h]
      exact ⟨⟨rfl, rfl⟩, ⟨rfl, rfl⟩, ⟨rfl, rfl⟩, trivial⟩
    · have h : ¬ 0 < n := of_decide_eq_false h
      refine Chk.mk (show _ ∧ _ by omega) (Chk.mk (show _ ∧ _ by omega) (Chk.mk (show _ ∧ _ by omega) ?_))
      refine ⟨.inl rfl, end_plain ?_ rfl rfl⟩
      simp only [addS, if_neg h]
      exact ⟨⟨rfl, rfl⟩, ⟨rfl, rfl⟩, ⟨rfl, rfl⟩, trivial⟩
  · cases h
theorem g63 {l : List (Nat × Ct)} (g : Good P T l) : Good P T ((46, c63) :: l) := g.add (k63 g) (plainCt_mono _) (body_of Tryd.func46 (c := code Tryd.f46) rfl (by decide))

/-! ### (stack).with -/
def c72 : Ct := plainCt fun
  | [.si .u64 x, .si .i64 n] => some ⟨some (0 ≤ x ∧ x ≤ 1000000 ∧ 0 ≤ n ∧ n ≤ 40), none, .si .u64 ((x.toNat ||| 2 ^ n.toNat : Nat) : Int), []⟩
  | _ => none
theorem k72 {l : List (Nat × Ct)} (g : Good P T l) : COk P 67 c72 := by
  refine cok (C := tabC _) g.ok Tryd.func67 (c := code Tryd.f67) rfl fun fr args H out h hp => ?_
  simp only [c72, plainCt] at h
  split at h
  · rename_i x n
    cases h
    obtain ⟨h1, h2, h3, h4⟩ : 0 ≤ x ∧ x ≤ 1000000 ∧ 0 ≤ n ∧ n ≤ 40 := hp
    have hpw := pow_le (n := n.toNat) (by omega)
    have e : ((1 : Int) * 2 ^ n.toNat).toNat = 2 ^ n.toNat := by
      rw [Int.one_mul]
      exact Int.toNat_natCast (2 ^ n.toNat)
    refine walk_plain rfl (Nat.le_of_ble_eq_true rfl) fun G hG => ?_
    refine Chk.mk (show _ ∧ _ ∧ _ ∧ _ from ⟨h3, ?_, ?_⟩) (Chk.mk (show _ ∧ _ ∧ (_ ∧ _) ∧ _ ∧ _ from ?_) ⟨.inl rfl, end_plain ⟨rfl, ?_⟩ rfl rfl⟩)
    · show n.toNat ≤ 64
      omega
    · show _ ≤ (1 : Int) * 2 ^ n.toNat ∧ (1 : Int) * 2 ^ n.toNat ≤ _
      omega
    · show _ ∧ 0 ≤ (1 : Int) * 2 ^ n.toNat ∧ (_ ∧ _) ∧ _ ≤ (1 : Int) * 2 ^ n.toNat ∧ (1 : Int) * 2 ^ n.toNat ≤ _
      omega
    · show ((x.toNat ||| ((1 : Int) * 2 ^ n.toNat).toNat : Nat) : Int) = _
      rw [e]
  · cases h
theorem g72 {l : List (Nat × Ct)} (g : Good P T l) : Good P T ((67, c72) :: l) := g.add (k72 g) (plainCt_mono _) (body_of Tryd.func67 (c := code Tryd.f67) rfl (by decide))

end Go.X.S
end

section
set_option linter.unusedVariables false
set_option linter.unusedSimpArgs false
set_option linter.unusedSectionVars false
/- Stack: how many blocks; which stack comes first; refusals. -/
set_option linter.unusedVariables false
set_option linter.unusedSimpArgs false
set_option maxRecDepth 10000
set_option maxHeartbeats 1000000
namespace Go.X.S
open Go Go.Proofs Go.X

instance instInK (k : IntKind) (n : Int) : Decidable (InK k n) := by cases k <;> (unfold InK; infer_instance)

def c78 : Ct := plainCt fun
  | [.si .u64 x] => some ⟨some (0 ≤ x ∧ x < 256), none, .si .i64 (sizeN x.toNat), []⟩
  | _ => none
theorem k78 {l : List (Nat × Ct)} (g : Good P T l) : COk P 77 c78 := by
  refine cok (C := tabC _) g.ok Tryd.func77 (c := code Tryd.f77) rfl fun fr args H out h hp => ?_
  simp only [c78, plainCt] at h
  split at h
  · rename_i x
    cases h
    obtain ⟨h0, h1⟩ : 0 ≤ x ∧ x < 256 := hp
    obtain ⟨n, rfl⟩ : ∃ n : Nat, x = n := ⟨x.toNat, by omega⟩
    have hn : n < 256 := by omega
    refine walk_plain rfl (Nat.le_of_ble_eq_true rfl) fun G hG => ?_
    clear hG h0 h1
    refine Chk.mk ?_ (Chk.mk ?_ (Chk.mk ?_ (Chk.mk ?_ (Chk.mk ?_ (Chk.mk ?_ (Chk.mk ?_ (Chk.mk ?_ (Chk.mk ?_ (Chk.mk ?_ (Chk.mk ?_ (Chk.mk ?_ (Chk.mk ?_ (Chk.mk ?_ (Chk.mk ?_ (Chk.mk ?_ (Chk.mk ?_ (Chk.mk ?_ (Chk.mk ?_ ⟨.inl rfl, end_plain ⟨rfl, ?_⟩ rfl rfl⟩))))))))))))))))))
    all_goals (revert n; decide +kernel)
  · cases h
theorem g78 {l : List (Nat × Ct)} (g : Good P T l) : Good P T ((77, c78) :: l) := g.add (k78 g) (plainCt_mono _) (body_of Tryd.func77 (c := code Tryd.f77) rfl (by decide))

theorem k76 {l : List (Nat × Ct)} (g0 : Good P T l) : COk P 74 c78 := by
  have g := g78 g0
  refine cok (C := tabC _) g.ok Tryd.func74 (c := code Tryd.f74) rfl fun fr args H out h hp => ?_
  simp only [c78, plainCt] at h
  split at h
  · rename_i x
    cases h
    refine walk_plain rfl (Nat.le_of_ble_eq_true rfl) fun G hG => ?_
    refine Br.mk (fun h => by cases h) (fun _ => Chk.mk hp ⟨.inl rfl, end_plain ⟨rfl, rfl⟩ rfl rfl⟩)
  · cases h
theorem g76 {l : List (Nat × Ct)} (g : Good P T l) : Good P T ((74, c78) :: l) := g.add (k76 g) (plainCt_mono _) (body_of Tryd.func74 (c := code Tryd.f74) rfl (by decide))
theorem k75 {l : List (Nat × Ct)} (g0 : Good P T l) : COk P 68 c78 := by
  have g := g76 g0
  refine cok (C := tabC _) g.ok Tryd.func68 (c := code Tryd.f68) rfl fun fr args H out h hp => ?_
  simp only [c78, plainCt] at h
  split at h
  · rename_i x
    cases h
    refine walk_plain rfl (Nat.le_of_ble_eq_true rfl) fun G hG => ?_
    exact Chk.mk hp ⟨.inl rfl, end_plain ⟨rfl, rfl⟩ rfl rfl⟩
  · cases h
theorem g75 {l : List (Nat × Ct)} (g : Good P T l) : Good P T ((68, c78) :: l) := g.add (k75 g) (plainCt_mono _) (body_of Tryd.func68 (c := code Tryd.f68) rfl (by decide))

/-- Does a stack come before another one? -/
def lessB (x y : Int) : Bool := decide ((sizeN x.toNat : Int) < sizeN y.toNat) || (decide ((sizeN x.toNat : Int) = sizeN y.toNat) && decide (x < y))
def c74 : Ct := plainCt fun
  | [.si .u64 x, .si .u64 y] => some ⟨some (0 ≤ x ∧ x < 256 ∧ 0 ≤ y ∧ y < 256), none, .sb (lessB x y), []⟩
  | _ => none
theorem k74 {l : List (Nat × Ct)} (g0 : Good P T l) : COk P 59 c74 := by
  have g := g75 g0
  refine cok (C := tabC _) g.ok Tryd.func59 (c := code Tryd.f59) rfl fun fr args H out h hp => ?_
  simp only [c74, plainCt] at h
  split at h
  · rename_i x y
    cases h
    obtain ⟨h0, h1, h2, h3⟩ : 0 ≤ x ∧ x < 256 ∧ 0 ≤ y ∧ y < 256 := hp
    refine walk_plain rfl (Nat.le_of_ble_eq_true rfl) fun G hG => ?_
    exact Chk.mk ⟨h0, h1⟩ (Chk.mk ⟨h2, h3⟩ (Chk.mk (fun _ => ⟨h0, h1⟩) (Chk.mk (fun _ => ⟨h2, h3⟩) ⟨.inl rfl, end_plain rfl rfl rfl⟩)))
  · cases h
theorem g74 {l : List (Nat × Ct)} (g : Good P T l) : Good P T ((59, c74) :: l) := g.add (k74 g) (plainCt_mono _) (body_of Tryd.func59 (c := code Tryd.f59) rfl (by decide))

end Go.X.S
end

section
set_option linter.unusedVariables false
set_option linter.unusedSimpArgs false
set_option linter.unusedSectionVars false
/- Stack: ask, answer. -/
set_option linter.unusedVariables false
set_option linter.unusedSimpArgs false
set_option maxRecDepth 10000
set_option maxHeartbeats 1000000
namespace Go.X.S
open Go Go.Proofs Go.X

def refP (e : Int) : List PanicEntry := [{ v := .iface 97 (.int .i64 e), recovered := false }]
def c53 : Ct := plainCt fun
  | [.sb b, .si .i64 e] => some ⟨none, some (!b, refP e), .tup [], []⟩
  | _ => none
theorem k53 {l : List (Nat × Ct)} (g : Good P T l) : COk P 25 c53 := by
  refine cok (C := tabC _) g.ok Tryd.func25 (c := code Tryd.f25) rfl fun fr args H out h hp => ?_
  simp only [c53, plainCt] at h
  split at h
  · rename_i b e
    cases h
    refine walk_plain rfl (Nat.le_of_ble_eq_true rfl) fun G hG => ?_
    refine Br.mk (fun h => ?_) (fun h => ?_)
    · refine fb_panic cont_std rfl rfl rfl ?_
      exact ⟨by rw [h]; rfl, trivial⟩
    · exact ⟨.inr ⟨_, by rw [h]⟩, end_plain trivial rfl rfl⟩
  · cases h
theorem g53 {l : List (Nat × Ct)} (g : Good P T l) : Good P T ((25, c53) :: l) := g.add (k53 g) (plainCt_mono _) (body_of Tryd.func25 (c := code Tryd.f25) rfl (by decide))

theorem answer_ok : AnswerOk P 21 97 35 := by
  refine answer_of (T := T) (tabP_ok pl_ok) Tryd.func21 rfl (by decide) rfl rfl rfl rfl rfl rfl rfl rfl (by decide) (by decide) (by decide) (by decide) (by decide) ?_ ?_
  · intro x G hG
    refine Br.mk (fun h => by cases h) (fun _ => rfl)
  · intro x k m G hG
    refine Br.mk (fun _ => ?_) (fun h => by cases h)
    refine Br.mk (fun h => by cases h) (fun _ => rfl)

end Go.X.S
end

section
set_option linter.unusedVariables false
set_option linter.unusedSimpArgs false
set_option linter.unusedSectionVars false
/- Stack: functions of a set of blocks. -/
set_option linter.unusedVariables false
set_option linter.unusedSimpArgs false
set_option maxRecDepth 10000
set_option maxHeartbeats 1000000
namespace Go.X.S
open Go Go.Proofs Go.X

/-- A contract of a function of a set of blocks, and of more that holds no ids. -/
def stCt (k : List Span → Int → Int → List SV → Option (Option Prop × SV)) : Ct := fun _ args H =>
  match args with
  | .agg [.sl id, .si .i64 lo, .si .i64 hi] :: r => (match sliceOf 2 H id with
    | some (n, get) => (match k (spanL n get) lo hi r with
      | some (p, v) => some ⟨some (Spans n get ∧ knL 0 [] r = true ∧ PreH p), none, v, []⟩
      | none => none)
    | none => none)
  | _ => none
theorem stCt_mono (k : List Span → Int → Int → List SV → Option (Option Prop × SV)) : CtMono (stCt k) := by
  intro fr args H H' out hH h
  unfold stCt at h ⊢
  split at h
  · rename_i id lo hi r
    split at h
    · rename_i n get e
      simp only [sliceOf_mono hH e]
      exact h
    · cases h
  · cases h

/-- Its walk. -/
theorem stWalk {C : Nat → Option Ct} {fn : Func} {c : Code} {k : List Span → Int → Int → List SV → Option (Option Prop × SV)} {fr : Nat} {args : List SV} {H : LH} {out : COut} (ho : stCt k fr args H = some out) (hp : PreH out.pre)
    (h : ∀ (n : Nat) (sp : Nat → Span) (lo hi : Int) (r : List SV) (p : Option Prop) (v : SV) (Rv : SV → St → Prop) (Rp : List PanicEntry → St → Prop), k ((List.range n).map sp) lo hi r = some (p, v) → PreH p →
      (∀ v' st, SVeq v' v → knSV 0 [] v' = true → Rv v' st) → r.length + 1 ≤ fn.ntmps ∧
      ∀ G : Base, (∀ j, 1 ≤ j → G.ρ j = none) → exec ⟨P, T, C, G, none, fn.ntmps⟩ c (start (.agg [.sl 0, .si .i64 lo, .si .i64 hi] :: r) [(0, .ro 2 n fun i => spanC (sp i))] 1) (Fin ⟨P, T, C, G, none, fn.ntmps⟩ fn.results.toList Rv Rp)) :
    Walk P T C fn c H args fr out := by
  unfold stCt at ho
  split at ho
  · rename_i id lo hi r
    split at ho
    · rename_i n get e
      split at ho
      · rename_i p v hk
        cases ho
        obtain ⟨hs, hr, hp⟩ : Spans n get ∧ knL 0 [] r = true ∧ PreH p := hp
        have hh : Hand H [(id, .ro 2 n fun i => spanC (spanAt get i))] := hand_one e (fun i => rfl) (fun i hi => (hs i hi).symm)
        have h0 := h n (spanAt get) lo hi r p v (fun v' st => ((none : Option (Bool × List PanicEntry)) = none ∨ ∃ ch, (none : Option (Bool × List PanicEntry)) = some (false, ch)) ∧ EndOk [(id, .ro 2 n fun i => spanC (spanAt get i))] [] fr ⟨some (Spans n get ∧ knL 0 [] r = true ∧ PreH p), none, v, []⟩ v' st)
          (fun ch st => (none : Option (Bool × List PanicEntry)) = some (true, ch) ∧ keepP st.H [(0, .ro 2 n fun i => spanC (spanAt get i))]) hk hp
          (fun v' st h1 h2 => ⟨.inl rfl, end_noid h1 h2 rfl ⟨trivial, trivial⟩⟩)
        refine ⟨[(id, .ro 2 n fun i => spanC (spanAt get i))], .agg [.sl 0, .si .i64 lo, .si .i64 hi] :: r, [(0, .ro 2 n fun i => spanC (spanAt get i))], 1, [], ?_, ?_, h0.1, hh, rfl, rfl, h0.2⟩
        · show _ = renSV _ _ :: renL _ r
          rw [renL_none r hr]
          rfl
        · show (match knSV 1 [] (.agg [.sl 0, .si .i64 lo, .si .i64 hi]) with
            | true => knL 1 [] r
            | false => false) = true
          exact knL_up r hr
      · cases ho
    · cases ho
  · cases ho

/-! ### far, isSet, Set -/
def c42 : Ct := stCt fun L _ _ r => match r with
  | [.si .i64 n] => some (some (L.length ≤ 40), .sb (decide (1 ≤ n) && decide (n ≤ 2 ^ L.length - 1)))
  | _ => none
theorem k42 {l : List (Nat × Ct)} (g0 : Good P T l) : COk P 26 c42 := by
  have g := g61 g0
  refine cok (C := tabC _) g.ok Tryd.func26 (c := code Tryd.f26) rfl fun fr args H out h hp => stWalk h hp fun n sp lo hi r p v Rv Rp hk hp hR => ?_
  split at hk
  · rename_i m
    cases hk
    have hp : ((List.range n).map sp).length ≤ 40 := hp
    have hp : n ≤ 40 := by simpa using hp
    have hpw := pow_le (n := n) (by omega)
    have e : (1 : Int) * 2 ^ n = 2 ^ n := Int.one_mul _
    refine ⟨Nat.le_of_ble_eq_true rfl, fun G hG => ?_⟩
    refine Chk.mk (show _ ∧ _ ∧ _ ∧ _ from ⟨?_, ?_, ?_⟩) (Chk.mk (show _ ∧ _ from ?_) (hR _ _ ?_ rfl))
    · show (0 : Int) ≤ (n : Int)
      omega
    · show n ≤ 64
      omega
    · show _ ≤ (1 : Int) * 2 ^ n ∧ (1 : Int) * 2 ^ n ≤ _
      omega
    · show _ ≤ (1 : Int) * 2 ^ n - 1 ∧ (1 : Int) * 2 ^ n - 1 ≤ _
      omega
    · show (decide (1 ≤ m) && decide (m ≤ (1 : Int) * 2 ^ n - 1)) = _
      rw [e]; simp
  · cases hk

theorem g42 {l : List (Nat × Ct)} (g : Good P T l) : Good P T ((26, c42) :: l) := g.add (k42 g) (stCt_mono _) (body_of Tryd.func26 (c := code Tryd.f26) rfl (by decide))

/-! ### Of -/
def sumB (f : Nat → Int) (set : Nat) : Nat → Int
  | 0 => 0
  | n + 1 => sumB f set n + if set.testBit n then f n else 0
/-- How long a stack is: the blocks, and a film between each two. -/
def ofS (n : Nat) (sp : Nat → Span) (lo hi : Int) (set : Nat) : Span :=
  (((sizeN set : Int) - 1) * lo + sumB (fun i => (sp i).1) set n, ((sizeN set : Int) - 1) * hi + sumB (fun i => (sp i).2) set n)
def ofL (L : List Span) (lo hi : Int) (set : Nat) : Span := ofS L.length (fun i => L.getD i (0, 0)) lo hi set
def okN (x : Int) : Prop := -1000 ≤ x ∧ x ≤ 1000
end Go.X.S
end

section
set_option linter.unusedVariables false
set_option linter.unusedSimpArgs false
set_option linter.unusedSectionVars false
/- Stack: is a set of blocks valid; and what follows from it. -/
set_option linter.unusedVariables false
set_option linter.unusedSimpArgs false
set_option maxRecDepth 10000
set_option maxHeartbeats 1000000
namespace Go.X.S
open Go Go.Proofs Go.X

def blockNo (x : Span) : Bool := decide (x.1 < 1) || decide (x.2 < x.1) || decide (500 < x.2) || decide (6 < x.2 - x.1)
def headNo (n lo hi : Int) : Bool := decide (8 < n) || decide (lo < 0) || decide (hi < lo) || decide (5 < hi)
/-- Is a set of blocks valid? -/
def setOk (L : List Span) (lo hi : Int) : Bool := !headNo L.length lo hi && L.all fun x => !blockNo x

def c34 : Ct := stCt fun L lo hi r => match r with
  | [] => some (none, .sb (setOk L lo hi))
  | _ => none
theorem k34 {l : List (Nat × Ct)} (g : Good P T l) : COk P 7 c34 := by
  refine cok (C := tabC _) g.ok Tryd.func7 (c := code Tryd.f7) rfl fun fr args H out h hp => stWalk h hp fun n sp lo hi r p v Rv Rp hk hp hR => ?_
  split at hk
  · cases hk
    refine ⟨Nat.le_of_ble_eq_true rfl, fun G hG => ?_⟩
    refine Br.mk (fun h => ?_) (fun h => ?_)
    · have h : headNo n lo hi = true := h
      refine hR _ _ ?_ rfl
      show (false : Bool) = setOk _ lo hi
      simp [setOk, h]
    · have h : headNo n lo hi = false := h
      refine loop_ok (g.ok _ _ _) (fun x : {i : Nat // i ≤ n ∧ ∀ j, j < i → blockNo (sp j) = false} => ⟨[(1, ⟨[], .sp 1 0⟩), (3, ⟨[], .si .i64 x.1⟩)], [],
        [(0, .ro 2 n fun i => spanC (sp i)), (1, .cells 30 [.sl 0, .si .i64 lo, .si .i64 hi])], 2, []⟩) (fun x => n - x.1) (fun _ j hj => hG j (by have : 2 ≤ j := hj; omega)) ⟨0, Nat.zero_le _, fun j hj => by omega⟩ ?_ ?_
      · refine ⟨?_, ?_, rfl, rfl, rfl⟩
        · repeat' (first | exact trivial | exact rfl | refine And.intro ?_ ?_)
        · exact ⟨⟨rfl, fun i hi => rfl, rfl⟩, ⟨⟨rfl, rfl, ⟨rfl, rfl⟩, ⟨rfl, rfl⟩, trivial⟩, rfl, rfl⟩, trivial⟩
      · rintro ⟨i, hin, hall⟩
        refine Br.mk (fun h1 => ?_) (fun h1 => ?_)
        · have h1 : (i : Int) < (n : Int) := of_decide_eq_true h1
          refine Chk.mk (show (0 : Int) ≤ (i : Int) ∧ (i : Int) < (n : Int) from ⟨by omega, h1⟩) ?_
          refine Chk.mk ?_ ?_
          · show (decide ((sp i).1 < 1) || decide ((sp i).2 < (sp i).1) || decide (500 < (sp i).2)) = false → InK .i64 ((sp i).2 - (sp i).1)
            intro hb
            simp only [Bool.or_eq_false_iff, decide_eq_false_iff_not] at hb
            show _ ≤ (sp i).2 - (sp i).1 ∧ (sp i).2 - (sp i).1 ≤ _
            omega
          refine Br.mk (fun h2 => ?_) (fun h2 => ?_)
          · have h2 : blockNo (sp i) = true := h2
            refine hR _ _ ?_ rfl
            show (false : Bool) = setOk _ lo hi
            have : (List.map sp (List.range n)).all (fun x => !blockNo x) = false := by
              rw [List.all_eq_false]
              exact ⟨sp i, List.mem_map.2 ⟨i, List.mem_range.2 (by omega), rfl⟩, by simp [h2]⟩
            simp [setOk, this]
          · have h2 : blockNo (sp i) = false := h2
            refine Chk.mk (show _ ∧ _ from ?_) ⟨⟨i + 1, (by omega : i + 1 ≤ n), ?_⟩, ?_, ?_⟩
            · show _ ≤ (i : Int) + 1 ∧ (i : Int) + 1 ≤ _
              have h8 := h
              simp only [headNo, Bool.or_eq_false_iff, decide_eq_false_iff_not] at h8
              omega
            · intro j hj
              rcases Nat.lt_or_ge j i with h3 | h3
              · exact hall j h3
              · rw [show j = i by omega]; exact h2
            · refine ⟨?_, ?_, rfl, rfl, rfl⟩
              · repeat' (first | exact trivial | exact rfl | refine And.intro ?_ ?_)
              · exact ⟨⟨rfl, fun i hi => rfl, rfl⟩, ⟨⟨rfl, rfl, ⟨rfl, rfl⟩, ⟨rfl, rfl⟩, trivial⟩, rfl, rfl⟩, trivial⟩
            · show n - (i + 1) < n - i
              omega
        · have h1 : ¬ (i : Int) < (n : Int) := of_decide_eq_false h1
          have hin' : i = n := by omega
          refine hR _ _ ?_ rfl
          show (true : Bool) = setOk _ lo hi
          have : (List.map sp (List.range n)).all (fun x => !blockNo x) = true := by
            rw [List.all_eq_true]
            intro x hx
            obtain ⟨j, hj, rfl⟩ := List.mem_map.1 hx
            rw [hall j (by rw [hin']; exact List.mem_range.1 hj)]
            rfl
          simp [setOk, this, h]
  · cases hk

/-! ### Set, check, right, Off -/
def isSetB (n : Nat) (m : Int) : Bool := decide (1 ≤ m) && decide (m ≤ 2 ^ n - 1)
def preOf (L : List Span) (lo hi set : Int) : Prop := L.length ≤ 40 ∧ 0 ≤ set ∧ set < 1099511627776 ∧ okN lo ∧ okN hi ∧ ∀ x ∈ L, okN x.1 ∧ okN x.2
/-! ### Off -/
end Go.X.S
end

section
set_option linter.unusedVariables false
set_option linter.unusedSimpArgs false
set_option linter.unusedSectionVars false
/- Stack: the document's exported functions: Long, Right. -/
set_option linter.unusedVariables false
set_option linter.unusedSimpArgs false
set_option maxRecDepth 10000
set_option maxHeartbeats 1000000
namespace Go.X.S
open Go Go.Proofs Go.X

def errV (L : List Span) (lo hi : Int) (b : Bool) : Int := if setOk L lo hi then (if b then 0 else 2) else 1
theorem errV_zero {L : List Span} {lo hi : Int} {b : Bool} (h : errV L lo hi b = 0) : setOk L lo hi = true ∧ b = true := by
  unfold errV at h
  cases hs : setOk L lo hi <;> cases b <;> simp [hs] at h ⊢
theorem setOk_len {L : List Span} {lo hi : Int} (h : setOk L lo hi = true) : L.length ≤ 8 ∧ 0 ≤ lo ∧ lo ≤ hi ∧ hi ≤ 5 ∧ ∀ x ∈ L, 1 ≤ x.1 ∧ x.1 ≤ x.2 ∧ x.2 ≤ 500 ∧ x.2 - x.1 ≤ 6 := by
  simp only [setOk, headNo, Bool.and_eq_true, Bool.not_eq_true', Bool.or_eq_false_iff, decide_eq_false_iff_not, List.all_eq_true] at h
  obtain ⟨⟨⟨⟨h1, h2⟩, h3⟩, h4⟩, h5⟩ := h
  refine ⟨by omega, by omega, by omega, by omega, fun x hx => ?_⟩
  have := h5 x hx
  simp only [blockNo, Bool.or_eq_false_iff, decide_eq_false_iff_not] at this
  omega
theorem isSetB_ok {n : Nat} {m : Int} (h : isSetB n m = true) (hn : n ≤ 8) : 1 ≤ m ∧ m < 256 ∧ m < 2 ^ n := by
  simp only [isSetB, Bool.and_eq_true, decide_eq_true_eq] at h
  have : (2 : Nat) ^ n ≤ 2 ^ 8 := Nat.pow_le_pow_right (by decide) hn
  have h2 : ((2 ^ n : Nat) : Int) ≤ ((2 ^ 8 : Nat) : Int) := by exact_mod_cast this
  rw [Int.natCast_pow] at h2
  have h3 : ((2 : Nat) : Int) ^ n = (2 : Int) ^ n := rfl
  rw [h3] at h2
  have h4 : ((2 ^ 8 : Nat) : Int) = 256 := by decide
  omega
theorem preOf_ok {L : List Span} {lo hi m : Int} (h : errV L lo hi (isSetB L.length m) = 0) : preOf L lo hi m := by
  obtain ⟨h1, h2⟩ := errV_zero h
  obtain ⟨a1, a2, a3, a4, a5⟩ := setOk_len h1
  obtain ⟨b1, b2, _⟩ := isSetB_ok h2 a1
  refine ⟨by omega, by omega, by omega, ⟨by omega, by omega⟩, ⟨by omega, by omega⟩, fun x hx => ?_⟩
  have := a5 x hx
  exact ⟨⟨by omega, by omega⟩, by omega, by omega⟩

def longV (L : List Span) (lo hi m : Int) : Span := if errV L lo hi (isSetB L.length m) = 0 then ofL L lo hi m.toNat else (0, 0)
def c15 : Ct := stCt fun L lo hi r => match r with
  | [.si .i64 m] => some (some (L.length ≤ 40), .tup [.agg [.si .i64 (longV L lo hi m).1, .si .i64 (longV L lo hi m).2], .si .i64 (errV L lo hi (isSetB L.length m))])
  | _ => none
def isWantB (a b : Int) : Bool := decide (0 ≤ a) && decide (a ≤ b) && decide (b ≤ 5000)
end Go.X.S
end

section
set_option linter.unusedVariables false
set_option linter.unusedSimpArgs false
set_option linter.unusedSectionVars false
/- Stack: open. -/
set_option linter.unusedVariables false
set_option linter.unusedSimpArgs false
set_option maxRecDepth 10000
set_option maxHeartbeats 1000000
namespace Go.X.S
open Go Go.Proofs Go.X

def c41 : Ct := fun fr args H =>
  match args with
  | [.agg [.sl id, .si .i64 lo, .si .i64 hi], .sb is] => (match sliceOf 2 H id with
    | some (n, get) => some ⟨some (Spans n get), some (!decide (errV (spanL n get) lo hi is = 0), refP (errV (spanL n get) lo hi is)), .sp fr 0,
        [(fr, .cells 100 [.sl (fr + 1), .si .i64 lo, .si .i64 hi]), (fr + 1, .ro 2 n fun i => spanC (spanAt get i))]⟩
    | none => none)
  | _ => none
theorem c41_mono : CtMono c41 := by
  intro fr args H H' out hH h
  unfold c41 at h ⊢
  split at h
  · split at h
    · rename_i e
      simp only [sliceOf_mono hH e]
      exact h
    · cases h
  · cases h

def blockYes (x : Span) : Bool := decide (1 ≤ x.1) && decide (x.1 ≤ x.2) && decide (x.2 ≤ 500) && decide (x.2 - x.1 ≤ 6)
theorem blockYes_eq (x : Span) : blockYes x = !blockNo x := by
  simp only [blockYes, blockNo, Bool.not_or, ← Bool.decide_and]
  rw [Bool.eq_iff_iff]
  simp
def headYes (n lo hi : Int) : Bool := decide (n ≤ 8) && decide (0 ≤ lo) && decide (lo ≤ hi) && decide (hi ≤ 5)
theorem headYes_eq (n lo hi : Int) : headYes n lo hi = !headNo n lo hi := by
  simp only [headYes, headNo]
  rw [Bool.eq_iff_iff]
  simp

theorem k41 {l : List (Nat × Ct)} (g0 : Good P T l) : COk P 22 c41 := by
  have g := g53 g0
  refine cok (C := tabC _) g.ok Tryd.func22 (c := code Tryd.f22) rfl fun fr args H out h hp => ?_
  unfold c41 at h
  split at h
  · rename_i id lo hi is
    split at h
    · rename_i n get e
      cases h
      have hs : Spans n get := hp
      have hh : Hand H [(id, .ro 2 n fun i => spanC (spanAt get i))] := hand_one e (fun i => rfl) (fun i hi => (hs i hi).symm)
      refine ⟨[(id, .ro 2 n fun i => spanC (spanAt get i))], [.agg [.sl 0, .si .i64 lo, .si .i64 hi], .sb is], [(0, .ro 2 n fun i => spanC (spanAt get i))], 1, [3, 2], rfl, rfl, Nat.le_of_ble_eq_true rfl, hh, rfl, rfl, fun G hG => ?_⟩
      generalize hsp : spanAt get = sp
      have hE : errV (spanL n get) lo hi is = if headYes n lo hi = true then (if (List.range n).all (fun i => blockYes (sp i)) = true then (if is then 0 else 2) else 1) else 1 := by
        have h1 : (spanL n get).all (fun x => !blockNo x) = (List.range n).all (fun i => blockYes (sp i)) := by
          subst hsp
          simp only [spanL, List.all_map]
          congr 1
          funext i
          exact (blockYes_eq _).symm
        have h2 : (spanL n get).length = n := by simp [spanL]
        simp only [errV, setOk, h1, h2, headYes_eq]
        cases headNo (n : Int) lo hi <;> simp
      generalize errV (spanL n get) lo hi is = E at hE
      refine Br.mk (fun h => ?_) (fun h => ?_)
      · have h : (!headYes n lo hi) = true := h
        have h : headYes n lo hi = false := by simpa only [Bool.not_eq_true'] using h
        rw [h] at hE
        simp at hE
        subst hE
        exact ⟨rfl, trivial, trivial⟩
      · have h : (!headYes n lo hi) = false := h
        have h : headYes n lo hi = true := by simpa only [Bool.not_eq_false'] using h
        rw [h] at hE
        simp only [if_true] at hE
        have h8 : n ≤ 8 := by
          simp only [headYes, Bool.and_eq_true, decide_eq_true_eq] at h
          omega
        refine loop_ok (g.ok _ _ _) (fun x : {i : Nat // i ≤ n ∧ ∀ j, j < i → blockYes (sp j) = true} => ⟨[(1, ⟨[], .sb is⟩), (2, ⟨[], .sp 1 0⟩), (35, ⟨[], .sl 0⟩), (36, ⟨[], .si .i64 n⟩), (37, ⟨[], .si .i64 x.1⟩)], [],
          [(0, .ro 2 n fun i => spanC (sp i)), (1, .cells 30 [.sl 0, .si .i64 lo, .si .i64 hi])], 2, []⟩) (fun x => n - x.1) (fun _ j hj => hG j (by have : 2 ≤ j := hj; omega)) ⟨0, Nat.zero_le _, fun j hj => by omega⟩ ?_ ?_
        · refine ⟨?_, ?_, rfl, rfl, rfl⟩
          · repeat' (first | exact trivial | exact rfl | refine And.intro ?_ ?_)
          · exact ⟨⟨rfl, fun i hi => rfl, rfl⟩, ⟨⟨rfl, rfl, ⟨rfl, rfl⟩, ⟨rfl, rfl⟩, trivial⟩, rfl, rfl⟩, trivial⟩
        · rintro ⟨i, hin, hall⟩
          refine Br.mk (fun h1 => ?_) (fun h1 => ?_)
          · have h1 : (i : Int) < (n : Int) := of_decide_eq_true h1
            refine Chk.mk (show (0 : Int) ≤ (i : Int) ∧ (i : Int) < (n : Int) from ⟨by omega, h1⟩) ?_
            refine Chk.mk ?_ ?_
            · show (decide (1 ≤ (sp i).1) && decide ((sp i).1 ≤ (sp i).2) && decide ((sp i).2 ≤ 500)) = true → InK .i64 ((sp i).2 - (sp i).1)
              intro hb
              simp only [Bool.and_eq_true, decide_eq_true_eq] at hb
              show _ ≤ (sp i).2 - (sp i).1 ∧ (sp i).2 - (sp i).1 ≤ _
              omega
            refine Br.mk (fun h2 => ?_) (fun h2 => ?_)
            · have h2 : (!blockYes (sp i)) = true := h2
              have h2 : blockYes (sp i) = false := by simpa only [Bool.not_eq_true'] using h2
              have h3 : (List.range n).all (fun i => blockYes (sp i)) = false := by
                rw [List.all_eq_false]
                exact ⟨i, List.mem_range.2 (by omega), by simp [h2]⟩
              rw [h3] at hE
              simp at hE
              subst hE
              exact ⟨rfl, trivial, trivial⟩
            · have h2 : (!blockYes (sp i)) = false := h2
              have h2 : blockYes (sp i) = true := by simpa only [Bool.not_eq_false'] using h2
              refine Chk.mk (show _ ∧ _ from ?_) ⟨⟨i + 1, (by omega : i + 1 ≤ n), ?_⟩, ?_, ?_⟩
              · show _ ≤ (i : Int) + 1 ∧ (i : Int) + 1 ≤ _
                omega
              · intro j hj
                rcases Nat.lt_or_ge j i with h3 | h3
                · exact hall j h3
                · rw [show j = i by omega]; exact h2
              · refine ⟨?_, ?_, rfl, rfl, rfl⟩
                · repeat' (first | exact trivial | exact rfl | refine And.intro ?_ ?_)
                · exact ⟨⟨rfl, fun i hi => rfl, rfl⟩, ⟨⟨rfl, rfl, ⟨rfl, rfl⟩, ⟨rfl, rfl⟩, trivial⟩, rfl, rfl⟩, trivial⟩
              · show n - (i + 1) < n - i
                omega
          · have h1 : ¬ (i : Int) < (n : Int) := of_decide_eq_false h1
            have hin' : i = n := by omega
            have h3 : (List.range n).all (fun i => blockYes (sp i)) = true := by
              rw [List.all_eq_true]
              intro j hj
              exact hall j (by rw [hin']; exact List.mem_range.1 hj)
            rw [h3] at hE
            simp only [if_true] at hE
            refine Br.mk (fun h2 => ?_) (fun h2 => ?_)
            · have h2 : (!is) = true := h2
              have h2 : is = false := by simpa only [Bool.not_eq_true'] using h2
              subst h2
              simp at hE
              subst hE
              exact ⟨rfl, trivial, trivial⟩
            · have h2 : (!is) = false := h2
              have h2 : is = true := by simpa only [Bool.not_eq_false'] using h2
              subst h2
              simp at hE
              subst hE
              refine fb_makeVec n (g.ok _ _ _) cont_std rfl rfl rfl rfl rfl rfl rfl rfl rfl rfl (by decide) (by omega) rfl rfl ?_
              refine fb_copy 2 0 n n _ (fun i => spanC (sp i)) (fun i => spanC (sp i)) (g.ok _ _ _) cont_std rfl rfl rfl rfl rfl rfl rfl rfl rfl rfl rfl rfl rfl rfl rfl (by decide) (fun i hi => by rw [if_pos hi]) ?_
              exact ⟨.inr ⟨_, rfl⟩, ⟨⟨rfl, rfl⟩, rfl, ⟨rfl, ⟨⟨rfl, rfl, ⟨rfl, rfl⟩, ⟨rfl, rfl⟩, trivial⟩, rfl⟩, rfl, ⟨rfl, rfl, fun i hi => ⟨rfl, rfl⟩⟩, trivial⟩, ⟨trivial, trivial⟩, rfl, rfl⟩⟩
    · cases h
  · cases h
theorem g41 {l : List (Nat × Ct)} (g : Good P T l) : Good P T ((22, c41) :: l) := g.add (k41 g) c41_mono (body_of Tryd.func22 (c := code Tryd.f22) rfl (by decide))

end Go.X.S
end

section
set_option linter.unusedVariables false
set_option linter.unusedSimpArgs false
set_option linter.unusedSectionVars false
/- Stack: functions of a set that is looked at; of. -/
set_option linter.unusedVariables false
set_option linter.unusedSimpArgs false
set_option maxRecDepth 10000
set_option maxHeartbeats 1000000
namespace Go.X.S
open Go Go.Proofs Go.X

/-- A contract of a function of a set that is looked at, and of more that holds no ids. -/
def setCt (k : List Span → Int → Int → List SV → Option (Option Prop × SV)) : Ct := fun _ args H =>
  match args with
  | .sp sid 0 :: r => (match H sid with
    | some (.cells 100 [.sl id, .si .i64 lo, .si .i64 hi]) => (match sliceOf 2 H id with
      | some (n, get) => (match k (spanL n get) lo hi r with
        | some (p, v) => some ⟨some (Spans n get ∧ knL 0 [] r = true ∧ PreH p), none, v, []⟩
        | none => none)
      | none => none)
    | _ => none)
  | _ => none
theorem setCt_mono (k : List Span → Int → Int → List SV → Option (Option Prop × SV)) : CtMono (setCt k) := by
  intro fr args H H' out hH h
  unfold setCt at h ⊢
  split at h
  · split at h
    · rename_i e1
      rw [hH _ _ e1]
      split at h
      · rename_i e
        simp only [sliceOf_mono hH e]
        exact h
      · cases h
    · cases h
  · cases h

def setP (sid id n : Nat) (lo hi : Int) (sp : Nat → Span) : List (Nat × HB) := [(sid, .cells 100 [.sl 1, .si .i64 lo, .si .i64 hi]), (id, .ro 2 n fun i => spanC (sp i))]
theorem setHand {H : LH} {sid id n : Nat} {lo hi : Int} {get : Nat → List SV} (h1 : H sid = some (.cells 100 [.sl id, .si .i64 lo, .si .i64 hi])) (h2 : sliceOf 2 H id = some (n, get)) (hs : Spans n get) :
    Hand H (setP sid id n lo hi (spanAt get)) where
  ok j c hb h := by
    match j, h with
    | 0, h => simp [setP] at h; obtain ⟨rfl, rfl⟩ := h; exact h1
    | 1, h =>
      simp [setP] at h; obtain ⟨rfl, rfl⟩ := h
      exact sliceOf_piece h2 fun i hi => by rw [hs i hi]; rfl
    | j + 2, h => simp [setP] at h
  ids j c hb h := by
    match j, h with
    | 0, h => simp [setP] at h; obtain ⟨rfl, rfl⟩ := h; exact ⟨by show 1 < 2; decide, trivial, trivial, trivial⟩
    | 1, h => simp [setP] at h; obtain ⟨rfl, rfl⟩ := h; exact fun i hi => ⟨trivial, trivial, trivial⟩
    | j + 2, h => simp [setP] at h
  inj i j c hb hb' h1 h2 o1 o2 := by
    match i, j, h1, h2 with
    | 0, 0, _, _ => rfl
    | 1, 1, _, _ => rfl
    | 0, 1, h1, h2 => simp [setP] at h2; obtain ⟨_, rfl⟩ := h2; cases o2
    | 1, 0, h1, h2 => simp [setP] at h1; obtain ⟨_, rfl⟩ := h1; cases o1
    | i + 2, _, h, _ => simp [setP] at h
    | _, j + 2, _, h => simp [setP] at h

def setH (n : Nat) (lo hi : Int) (sp : Nat → Span) : List (Nat × HB) := [(0, .cells 100 [.sl 1, .si .i64 lo, .si .i64 hi]), (1, .ro 2 n fun i => spanC (sp i))]
/-- Its walk. -/
theorem setWalk {C : Nat → Option Ct} {fn : Func} {c : Code} {k : List Span → Int → Int → List SV → Option (Option Prop × SV)} {fr : Nat} {args : List SV} {H : LH} {out : COut} (ho : setCt k fr args H = some out) (hp : PreH out.pre)
    (h : ∀ (n : Nat) (sp : Nat → Span) (lo hi : Int) (r : List SV) (p : Option Prop) (v : SV) (Rv : SV → St → Prop) (Rp : List PanicEntry → St → Prop), k ((List.range n).map sp) lo hi r = some (p, v) → PreH p →
      (∀ v' st, SVeq v' v → knSV 0 [] v' = true → keepP st.H (setH n lo hi sp) → Rv v' st) → r.length + 1 ≤ fn.ntmps ∧
      ∀ G : Base, (∀ j, 2 ≤ j → G.ρ j = none) → exec ⟨P, T, C, G, none, fn.ntmps⟩ c (start (.sp 0 0 :: r) (setH n lo hi sp) 2) (Fin ⟨P, T, C, G, none, fn.ntmps⟩ fn.results.toList Rv Rp)) :
    Walk P T C fn c H args fr out := by
  unfold setCt at ho
  split at ho
  · rename_i sid r
    split at ho
    · rename_i id lo hi e1
      split at ho
      · rename_i n get e
        split at ho
        · rename_i p v hk
          cases ho
          obtain ⟨hs, hr, hp⟩ : Spans n get ∧ knL 0 [] r = true ∧ PreH p := hp
          have hh := setHand e1 e hs
          have h0 := h n (spanAt get) lo hi r p v (fun v' st => ((none : Option (Bool × List PanicEntry)) = none ∨ ∃ ch, (none : Option (Bool × List PanicEntry)) = some (false, ch)) ∧ EndOk (setP sid id n lo hi (spanAt get)) [] fr ⟨some (Spans n get ∧ knL 0 [] r = true ∧ PreH p), none, v, []⟩ v' st)
            (fun ch st => (none : Option (Bool × List PanicEntry)) = some (true, ch) ∧ keepP st.H (setH n lo hi (spanAt get))) hk hp
            (fun v' st h1 h2 h3 => ⟨.inl rfl, end_noid h1 h2 rfl h3⟩)
          refine ⟨setP sid id n lo hi (spanAt get), .sp 0 0 :: r, setH n lo hi (spanAt get), 2, [], ?_, ?_, h0.1, hh, rfl, rfl, h0.2⟩
          · show _ = renSV _ _ :: renL _ r
            rw [renL_none r hr]
            rfl
          · show (match knSV 2 [] (.sp 0 0) with
              | true => knL 2 [] r
              | false => false) = true
            exact knL_up r hr
        · cases ho
      · cases ho
    · cases ho
  · cases ho

/-! ### of -/
def cntB (set : Nat) : Nat → Nat
  | 0 => 0
  | n + 1 => cntB set n + if set.testBit n then 1 else 0
def wS (f : Nat → Int) (film : Int) (set : Nat) : Nat → Int
  | 0 => 0
  | n + 1 => if set.testBit n then (if 0 < cntB set n then wS f film set n + film else wS f film set n) + f n else wS f film set n
theorem cntB_le (set : Nat) : ∀ n, cntB set n ≤ n
  | 0 => Nat.le_refl _
  | n + 1 => by have := cntB_le set n; simp only [cntB]; split <;> omega
theorem cntB_zero {set : Nat} : ∀ {n}, cntB set n = 0 → ∀ (f : Nat → Int) film, wS f film set n = 0
  | 0, _, _, _ => rfl
  | n + 1, h, f, film => by
    simp only [cntB] at h
    have h1 : cntB set n = 0 := by omega
    have h2 : set.testBit n = false := by
      cases hb : set.testBit n with
      | false => rfl
      | true => rw [hb] at h; simp at h
    simp only [wS, h2]
    exact cntB_zero h1 f film
theorem wS_eq (f : Nat → Int) (film : Int) (set : Nat) : ∀ n, 0 < cntB set n → wS f film set n = ((cntB set n : Int) - 1) * film + sumB f set n
  | 0, h => by simp [cntB] at h
  | n + 1, h => by
    cases hb : set.testBit n with
    | false =>
      have e : cntB set (n + 1) = cntB set n := by simp [cntB, hb]
      simp only [wS, sumB, hb, e]
      rw [e] at h
      have := wS_eq f film set n h
      simp
      exact this
    | true =>
      have e : cntB set (n + 1) = cntB set n + 1 := by simp [cntB, hb]
      simp only [wS, sumB, hb, if_true, e]
      rcases Nat.eq_zero_or_pos (cntB set n) with h0 | h0
      · have s0 : ∀ m, cntB set m = 0 → sumB f set m = 0 := by
          intro m
          induction m with
          | zero => intro _; rfl
          | succ m ih =>
            intro hm
            simp only [cntB] at hm
            have h2 : set.testBit m = false := by
              cases hb : set.testBit m with
              | false => rfl
              | true => rw [hb] at hm; simp at hm
            simp [sumB, h2, ih (by omega)]
        rw [h0, cntB_zero h0, s0 n h0]
        simp
      · rw [if_pos h0, wS_eq f film set n h0]
        have : ((cntB set n + 1 : Nat) : Int) - 1 = ((cntB set n : Int) - 1) + 1 := by omega
        rw [this, Int.add_mul ((cntB set n : Int) - 1) 1 film]
        omega
theorem wS_le {f : Nat → Int} {film : Int} (set : Nat) (hf : 0 ≤ film ∧ film ≤ 1000) : ∀ n, (∀ i, i < n → 0 ≤ f i ∧ f i ≤ 1000) → 0 ≤ wS f film set n ∧ wS f film set n ≤ n * 2000
  | 0, _ => by simp [wS]
  | n + 1, h => by
    have h1 := wS_le set hf n (fun i hi => h i (by omega))
    have h2 := h n (by omega)
    simp only [wS]
    split
    · split <;> omega
    · omega

theorem shr_bit {x n : Nat} : decide ((((((x : Int).fdiv (2 ^ n)).toNat &&& (1 : Int).toNat : Nat)) : Int) = 1) = x.testBit n := by
  have h1 : ((x : Int).fdiv (2 ^ n)) = ((x / 2 ^ n : Nat) : Int) := by
    rw [Int.fdiv_eq_ediv_of_nonneg _ (Int.pow_nonneg (by omega))]
    push_cast
    rfl
  rw [h1, Nat.testBit_eq_decide_div_mod_eq]
  have : ((1 : Int).toNat) = 1 := rfl
  rw [this, Int.toNat_natCast, Nat.and_one_is_mod]
  simp only [decide_eq_decide]
  omega

/-- How long a stack of a set is, and of how many blocks. -/
def ofW (L : List Span) (lo hi : Int) (set : Nat) : Int × Int × Int :=
  (wS (fun i => (L.getD i (0, 0)).1) lo set L.length, wS (fun i => (L.getD i (0, 0)).2) hi set L.length, cntB set L.length)
theorem wS_congr {f g : Nat → Int} {film : Int} {set : Nat} : ∀ n, (∀ i, i < n → f i = g i) → wS f film set n = wS g film set n
  | 0, _ => rfl
  | n + 1, h => by
    have := wS_congr (f := f) (g := g) (film := film) (set := set) n (fun i hi => h i (by omega))
    simp only [wS, this, h n (by omega)]
theorem getD_map {n i : Nat} {sp : Nat → Span} (h : i < n) : ((List.range n).map sp).getD i (0, 0) = sp i := by
  simp [List.getD_eq_getElem?_getD, List.getElem?_map, List.getElem?_range h]
theorem ofW_map {n : Nat} {sp : Nat → Span} {lo hi : Int} {set : Nat} : ofW ((List.range n).map sp) lo hi set = (wS (fun i => (sp i).1) lo set n, wS (fun i => (sp i).2) hi set n, (cntB set n : Int)) := by
  simp only [ofW, List.length_map, List.length_range]
  rw [wS_congr (f := fun i => (((List.range n).map sp).getD i (0, 0)).1) (g := fun i => (sp i).1) n (fun i hi => by rw [getD_map hi]), wS_congr (f := fun i => (((List.range n).map sp).getD i (0, 0)).2) (g := fun i => (sp i).2) n (fun i hi => by rw [getD_map hi])]

def okP (x : Int) : Prop := 0 ≤ x ∧ x ≤ 1000
/-- What is asked of a set of blocks that is looked at. -/
def okSet (L : List Span) (lo hi : Int) : Prop := L.length ≤ 8 ∧ okP lo ∧ okP hi ∧ ∀ x ∈ L, okP x.1 ∧ okP x.2
def long3 (x : Int × Int × Int) : SV := .agg [.si .i64 x.1, .si .i64 x.2.1, .si .i64 x.2.2]
def c43 : Ct := setCt fun L lo hi r => match r with
  | [.si .u64 set] => some (some (okSet L lo hi ∧ 0 ≤ set ∧ set ≤ 1000000), long3 (ofW L lo hi set.toNat))
  | _ => none
theorem k43 {l : List (Nat × Ct)} (g0 : Good P T l) : COk P 27 c43 := by
  have g := g63 g0
  refine cok (C := tabC _) g.ok Tryd.func27 (c := code Tryd.f27) rfl fun fr args H out h hp => setWalk h hp fun n sp lo hi r p v Rv Rp hk hp hR => ?_
  split at hk
  · rename_i set
    simp only [ofW_map] at hk
    cases hk
    obtain ⟨⟨hn, hlo, hhi, hb⟩, h0, h1⟩ : okSet _ lo hi ∧ 0 ≤ set ∧ set ≤ 1000000 := hp
    have hn : n ≤ 8 := by simpa using hn
    obtain ⟨set, rfl⟩ : ∃ m : Nat, set = m := ⟨set.toNat, by omega⟩
    have hb : ∀ i, i < n → okP (sp i).1 ∧ okP (sp i).2 := fun i hi => hb _ (List.mem_map.2 ⟨i, List.mem_range.2 hi, rfl⟩)
    unfold okP at hlo hhi hb
    refine ⟨Nat.le_of_ble_eq_true rfl, fun G hG => ?_⟩
    refine loop_ok (g.ok _ _ _) (fun x : {i : Nat // i ≤ n} => ⟨[(0, ⟨[], .sp 0 0⟩), (1, ⟨[], .si .u64 set⟩), (4, ⟨[], .sp 2 0⟩), (10, ⟨[], .sl 1⟩), (11, ⟨[], .si .i64 n⟩), (12, ⟨[], .si .i64 x.1⟩)], [],
      (2, .cells 75 [.si .i64 (wS (fun i => (sp i).1) lo set x.1), .si .i64 (wS (fun i => (sp i).2) hi set x.1), .si .i64 (cntB set x.1)]) :: setH n lo hi sp, 3, []⟩) (fun x => n - x.1) (fun _ j hj => hG j (by have : 3 ≤ j := hj; omega)) ⟨0, Nat.zero_le _⟩ ?_ ?_
    · refine ⟨?_, ?_, rfl, rfl, rfl⟩
      · repeat' (first | exact trivial | exact rfl | refine And.intro ?_ ?_)
      · exact ⟨⟨⟨rfl, ⟨rfl, rfl⟩, ⟨rfl, rfl⟩, ⟨rfl, rfl⟩, trivial⟩, rfl, rfl⟩, ⟨⟨rfl, rfl, ⟨rfl, rfl⟩, ⟨rfl, rfl⟩, trivial⟩, rfl, rfl⟩, ⟨rfl, fun i hi => rfl, rfl⟩, trivial⟩
    · rintro ⟨i, hin⟩
      refine Br.mk (fun h => ?_) (fun h => ?_)
      · have h : (i : Int) < (n : Int) := of_decide_eq_true h
        have s1 := wS_le (f := fun i => (sp i).1) set hlo i (fun j hj => (hb j (by omega)).1)
        have s2 := wS_le (f := fun i => (sp i).2) set hhi i (fun j hj => (hb j (by omega)).2)
        have b1 := (hb i (by omega)).1
        have b2 := (hb i (by omega)).2
        have cl := cntB_le set i
        have hk0 : 0 ≤ (set : Int).fdiv (2 ^ i) ∧ (set : Int).fdiv (2 ^ i) ≤ 1000000 := by
          rw [Int.fdiv_eq_ediv_of_nonneg _ (Int.pow_nonneg (by omega))]
          have := Int.ediv_le_self (a := (set : Int)) (2 ^ i) (by omega)
          exact ⟨Int.ediv_nonneg (by omega) (Int.pow_nonneg (by omega)), by omega⟩
        refine Chk.mk (show (0 : Int) ≤ (i : Int) ∧ (i : Int) < (n : Int) from ⟨by omega, h⟩) (Chk.mk (show (0 : Int) ≤ (i : Int) ∧ _ from ⟨by omega, ?_⟩) (Chk.mk (show 0 ≤ (set : Int).fdiv (2 ^ i) ∧ (0 : Int) ≤ 1 ∧ (0 ≤ (set : Int).fdiv (2 ^ i) ∧ (set : Int).fdiv (2 ^ i) ≤ _) ∧ ((0 : Int) ≤ 1 ∧ (1 : Int) ≤ _) from ?_) ?_))
        · show i ≤ 64
          omega
        · omega
        refine Br.mk (fun hh => ?_) (fun hh => ?_)
        · have hh : set.testBit i = true := by rw [← shr_bit]; exact hh
          have e1 : wS (fun i => (sp i).1) lo set (i + 1) = (if 0 < cntB set i then wS (fun i => (sp i).1) lo set i + lo else wS (fun i => (sp i).1) lo set i) + (sp i).1 := by simp only [wS, hh, if_true]
          have e2 : wS (fun i => (sp i).2) hi set (i + 1) = (if 0 < cntB set i then wS (fun i => (sp i).2) hi set i + hi else wS (fun i => (sp i).2) hi set i) + (sp i).2 := by simp only [wS, hh, if_true]
          refine drawn_ok (g.ok _ _ _) fol [0,0,0,4,12,28,63,127] [(7,2)] 8 (by kernel_rfl) ?_
          refine Chk.mk (show okB _ ∧ okB _ ∧ okB _ ∧ okB _ ∧ okB _ ∧ okB _ ∧ okB _ from ?_) (Chk.mk (show _ ∧ _ from ?_) ⟨⟨i + 1, (by omega : i + 1 ≤ n)⟩, ?_, ?_⟩)
          · unfold okB
            show (_ ≤ wS (fun i => (sp i).1) lo set i ∧ wS (fun i => (sp i).1) lo set i ≤ _) ∧ (_ ≤ wS (fun i => (sp i).2) hi set i ∧ wS (fun i => (sp i).2) hi set i ≤ _) ∧ (_ ≤ (cntB set i : Int) ∧ (cntB set i : Int) ≤ _) ∧ (_ ≤ (sp i).1 ∧ (sp i).1 ≤ _) ∧ (_ ≤ (sp i).2 ∧ (sp i).2 ≤ _) ∧ (_ ≤ lo ∧ lo ≤ _) ∧ (_ ≤ hi ∧ hi ≤ _)
            omega
          · show _ ≤ (i : Int) + 1 ∧ (i : Int) + 1 ≤ _
            omega
          · refine ⟨?_, ?_, rfl, rfl, rfl⟩
            · repeat' (first | exact trivial | exact rfl | refine And.intro ?_ ?_)
            · refine ⟨⟨⟨rfl, ⟨rfl, ?_⟩, ⟨rfl, ?_⟩, ⟨rfl, ?_⟩, trivial⟩, rfl, rfl⟩, ⟨⟨rfl, rfl, ⟨rfl, rfl⟩, ⟨rfl, rfl⟩, trivial⟩, rfl, rfl⟩, ⟨rfl, fun i hi => rfl, rfl⟩, trivial⟩
              · show (if (0 : Int) < (cntB set i : Int) then wS (fun i => (sp i).1) lo set i + lo else wS (fun i => (sp i).1) lo set i) + (sp i).1 = wS (fun i => (sp i).1) lo set (i + 1)
                rw [e1]
                congr 1
                split <;> split <;> omega
              · show (if (0 : Int) < (cntB set i : Int) then wS (fun i => (sp i).2) hi set i + hi else wS (fun i => (sp i).2) hi set i) + (sp i).2 = wS (fun i => (sp i).2) hi set (i + 1)
                rw [e2]
                congr 1
                split <;> split <;> omega
              · show (cntB set i : Int) + 1 = (cntB set (i + 1) : Int)
                simp [cntB, hh]
          · show n - (i + 1) < n - i
            omega
        · have hh : set.testBit i = false := by rw [← shr_bit]; exact hh
          refine Chk.mk (show _ ∧ _ from ?_) ⟨⟨i + 1, (by omega : i + 1 ≤ n)⟩, ?_, ?_⟩
          · show _ ≤ (i : Int) + 1 ∧ (i : Int) + 1 ≤ _
            omega
          · refine ⟨?_, ?_, rfl, rfl, rfl⟩
            · repeat' (first | exact trivial | exact rfl | refine And.intro ?_ ?_)
            · refine ⟨⟨⟨rfl, ⟨rfl, ?_⟩, ⟨rfl, ?_⟩, ⟨rfl, ?_⟩, trivial⟩, rfl, rfl⟩, ⟨⟨rfl, rfl, ⟨rfl, rfl⟩, ⟨rfl, rfl⟩, trivial⟩, rfl, rfl⟩, ⟨rfl, fun i hi => rfl, rfl⟩, trivial⟩
              · show wS (fun i => (sp i).1) lo set i = wS (fun i => (sp i).1) lo set (i + 1)
                simp [wS, hh]
              · show wS (fun i => (sp i).2) hi set i = wS (fun i => (sp i).2) hi set (i + 1)
                simp [wS, hh]
              · show (cntB set i : Int) = (cntB set (i + 1) : Int)
                simp [cntB, hh]
          · show n - (i + 1) < n - i
            omega
      · have h : ¬ (i : Int) < (n : Int) := of_decide_eq_false h
        have hin : i = n := by omega
        subst hin
        exact hR _ _ ⟨⟨rfl, rfl⟩, ⟨rfl, rfl⟩, ⟨rfl, rfl⟩, trivial⟩ rfl ⟨⟨rfl, rfl, ⟨rfl, rfl⟩, ⟨rfl, rfl⟩, trivial⟩, trivial, trivial⟩
  · cases hk
theorem g43 {l : List (Nat × Ct)} (g : Good P T l) : Good P T ((27, c43) :: l) := g.add (k43 g) (setCt_mono _) (body_of Tryd.func27 (c := code Tryd.f27) rfl (by decide))

end Go.X.S
end

section
set_option linter.unusedVariables false
set_option linter.unusedSimpArgs false
set_option linter.unusedSectionVars false
/- Stack: Long, Right. -/
set_option linter.unusedVariables false
set_option linter.unusedSimpArgs false
set_option maxRecDepth 10000
set_option maxHeartbeats 1000000
namespace Go.X.S
open Go Go.Proofs Go.X

/-- The walk of a function of a set of blocks with a deferred answer. -/
theorem stWalkD {C : Nat → Option Ct} {fn : Func} {c : Code} {k : List Span → Int → Int → List SV → Option (Option Prop × SV)} {fr : Nat} {args : List SV} {H : LH} {out : COut} (ho : stCt k fr args H = some out) (hp : PreH out.pre)
    (h : ∀ (n : Nat) (sp : Nat → Span) (lo hi : Int) (r : List SV) (p : Option Prop) (v : SV) (Rv : SV → St → Prop), k ((List.range n).map sp) lo hi r = some (p, v) → PreH p →
      (∀ v' st, SVeq v' v → knSV 0 [] v' = true → Rv v' st) → r.length + 1 ≤ fn.ntmps ∧
      ∀ G : Base, (∀ j, 1 ≤ j → G.ρ j = none) → exec ⟨P, T, C, G, none, fn.ntmps⟩ c (start (.agg [.sl 0, .si .i64 lo, .si .i64 hi] :: r) [(0, .ro 2 n fun i => spanC (sp i))] 1) (FinD ⟨P, T, C, G, none, fn.ntmps⟩ 21 97 35 fn.results.toList Rv)) :
    WalkD P T C 21 97 35 fn c H args fr out := by
  unfold stCt at ho
  split at ho
  · rename_i id lo hi r
    split at ho
    · rename_i n get e
      split at ho
      · rename_i p v hk
        cases ho
        obtain ⟨hs, hr, hp⟩ : Spans n get ∧ knL 0 [] r = true ∧ PreH p := hp
        have hh : Hand H [(id, .ro 2 n fun i => spanC (spanAt get i))] := hand_one e (fun i => rfl) (fun i hi => (hs i hi).symm)
        have h0 := h n (spanAt get) lo hi r p v (fun v' st => ((none : Option (Bool × List PanicEntry)) = none ∨ ∃ ch, (none : Option (Bool × List PanicEntry)) = some (false, ch)) ∧ EndOk [(id, .ro 2 n fun i => spanC (spanAt get i))] [] fr ⟨some (Spans n get ∧ knL 0 [] r = true ∧ PreH p), none, v, []⟩ v' st)
          hk hp
          (fun v' st h1 h2 => ⟨.inl rfl, end_noid h1 h2 rfl ⟨trivial, trivial⟩⟩)
        refine ⟨[(id, .ro 2 n fun i => spanC (spanAt get i))], .agg [.sl 0, .si .i64 lo, .si .i64 hi] :: r, [(0, .ro 2 n fun i => spanC (spanAt get i))], 1, [], ?_, ?_, h0.1, hh, rfl, rfl, h0.2⟩
        · show _ = renSV _ _ :: renL _ r
          rw [renL_none r hr]
          rfl
        · show (match knSV 1 [] (.agg [.sl 0, .si .i64 lo, .si .i64 hi]) with
            | true => knL 1 [] r
            | false => false) = true
          exact knL_up r hr
      · cases ho
    · cases ho
  · cases ho

theorem spans_sp (n : Nat) (sp : Nat → Span) : Spans n (fun i => spanC (sp i)) := fun i hi => rfl
theorem cntB_half (set : Nat) : ∀ n, cntB set (n + 1) = set % 2 + cntB (set / 2) n
  | 0 => by
    simp only [cntB, Nat.testBit_zero]
    have : set % 2 = 0 ∨ set % 2 = 1 := by omega
    rcases this with h | h <;> simp [h]
  | n + 1 => by
    have ih := cntB_half set n
    rw [cntB, ih]
    simp only [cntB, Nat.testBit_succ]
    omega
theorem cntB_size : ∀ (n set : Nat), set < 2 ^ n → cntB set n = sizeN set
  | 0, set, h => by
    have : set = 0 := by simpa using h
    subst this; simp [cntB, sizeN]
  | n + 1, set, h => by
    rw [cntB_half]
    rcases Nat.eq_zero_or_pos set with rfl | hp
    · have : cntB 0 n = sizeN 0 := cntB_size n 0 (Nat.pow_pos (by decide))
      simp [this, sizeN]
    · rw [sizeN_pos hp, cntB_size n (set / 2) (by rw [Nat.pow_succ] at h; omega)]
theorem sizeN_ge {set : Nat} (h : 0 < set) : 0 < sizeN set := by
  induction set using Nat.strongRecOn with
  | _ set ih =>
    rw [sizeN_pos h]
    rcases Nat.eq_zero_or_pos (set / 2) with h2 | h2
    · have : set % 2 = 1 := by omega
      omega
    · have := ih (set / 2) (by omega) h2
      omega
/-- A stack's length as the program finds it is the document's. -/
theorem ofW_ofL {L : List Span} {lo hi : Int} {set : Nat} (h : 0 < set) (h2 : set < 2 ^ L.length) : ofW L lo hi set = ((ofL L lo hi set).1, (ofL L lo hi set).2, (sizeN set : Int)) := by
  have hc := cntB_size L.length set h2
  have hp := sizeN_ge h
  simp only [ofW, ofL, ofS]
  rw [wS_eq _ lo set _ (by omega), wS_eq _ hi set _ (by omega), hc]
theorem isSetB_nat {n : Nat} {m : Int} (h : isSetB n m = true) : 0 < m.toNat ∧ m.toNat < 2 ^ n := by
  simp only [isSetB, Bool.and_eq_true, decide_eq_true_eq] at h
  have h3 : ((2 ^ n : Nat) : Int) = (2 : Int) ^ n := by push_cast; rfl
  rw [← h3] at h
  omega
theorem okSet_of {L : List Span} {lo hi : Int} (h : setOk L lo hi = true) : okSet L lo hi := by
  obtain ⟨a1, a2, a3, a4, a5⟩ := setOk_len h
  refine ⟨a1, ⟨by omega, by omega⟩, ⟨by omega, by omega⟩, fun x hx => ?_⟩
  have := a5 x hx
  exact ⟨⟨by omega, by omega⟩, by omega, by omega⟩

theorem k15 {l : List (Nat × Ct)} (g0 : Good P T l) : COk P 10 c15 := by
  have g := g43 (g41 (g42 g0))
  refine cokD (C := tabC _) g.ok answer_ok Tryd.func10 (c := code Tryd.f10) rfl fun fr args H out h hp => stWalkD h hp fun n sp lo hi r p v Rv hk hp hR => ?_
  split at hk
  · rename_i m
    cases hk
    have hp : ((List.range n).map sp).length ≤ 40 := hp
    have hp' : n ≤ 40 := by simpa using hp
    refine ⟨Nat.le_of_ble_eq_true rfl, fun G hG => ?_⟩
    refine fb_defer (g.ok _ _ _) rfl cont_std rfl rfl rfl rfl ?_
    refine drawn_ok (g.ok _ _ _) fol [0,0,0,6,15,0,32,127,255,511,1023] [] 7 (by kernel_rfl) ?_
    refine Chk.mk ⟨spans_sp _ _, rfl, hp⟩ ?_
    refine Chk.mk (spans_sp _ _) ?_
    generalize hE : errV ((List.range n).map sp) lo hi (isSetB ((List.range n).map sp).length m) = E at hR
    have hpre := preOf_ok (L := (List.range n).map sp) (lo := lo) (hi := hi) (m := m)
    rw [hE] at hpre
    have hlong : longV ((List.range n).map sp) lo hi m = if E = 0 then ofL ((List.range n).map sp) lo hi m.toNat else (0, 0) := by rw [longV, hE]
    refine Br.mk (fun h => ?_) (fun h => ?_)
    · have h : (!decide (errV ((List.range n).map sp) lo hi (isSetB ((List.range n).map sp).length m) = 0)) = true := h
      rw [hE] at h
      have h : ¬ E = 0 := by simpa using h
      rw [if_neg h] at hlong
      refine hR _ _ ⟨⟨⟨rfl, ?_⟩, ⟨rfl, ?_⟩, trivial⟩, ⟨rfl, ?_⟩, trivial⟩ rfl
      · rw [hlong]
      · rw [hlong]
      · exact hE
    · have h : (!decide (errV ((List.range n).map sp) lo hi (isSetB ((List.range n).map sp).length m) = 0)) = false := h
      rw [hE] at h
      have h : E = 0 := by simpa using h
      rw [if_pos h] at hlong
      obtain ⟨q1, q2⟩ := errV_zero (hE.trans h)
      have hm : 0 ≤ m ∧ m ≤ 1000000 := by
        have := isSetB_ok q2 (setOk_len q1).1
        omega
      have hmw : wrapK .u64 m = m := wrap_in (show InK .u64 m from ⟨by omega, by omega⟩)
      have hof := ofW_ofL (L := (List.range n).map sp) (lo := lo) (hi := hi) (isSetB_nat q2).1 (isSetB_nat q2).2
      refine Chk.mk ⟨spans_sp _ _, rfl, okSet_of q1, ?_, ?_⟩ (hR _ _ ⟨⟨⟨rfl, ?_⟩, ⟨rfl, ?_⟩, trivial⟩, ⟨rfl, h.symm⟩, trivial⟩ rfl)
      · show 0 ≤ wrapK .u64 m
        omega
      · show wrapK .u64 m ≤ _
        omega
      · show (ofW ((List.range n).map sp) lo hi (wrapK .u64 m).toNat).1 = (longV _ _ _ _).1
        rw [hlong, hmw, hof]
      · show (ofW ((List.range n).map sp) lo hi (wrapK .u64 m).toNat).2.1 = (longV _ _ _ _).2
        rw [hlong, hmw, hof]
  · cases hk
theorem g15 {l : List (Nat × Ct)} (g : Good P T l) : Good P T ((10, c15) :: l) := g.add (k15 g) (stCt_mono _) (body_of Tryd.func10 (c := code Tryd.f10) rfl (by decide))

end Go.X.S
end

section
set_option linter.unusedVariables false
set_option linter.unusedSimpArgs false
set_option linter.unusedSectionVars false
/- Stack: Right. -/
set_option linter.unusedVariables false
set_option linter.unusedSimpArgs false
set_option maxRecDepth 10000
set_option maxHeartbeats 1000000
namespace Go.X.S
open Go Go.Proofs Go.X

def meetsB (w : Span) (x : Int × Int × Int) : Bool := decide (w.1 ≤ x.2.1) && decide (x.1 ≤ w.2)
def insideB (w : Span) (x : Int × Int × Int) : Bool := decide (w.1 ≤ x.1) && decide (x.2.1 ≤ w.2)
def c95 : Ct := plainCt fun
  | [.agg [.si .i64 c, .si .i64 d], .agg [.si .i64 a, .si .i64 b, .si .i64 n]] => some ⟨none, none, .sb (insideB (c, d) (a, b, n)), []⟩
  | _ => none
theorem k95 {l : List (Nat × Ct)} (g : Good P T l) : COk P 93 c95 := by
  refine cok (C := tabC _) g.ok Tryd.func93 (c := code Tryd.f93) rfl fun fr args H out h hp => ?_
  simp only [c95, plainCt] at h
  split at h
  · cases h
    refine walk_plain rfl (Nat.le_of_ble_eq_true rfl) fun G hG => ?_
    exact ⟨.inl rfl, end_plain rfl rfl rfl⟩
  · cases h
theorem m74 : MethOk P 72 "blockworks/stack.is" 93 := meth_of' (by kernel_rfl)
theorem b95 : Body P 93 := body_of Tryd.func93 (c := code Tryd.f93) rfl (by decide)

end Go.X.S
end

section
set_option linter.unusedVariables false
set_option linter.unusedSimpArgs false
set_option linter.unusedSectionVars false
/- Stack: what is found of several, joined. -/
set_option linter.unusedVariables false
set_option linter.unusedSimpArgs false
set_option maxRecDepth 10000
set_option maxHeartbeats 1000000
namespace Go.X.S
open Go Go.Proofs Go.X

structure Fd where
  many : Nat
  least : Nat
  each : Nat
  some : Nat
deriving DecidableEq
def encF (x : Fd) : SV := .agg [.si .i64 x.many, .si .u64 x.least, .si .u64 x.each, .si .u64 x.some]
def encFL (x : Fd) : List SV := [.si .i64 x.many, .si .u64 x.least, .si .u64 x.each, .si .u64 x.some]
def foundAt (get : Nat → List SV) (i : Nat) : Fd := match get i with
  | [.si .i64 a, .si .u64 b, .si .u64 c, .si .u64 d] => ⟨a.toNat, b.toNat, c.toNat, d.toNat⟩
  | _ => ⟨0, 0, 0, 0⟩
def Founds (n : Nat) (get : Nat → List SV) : Prop := ∀ i, i < n → get i = encFL (foundAt get i)
theorem founds_enc (n : Nat) (f : Nat → Fd) : Founds n (fun i => encFL (f i)) := fun i hi => by simp [foundAt, encFL]
theorem foundAt_enc (f : Nat → Fd) (i : Nat) : foundAt (fun i => encFL (f i)) i = f i := by simp [foundAt, encFL]

def lessN (x y : Nat) : Bool := decide (sizeN x < sizeN y) || (decide (sizeN x = sizeN y) && decide (x < y))
theorem lessB_nat (x y : Nat) : lessB x y = lessN x y := by
  simp only [lessB, lessN, Int.toNat_natCast]
  rw [Bool.eq_iff_iff]
  simp only [Bool.or_eq_true, Bool.and_eq_true, decide_eq_true_eq]
  constructor <;> intro h <;> omega
def join (f x : Fd) : Fd := ⟨f.many + x.many, if lessN x.least f.least = true then x.least else f.least, f.each &&& x.each, f.some ||| x.some⟩
def jn (f : Nat → Fd) : Nat → Fd
  | 0 => ⟨0, 0, 0, 0⟩
  | n + 1 => if n = 0 then f 0 else join (jn f n) (f n)
def okF (x : Fd) : Prop := x.many ≤ 1000000 ∧ x.least < 256 ∧ x.each < 256 ∧ x.some < 256
theorem jn_ok {f : Nat → Fd} : ∀ n, (∀ i, i < n → okF (f i)) → (jn f n).many ≤ n * 1000000 ∧ (jn f n).least < 256 ∧ (jn f n).each < 256 ∧ (jn f n).some < 256
  | 0, _ => by simp [jn]
  | n + 1, h => by
    have ih := jn_ok n (fun i hi => h i (by omega))
    have h0 := h n (by omega)
    unfold okF at h0
    simp only [jn]
    split
    · rename_i e; subst e
      omega
    · simp only [join]
      refine ⟨by omega, by split <;> omega, ?_, ?_⟩
      · exact Nat.lt_of_le_of_lt Nat.and_le_left ih.2.2.1
      · exact Nat.or_lt_two_pow (n := 8) ih.2.2.2 h0.2.2.2
def c66 : Ct := fun fr args H =>
  match args with
  | [.sl id] => (match sliceOf 4 H id with
    | some (n, get) => some ⟨some (Founds n get ∧ n ≤ 1000 ∧ ∀ i, i < n → okF (foundAt get i)), none, encF (jn (foundAt get) n), []⟩
    | none => none)
  | [.sv (.slice none 0 0)] => some ⟨none, none, encF ⟨0, 0, 0, 0⟩, []⟩
  | _ => none
theorem c66_mono : CtMono c66 := by
  intro fr args H H' out hH h
  unfold c66 at h ⊢
  split at h
  · split at h
    · rename_i e
      simp only [sliceOf_mono hH e]
      exact h
    · cases h
  · exact h
  · cases h

theorem k66 {l : List (Nat × Ct)} (g0 : Good P T l) : COk P 44 c66 := by
  have g := g74 g0
  refine cok (C := tabC _) g.ok Tryd.func44 (c := code Tryd.f44) rfl fun fr args H out h hp => ?_
  unfold c66 at h
  split at h
  · rename_i id
    split at h
    · rename_i n get e
      cases h
      obtain ⟨hs, hn, hb⟩ : Founds n get ∧ n ≤ 1000 ∧ ∀ i, i < n → okF (foundAt get i) := hp
      have hh : Hand H [(id, .ro 4 n fun i => encFL (foundAt get i))] := hand_one e (fun i => rfl) (fun i hi => (hs i hi).symm)
      refine ⟨[(id, .ro 4 n fun i => encFL (foundAt get i))], [.sl 0], [(0, .ro 4 n fun i => encFL (foundAt get i))], 1, [], rfl, rfl, Nat.le_of_ble_eq_true rfl, hh, rfl, rfl, fun G hG => ?_⟩
      generalize foundAt get = f at hb ⊢
      refine loop_ok (g.ok _ _ _) (fun x : {i : Nat // i ≤ n} => ⟨[(2, ⟨[], .sp 1 0⟩), (5, ⟨[], .sl 0⟩), (6, ⟨[], .si .i64 n⟩), (7, ⟨[], .si .i64 x.1⟩)], [],
        [(0, .ro 4 n fun i => encFL (f i)), (1, .cells 65 (encFL (jn f x.1)))], 2, []⟩) (fun x => n - x.1) (fun _ j hj => hG j (by have : 2 ≤ j := hj; omega)) ⟨0, Nat.zero_le _⟩ ?_ ?_
      · refine ⟨?_, ?_, rfl, rfl, rfl⟩
        · repeat' (first | exact trivial | exact rfl | refine And.intro ?_ ?_)
        · exact ⟨⟨rfl, fun i hi => rfl, rfl⟩, ⟨⟨rfl, ⟨rfl, rfl⟩, ⟨rfl, rfl⟩, ⟨rfl, rfl⟩, ⟨rfl, rfl⟩, trivial⟩, rfl, rfl⟩, trivial⟩
      · rintro ⟨i, hin⟩
        refine Br.mk (fun h => ?_) (fun h => ?_)
        · have h : (i : Int) < (n : Int) := of_decide_eq_true h
          refine Chk.mk (show (0 : Int) ≤ (i : Int) ∧ (i : Int) < (n : Int) from ⟨by omega, h⟩) ?_
          refine Br.mk (fun h1 => ?_) (fun h1 => ?_)
          · have h1 : (i : Int) = 0 := of_decide_eq_true h1
            have h1 : i = 0 := by omega
            subst h1
            refine Chk.mk (show (-9223372036854775808 : Int) ≤ 0 + 1 ∧ (0 : Int) + 1 ≤ 9223372036854775807 by decide) ⟨⟨1, (by omega : 1 ≤ n)⟩, ?_, ?_⟩
            · refine ⟨?_, ?_, rfl, rfl, rfl⟩
              · repeat' (first | exact trivial | exact rfl | refine And.intro ?_ ?_)
              · exact ⟨⟨rfl, fun i hi => rfl, rfl⟩, ⟨⟨rfl, ⟨rfl, rfl⟩, ⟨rfl, rfl⟩, ⟨rfl, rfl⟩, ⟨rfl, rfl⟩, trivial⟩, rfl, rfl⟩, trivial⟩
            · show n - 1 < n - 0
              omega
          · have h1 : ¬ (i : Int) = 0 := of_decide_eq_false h1
            have hj := jn_ok i (fun j hj => hb j (by omega))
            have hx := hb i (by omega)
            unfold okF at hx
            obtain ⟨J, hJ⟩ : ∃ J, jn f i = J := ⟨_, rfl⟩
            rw [hJ] at hj
            have hnext : jn f (i + 1) = join J (f i) := by
              simp only [jn]
              rw [if_neg (by omega), hJ]
            refine Chk.mk (show (-9223372036854775808 : Int) ≤ ((jn f i).many : Int) + ((f i).many : Int) ∧ ((jn f i).many : Int) + ((f i).many : Int) ≤ 9223372036854775807 by rw [hJ]; omega) ?_
            refine drawn_ok (g.ok _ _ _) fol [0,1,0,4,15,0,32,0,128,480,127,1151,4095,8191] [(11,1),(13,1)] 14 (by kernel_rfl) ?_
            refine Chk.mk (show 0 ≤ ((jn f i).each : Int) ∧ 0 ≤ ((f i).each : Int) ∧ (0 ≤ ((jn f i).each : Int) ∧ ((jn f i).each : Int) ≤ 18446744073709551615) ∧ (0 ≤ ((f i).each : Int) ∧ ((f i).each : Int) ≤ 18446744073709551615) by rw [hJ]; omega) ?_
            refine Chk.mk (show 0 ≤ ((jn f i).some : Int) ∧ 0 ≤ ((f i).some : Int) ∧ (0 ≤ ((jn f i).some : Int) ∧ ((jn f i).some : Int) ≤ 18446744073709551615) ∧ (0 ≤ ((f i).some : Int) ∧ ((f i).some : Int) ≤ 18446744073709551615) by rw [hJ]; omega) ?_
            refine Chk.mk (show 0 ≤ ((f i).least : Int) ∧ ((f i).least : Int) < 256 ∧ 0 ≤ ((jn f i).least : Int) ∧ ((jn f i).least : Int) < 256 by rw [hJ]; omega) ?_
            refine Br.mk (fun h2 => ?_) (fun h2 => ?_)
            · have h2 : lessB ((f i).least : Int) ((jn f i).least : Int) = true := h2
              rw [lessB_nat, hJ] at h2
              refine Chk.mk (show (-9223372036854775808 : Int) ≤ (i : Int) + 1 ∧ (i : Int) + 1 ≤ 9223372036854775807 by omega) ⟨⟨i + 1, (by omega : i + 1 ≤ n)⟩, ?_, ?_⟩
              · refine ⟨?_, ?_, rfl, rfl, rfl⟩
                · repeat' (first | exact trivial | exact rfl | refine And.intro ?_ ?_)
                · refine ⟨⟨rfl, fun i hi => rfl, rfl⟩, ⟨⟨rfl, ⟨rfl, ?_⟩, ⟨rfl, ?_⟩, ⟨rfl, ?_⟩, ⟨rfl, ?_⟩, trivial⟩, rfl, rfl⟩, trivial⟩
                  · show ((jn f i).many : Int) + ((f i).many : Int) = ((jn f (i + 1)).many : Int)
                    rw [hnext, hJ]; simp [join]
                  · show ((f i).least : Int) = ((jn f (i + 1)).least : Int)
                    rw [hnext]; simp [join, h2]
                  · show ((((jn f i).each : Int).toNat &&& ((f i).each : Int).toNat : Nat) : Int) = ((jn f (i + 1)).each : Int)
                    rw [hnext, hJ]; simp [join]
                  · show ((((jn f i).some : Int).toNat ||| ((f i).some : Int).toNat : Nat) : Int) = ((jn f (i + 1)).some : Int)
                    rw [hnext, hJ]; simp [join]
              · show n - (i + 1) < n - i
                omega
            · have h2 : lessB ((f i).least : Int) ((jn f i).least : Int) = false := h2
              rw [lessB_nat, hJ] at h2
              refine Chk.mk (show (-9223372036854775808 : Int) ≤ (i : Int) + 1 ∧ (i : Int) + 1 ≤ 9223372036854775807 by omega) ⟨⟨i + 1, (by omega : i + 1 ≤ n)⟩, ?_, ?_⟩
              · refine ⟨?_, ?_, rfl, rfl, rfl⟩
                · repeat' (first | exact trivial | exact rfl | refine And.intro ?_ ?_)
                · refine ⟨⟨rfl, fun i hi => rfl, rfl⟩, ⟨⟨rfl, ⟨rfl, ?_⟩, ⟨rfl, ?_⟩, ⟨rfl, ?_⟩, ⟨rfl, ?_⟩, trivial⟩, rfl, rfl⟩, trivial⟩
                  · show ((jn f i).many : Int) + ((f i).many : Int) = ((jn f (i + 1)).many : Int)
                    rw [hnext, hJ]; simp [join]
                  · show ((jn f i).least : Int) = ((jn f (i + 1)).least : Int)
                    rw [hnext, hJ]; simp [join, h2]
                  · show ((((jn f i).each : Int).toNat &&& ((f i).each : Int).toNat : Nat) : Int) = ((jn f (i + 1)).each : Int)
                    rw [hnext, hJ]; simp [join]
                  · show ((((jn f i).some : Int).toNat ||| ((f i).some : Int).toNat : Nat) : Int) = ((jn f (i + 1)).some : Int)
                    rw [hnext, hJ]; simp [join]
              · show n - (i + 1) < n - i
                omega
        · have h : ¬ (i : Int) < (n : Int) := of_decide_eq_false h
          have : i = n := by omega
          subst this
          exact ⟨.inl rfl, end_noid ⟨⟨rfl, rfl⟩, ⟨rfl, rfl⟩, ⟨rfl, rfl⟩, ⟨rfl, rfl⟩, trivial⟩ rfl rfl ⟨trivial, trivial⟩⟩
    · cases h
  · cases h
    refine walk_plain rfl (Nat.le_of_ble_eq_true rfl) fun G hG => ?_
    refine loop_ok (g.ok _ _ _) (fun x : Unit => ⟨[(2, ⟨[], .sp 0 0⟩), (5, ⟨[], .sv (.slice none 0 0)⟩), (6, ⟨[], .si .i64 0⟩), (7, ⟨[], .si .i64 0⟩)], [],
        [(0, .cells 65 (encFL ⟨0, 0, 0, 0⟩))], 1, []⟩) (fun x => 0) (fun _ j hj => hG j (Nat.zero_le _)) () ?_ ?_
    · refine ⟨?_, ?_, rfl, rfl, rfl⟩
      · repeat' (first | exact trivial | exact rfl | refine And.intro ?_ ?_)
      · exact ⟨⟨⟨rfl, ⟨rfl, rfl⟩, ⟨rfl, rfl⟩, ⟨rfl, rfl⟩, ⟨rfl, rfl⟩, trivial⟩, rfl, rfl⟩, trivial⟩
    · intro _
      refine Br.mk (fun h => by cases h) (fun h => ?_)
      exact ⟨.inl rfl, end_plain ⟨⟨rfl, rfl⟩, ⟨rfl, rfl⟩, ⟨rfl, rfl⟩, ⟨rfl, rfl⟩, trivial⟩ rfl rfl⟩
  · cases h
theorem g66 {l : List (Nat × Ct)} (g : Good P T l) : Good P T ((44, c66) :: l) := g.add (k66 g) c66_mono (body_of Tryd.func44 (c := code Tryd.f44) rfl (by decide))

end Go.X.S
end
