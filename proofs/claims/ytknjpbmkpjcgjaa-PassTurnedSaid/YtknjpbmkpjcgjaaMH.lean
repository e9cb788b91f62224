/- Slices that nobody turns again, told of by a family; calls by other numbers of their pieces. -/
import Derived.Test.YtknjpbmkpjcgjaaMG

section
set_option linter.unusedVariables false
set_option linter.unusedSimpArgs false
set_option linter.unusedSectionVars false
/- Slices that nobody turns again: frozen, told of by a family, and looked at again. -/
set_option linter.unusedVariables false
set_option linter.unusedSimpArgs false
set_option maxRecDepth 10000
namespace Go.X
open Go

mutual
/-- The slice of a piece, by its value. -/
def frzSV (id : Nat) (v : Value) : SV → SV
  | .sl j => match Nat.beq j id with
    | true => .sv v
    | false => .sl j
  | .agg l => .agg (frzL id v l)
  | .tup l => .tup (frzL id v l)
  | .ifc t x => .ifc t (frzSV id v x)
  | .fn f a b => .fn f (frzL id v a) (frzL id v b)
  | x => x
def frzL (id : Nat) (v : Value) : List SV → List SV
  | [] => []
  | x :: r => frzSV id v x :: frzL id v r
end
section
variable {ρ : Env} {id : Nat} {v : Value}
mutual
theorem den_frz (hv : v.oneCell' = true) (h : den ρ (.sl id) = some v) : ∀ (x : SV), den ρ (frzSV id v x) = den ρ x
  | .sl j => by
    simp only [frzSV]
    split
    · rename_i e
      have : j = id := by simpa using e
      subst this
      rw [h]; simp [den, hv]
    · rfl
  | .agg l => by simp only [frzSV, den, denL_frz hv h l]
  | .tup l => by simp only [frzSV, den, denL_frz hv h l]
  | .ifc t x => by simp only [frzSV, den, den_frz hv h x]
  | .fn f a b => by simp only [frzSV, den, denL_frz hv h a, denL_frz hv h b]
  | .sv _ => rfl
  | .si _ _ => rfl
  | .sb _ => rfl
  | .sp _ _ => rfl
  | .se _ _ _ => rfl
  | .sm _ => rfl
  | .fy _ => rfl
  | .ss _ _ _ _ => rfl
theorem denL_frz (hv : v.oneCell' = true) (h : den ρ (.sl id) = some v) : ∀ (l : List SV), denL ρ (frzL id v l) = denL ρ l
  | [] => rfl
  | x :: r => by simp only [frzL, denL, den_frz hv h x, denL_frz hv h r]
end
end

/-- The slots that are named, by the slice's value. -/
def fFzF (id : Nat) (v : Value) (F0 : List (Nat × FE)) : List Nat → List (Nat × FE) → (List (Nat × FE) → Prop) → Prop
  | [], F, K => K F
  | d :: r, F, K => match findF F0 d with
    | some ⟨[], u⟩ => fSV (frzSV id v u) fun u' => fFzF id v F0 r ((d, ⟨[], u'⟩) :: F) K
    | _ => False
/-- The pieces that are named, by the slice's value. -/
def fFzH (id : Nat) (v : Value) (H0 : List (Nat × HB)) : List Nat → List (Nat × HB) → (List (Nat × HB) → Prop) → Prop
  | [], H, K => K H
  | d :: r, H, K => match findH H0 d with
    | some (.cells T cs) => fSVL (frzL id v cs) fun l => fFzH id v H0 r ((d, .cells T l) :: H) K
    | some (.row T s n xs) => fSVL (frzL id v xs) fun l => fFzH id v H0 r ((d, .row T s n l) :: H) K
    | _ => False

section
variable {X : Cx} {ρ : Env} {st : St} {a : Act} {w : World}

/-- A slot, said otherwise. -/
theorem Mod.reslot (hm : Mod X ρ st a w) {d : Nat} {u u' : SV} (hf : findF st.F d = some ⟨[], u⟩) (he : den ρ u' = den ρ u) : Mod X ρ { st with F := (d, ⟨[], u'⟩) :: st.F } a w where
  fm t e hf' := by
    have hf' : findF ((d, ⟨[], u'⟩) :: st.F) t = some e := hf'
    by_cases e1 : d = t
    · subst e1
      rw [findF_cons_self] at hf'; cases hf'
      have := hm.fm _ _ hf
      exact ⟨fun hs => by rw [he]; exact this.1 hs, this.2⟩
    · rw [findF_cons_ne _ _ e1] at hf'
      exact hm.fm t e hf'
  gs t e hf' x hx := by
    have hf' : findF ((d, ⟨[], u'⟩) :: st.F) t = some e := hf'
    by_cases e1 : d = t
    · subst e1
      rw [findF_cons_self] at hf'; cases hf'
      cases hx
    · rw [findF_cons_ne _ _ e1] at hf'
      exact hm.gs t e hf' x hx
  df := hm.df
  hm := hm.hm
  kp := hm.kp
  nx := hm.nx
  sz := hm.sz
end

theorem fFzF_ok {X : Cx} {ρ : Env} {a : Act} {w : World} {id : Nat} {v : Value} (hv : v.oneCell' = true) (hd : den ρ (.sl id) = some v) {F0 : List (Nat × FE)} : ∀ (ds : List Nat) {st : St} {K : List (Nat × FE) → Prop},
    (∀ t u, findF F0 t = some ⟨[], u⟩ → ∃ u', findF st.F t = some ⟨[], u'⟩ ∧ den ρ u' = den ρ u) → Mod X ρ st a w → fFzF id v F0 ds st.F K → ∃ F', Mod X ρ { st with F := F' } a w ∧ K F'
  | [], st, K, h0, hm, h => ⟨st.F, hm, h⟩
  | d :: r, st, K, h0, hm, h => by
    simp only [fFzF] at h
    split at h
    · rename_i u e
      rw [fSV_eq] at h
      obtain ⟨u', h1, h2⟩ := h0 d u e
      have hm' := hm.reslot (u' := frzSV id v u) h1 (by rw [den_frz hv hd, h2])
      obtain ⟨F', h3, h4⟩ := fFzF_ok hv hd r (st := { st with F := (d, ⟨[], frzSV id v u⟩) :: st.F }) (fun t x hx => by
        by_cases e1 : d = t
        · subst e1
          rw [e] at hx; cases hx
          exact ⟨_, findF_cons_self _ _ _, den_frz hv hd _⟩
        · show ∃ u', findF ((d, ⟨[], frzSV id v u⟩) :: st.F) t = some ⟨[], u'⟩ ∧ _
          rw [findF_cons_ne _ _ e1]
          exact h0 t x hx) hm' h
      exact ⟨F', h3, h4⟩
    · exact h.elim

theorem fFzH_ok {X : Cx} {ρ : Env} {a : Act} {w : World} {id : Nat} {v : Value} (hv : v.oneCell' = true) (hd : den ρ (.sl id) = some v) {H0 : List (Nat × HB)} : ∀ (ds : List Nat) {st : St} {K : List (Nat × HB) → Prop},
    (∀ t x, findH H0 t = some x → findH st.H t = some x ∨ t ∉ ds) → ds.Nodup → Mod X ρ st a w → fFzH id v H0 ds st.H K → ∃ H', Mod X ρ { st with H := H' } a w ∧ (∀ t, t ∉ ds → findH H' t = findH st.H t) ∧ K H'
  | [], st, K, h0, _, hm, h => ⟨st.H, hm, fun _ _ => rfl, h⟩
  | d :: r, st, K, h0, hnd, hm, h => by
    have hnd1 : d ∉ r := (List.nodup_cons.1 hnd).1
    have hnd2 := (List.nodup_cons.1 hnd).2
    have key : ∀ (x y : HB), findH H0 d = some x → x.live = true → (∀ s n g, y ≠ .ro s n g) → (∀ s C, y ≠ .fam s C) → (∀ nm, HBok ρ w x nm → HBok ρ w y nm) → fFzH id v H0 r ((d, y) :: st.H) K →
        ∃ H', Mod X ρ { st with H := H' } a w ∧ (∀ t, t ∉ d :: r → findH H' t = findH st.H t) ∧ K H' := by
      intro x y e hl h1 h2 h3 h4
      have hf : findH st.H d = some x := by
        rcases h0 d x e with h | h
        · exact h
        · exact absurd List.mem_cons_self h
      obtain ⟨nm, g1, g2⟩ := hm.hm.ok _ _ hf
      have hm' := hm.swap (hb' := y) hf hl g1 (h3 nm g2) h1 h2
      obtain ⟨H', k1, k2, k3⟩ := fFzH_ok hv hd r (st := { st with H := (d, y) :: st.H }) (fun t z hz => by
        by_cases e1 : d = t
        · subst e1; exact .inr hnd1
        · show findH ((d, y) :: st.H) t = some z ∨ _
          rw [findH_skip e1]
          rcases h0 t z hz with h | h
          · exact .inl h
          · exact .inr fun hc => h (List.mem_cons_of_mem _ hc)) hnd2 hm' h4
      refine ⟨H', k1, fun t ht => ?_, k3⟩
      rw [k2 t fun hc => ht (List.mem_cons_of_mem _ hc)]
      exact findH_skip fun e1 => ht (e1 ▸ List.mem_cons_self)
    simp only [fFzH] at h
    split at h
    · rename_i T cs e
      rw [fSVL_eq] at h
      refine key _ _ e rfl (by intro _ _ _ h; cases h) (by intro _ _ h; cases h) (fun nm hok => ?_) h
      cases nm <;> simp only [HBok] at hok ⊢
      obtain ⟨vs, h1, h2⟩ := hok
      exact ⟨vs, by rw [denL_frz hv hd]; exact h1, h2⟩
    · rename_i T s n xs e
      rw [fSVL_eq] at h
      refine key _ _ e rfl (by intro _ _ _ h; cases h) (by intro _ _ h; cases h) (fun nm hok => ?_) h
      cases nm <;> simp only [HBok] at hok ⊢
      obtain ⟨h1, h2, h3, vs, rest, h4, h5⟩ := hok
      exact ⟨h1, h2, h3, vs, rest, by rw [denL_frz hv hd]; exact h4, h5⟩
    · exact h.elim

/-- A family that tells of one slice more. -/
def addC (C : Value → Nat → (Nat → List SV) → Prop) (v : Value) (n : Nat) (get : Nat → List SV) : Value → Nat → (Nat → List SV) → Prop :=
  fun v' n' get' => (v' = v ∧ n' = n ∧ get' = get) ∨ C v' n' get'

theorem den_closed {ρ : Env} {l : List SV} {vs : List Value} (hi : idsL 0 l = true) (h : denL ρ l = some vs) : denL (fun _ => none) l = some vs := by
  have e : cut ρ 0 = fun _ => none := by funext j; unfold cut; rw [if_neg (by omega)]
  rw [← e, denL_cut l hi]; exact h

section
variable {X : Cx} {ρ : Env} {st : St} {a : Act} {w : World}
/-- A slice of our own is frozen. -/
theorem Mod.freeze (hm : Mod X ρ st a w) {sid fid e size n : Nat} {get : Nat → List SV} {C : Value → Nat → (Nat → List SV) → Prop} (h1 : findH st.H sid = some (.vec e size n get)) (hn : 0 < n)
    (hcl : ∀ i, i < n → idsL 0 (get i) = true) (h2 : findH st.H fid = some (.fam size C)) :
    ∃ ad c, den ρ (.sl sid) = some (.slice (some ad) n c) ∧ Mod X ρ { st with H := (fid, .fam size (addC C (.slice (some ad) n c) n get)) :: (sid, .dead) :: st.H } a w := by
  obtain ⟨nm, g1, g2⟩ := hm.hm.ok _ _ h1
  obtain ⟨nf, f1, f2⟩ := hm.hm.ok _ _ h2
  have hne : sid ≠ fid := by rintro rfl; rw [h1] at h2; cases h2
  cases nm <;> simp only [HBok] at g2
  · obtain ⟨_, _, _, rfl, _⟩ := g2; omega
  rename_i nb n' c s'
  obtain ⟨rfl, rfl, hle, cells, d5, d6, d7⟩ := g2
  have hlt : nb < w.heap.size := by
    rcases Nat.lt_or_ge nb w.heap.size with h | h
    · exact h
    · rw [Array.getElem?_eq_none h] at d5; cases d5
  have hok : famOk w s' (.slice (some ⟨nb, 0, none⟩) n' c) n' get := by
    refine ⟨_, c, rfl, hle.1, fun _ => ⟨_, rfl, hlt, fun i hi => ?_⟩⟩
    obtain ⟨vs, c1, c2, c3, c4⟩ := d7 i hi
    refine ⟨vs, den_closed (hcl i hi) c1, c2, c3, fun j v hv => ?_⟩
    rw [add_zero_mk]
    simp only [World.cell?, d5, List.getElem?_toArray]
    exact c4 j v hv
  have hk := hm.kill h1
  have hno : ¬ Own ρ (findH ((sid, .dead) :: st.H)) nb := by
    intro hO
    obtain ⟨i', x', nm', q0, q1, q2, q3, q4⟩ := Own.kill hO
    exact q0 (hm.hm.sep i' sid x' _ nm' _ nb q1 h1 q2 rfl q3 g1 q4 rfl)
  have h2' : findH ((sid, .dead) :: st.H) fid = some (.fam s' C) := by rw [findH_skip hne]; exact h2
  refine ⟨⟨nb, 0, none⟩, c, by simp [den, g1], ?_⟩
  have hfz : ∀ b, Fz (findH ((fid, .fam s' (addC C (.slice (some ⟨nb, 0, none⟩) n' c) n' get)) :: (sid, .dead) :: st.H)) b → Fz (findH ((sid, .dead) :: st.H)) b ∨ b = nb := by
    rintro b ⟨id, size, C', v, m, get', q1, q2, q3, q4⟩
    rw [findH_cons] at q1
    by_cases e1 : fid = id
    · subst e1
      rw [updL_self] at q1; cases q1
      rcases q2 with ⟨rfl, rfl, rfl⟩ | q2
      · simp only [slBlock, Option.some.injEq] at q4
        exact .inr q4.symm
      · exact .inl ⟨_, _, C, v, m, get', h2', q2, q3, q4⟩
    · rw [updL_ne _ _ e1] at q1
      exact .inl ⟨id, size, C', v, m, get', q1, q2, q3, q4⟩
  have hown : ∀ b, Own ρ (findH ((fid, .fam s' (addC C (.slice (some ⟨nb, 0, none⟩) n' c) n' get)) :: (sid, .dead) :: st.H)) b → Own ρ (findH ((sid, .dead) :: st.H)) b := by
    rintro b ⟨j, x, nm', q1, q2, q3, q4⟩
    rw [findH_cons] at q1
    by_cases e1 : fid = j
    · subst e1
      rw [updL_self] at q1; cases q1
      rw [f1] at q3; cases q3
      cases nf <;> simp only [HBok] at f2
      cases q4
    · rw [updL_ne _ _ e1] at q1
      exact ⟨j, x, nm', q1, q2, q3, q4⟩
  exact {
    fm := hm.fm
    gs := hm.gs
    df := hm.df
    hm := {
      ok := fun j x hj => by
        rw [findH_cons] at hj
        by_cases e1 : fid = j
        · subst e1
          rw [updL_self] at hj; cases hj
          refine ⟨nf, f1, ?_⟩
          cases nf <;> simp only [HBok] at f2 ⊢
          refine ⟨f2.1, fun v m get' hc => ?_⟩
          rcases hc with ⟨rfl, rfl, rfl⟩ | hc
          · exact hok
          · exact f2.2 v m get' hc
        · rw [updL_ne _ _ e1] at hj
          exact hk.hm.ok j x hj
      sep := fun i j x y n₁ n₂ b q1 q2 l1 l2 r1 r2 o1 o2 => by
        have key : ∀ {i : Nat} {x : HB} {n₁ : Nm}, findH ((fid, .fam s' (addC C (.slice (some ⟨nb, 0, none⟩) n' c) n' get)) :: (sid, .dead) :: st.H) i = some x → ρ i = some n₁ → n₁.owner = some b → findH ((sid, .dead) :: st.H) i = some x := by
          intro i x n₁ q1 r1 o1
          rw [findH_cons] at q1
          by_cases e1 : fid = i
          · subst e1
            rw [f1] at r1; cases r1
            cases nf <;> simp only [HBok] at f2
            cases o1
          · rw [updL_ne _ _ e1] at q1; exact q1
        exact hk.hm.sep i j x y n₁ n₂ b (key q1 r1 o1) (key q2 r2 o2) l1 l2 r1 r2 o1 o2
      ro := fun j size m get' nm b hj hpos hr hb ho => by
        rw [findH_cons] at hj
        by_cases e1 : fid = j
        · subst e1; rw [updL_self] at hj; cases hj
        · rw [updL_ne _ _ e1] at hj
          exact hk.hm.ro j size m get' nm b hj hpos hr hb (hown b ho)
      fam := fun b hz ho => by
        rcases hfz b hz with h | rfl
        · exact hk.hm.fam b h (hown b ho)
        · exact hno (hown _ ho) }
    kp := {
      str := hm.kp.str
      size := hm.kp.size
      same := hm.kp.same
      own := fun b ho => hk.kp.own b (hown b ho)
      ext := hm.kp.ext
      fz := fun b hz => by
        rcases hfz b hz with h | rfl
        · exact hk.kp.fz b h
        · rcases hm.kp.own b ⟨sid, _, _, h1, rfl, g1, rfl⟩ with h | h
          · exact .inl h
          · exact .inr (.inl h) }
    nx := hm.nx
    sz := hm.sz }

/-- A new family, of none. -/
theorem Mod.fam0 (hm : Mod X ρ st a w) (size : Nat) : Mod X (upd ρ st.nx (.sl none 0 0 size)) { st with H := (st.nx, .fam size (fun _ _ _ => False)) :: st.H, nx := st.nx + 1 } a w := by
  have hf : ρ st.nx = none := hm.nx _ (Nat.le_refl _)
  have hfz : ∀ b, Fz (findH ((st.nx, .fam size (fun _ _ _ => False)) :: st.H)) b → Fz (findH st.H) b := by
    rintro b ⟨id, s2, C', v, m, get', q1, q2, q3, q4⟩
    rw [findH_cons] at q1
    by_cases e1 : st.nx = id
    · subst e1
      rw [updL_self] at q1; cases q1
      exact q2.elim
    · rw [updL_ne _ _ e1] at q1
      exact ⟨id, s2, C', v, m, get', q1, q2, q3, q4⟩
  exact {
    fm := hm.fm.ext (Ext.upd _ hf)
    gs := hm.gs
    df := hm.df.ext (Ext.upd _ hf)
    hm := {
      ok := fun j hb hj => by
        rw [findH_cons] at hj
        by_cases e : st.nx = j
        · subst e; rw [updL_self] at hj; cases hj
          exact ⟨_, upd_self _ _ _, rfl, fun _ _ _ h => h.elim⟩
        · rw [updL_ne _ _ e] at hj
          obtain ⟨nm, h1, h2⟩ := hm.hm.ok j hb hj
          exact ⟨nm, by rw [upd_ne _ _ (Ne.symm e)]; exact h1, HBok_ext (Ext.upd _ hf) h2⟩
      sep := fun i j x y n₁ n₂ b h1 h2 l1 l2 r1 r2 o1 o2 => by
        rw [findH_cons] at h1 h2
        by_cases e1 : st.nx = i
        · subst e1; rw [upd_self] at r1; cases r1; cases o1
        · by_cases e2 : st.nx = j
          · subst e2; rw [upd_self] at r2; cases r2; cases o2
          · rw [updL_ne _ _ e1] at h1; rw [updL_ne _ _ e2] at h2
            rw [upd_ne _ _ (Ne.symm e1)] at r1; rw [upd_ne _ _ (Ne.symm e2)] at r2
            exact hm.hm.sep i j x y n₁ n₂ b h1 h2 l1 l2 r1 r2 o1 o2
      ro := fun j size n get' nm b hj hn hr hb ho => by
        rw [findH_cons] at hj
        by_cases e : st.nx = j
        · subst e; rw [updL_self] at hj; cases hj
        · rw [updL_ne _ _ e] at hj
          rw [upd_ne _ _ (Ne.symm e)] at hr
          rcases Own.cons hf ho with h | h
          · cases h
          · exact hm.hm.ro j size n get' nm b hj hn hr hb h
      fam := fun b hz ho => by
        rcases Own.cons hf ho with h | h
        · cases h
        · exact hm.hm.fam b (hfz b hz) h }
    kp := {
      str := hm.kp.str
      size := hm.kp.size
      same := hm.kp.same
      own := fun b ho => by
        rcases Own.cons hf ho with h | h
        · cases h
        · exact hm.kp.own b h
      ext := hm.kp.ext.trans (Ext.upd _ hf)
      fz := fun b hz => hm.kp.fz b (hfz b hz) }
    nx := fun j hj => by
      have : st.nx + 1 ≤ j := hj
      rw [upd_ne _ _ (by omega)]; exact hm.nx j (by omega)
    sz := hm.sz }

/-- A slice that is told of becomes a piece. -/
theorem Mod.focus (hm : Mod X ρ st a w) {fid size n c : Nat} {ad : Addr} {get : Nat → List SV} {C : Value → Nat → (Nat → List SV) → Prop} (h2 : findH st.H fid = some (.fam size C)) (hc : C (.slice (some ad) n c) n get) :
    Mod X (upd ρ st.nx (.sl (some ad) n c size)) { st with H := (st.nx, .ro size n get) :: st.H, nx := st.nx + 1 } a w := by
  have hf : ρ st.nx = none := hm.nx _ (Nat.le_refl _)
  obtain ⟨nf, f1, f2⟩ := hm.hm.ok _ _ h2
  obtain ⟨A, c', e, hle, hh⟩ : famOk w size (.slice (some ad) n c) n get := by
    cases nf <;> simp only [HBok] at f2
    exact f2.2 _ _ _ hc
  cases e
  exact {
    fm := hm.fm.ext (Ext.upd _ hf)
    gs := hm.gs
    df := hm.df.ext (Ext.upd _ hf)
    hm := {
      ok := fun j hb hj => by
        rw [findH_cons] at hj
        by_cases e : st.nx = j
        · subst e; rw [updL_self] at hj; cases hj
          refine ⟨_, upd_self _ _ _, rfl, rfl, hle, fun hn => ?_⟩
          obtain ⟨ad', e, hb, hx⟩ := hh hn
          refine ⟨ad', e, hb, fun i hi => ?_⟩
          obtain ⟨vs, d1, d2⟩ := hx i hi
          exact ⟨vs, denL_ext (fun _ _ h => by cases h) _ _ d1, d2⟩
        · rw [updL_ne _ _ e] at hj
          obtain ⟨nm, h1, h2⟩ := hm.hm.ok j hb hj
          exact ⟨nm, by rw [upd_ne _ _ (Ne.symm e)]; exact h1, HBok_ext (Ext.upd _ hf) h2⟩
      sep := fun i j x y n₁ n₂ b h1 h2 l1 l2 r1 r2 o1 o2 => by
        rw [findH_cons] at h1 h2
        by_cases e1 : st.nx = i
        · subst e1; rw [upd_self] at r1; cases r1; cases o1
        · by_cases e2 : st.nx = j
          · subst e2; rw [upd_self] at r2; cases r2; cases o2
          · rw [updL_ne _ _ e1] at h1; rw [updL_ne _ _ e2] at h2
            rw [upd_ne _ _ (Ne.symm e1)] at r1; rw [upd_ne _ _ (Ne.symm e2)] at r2
            exact hm.hm.sep i j x y n₁ n₂ b h1 h2 l1 l2 r1 r2 o1 o2
      ro := fun j s2 n2 get' nm b hj hn hr hb ho => by
        rw [findH_cons] at hj
        rcases Own.cons hf ho with h | h
        · cases h
        by_cases e : st.nx = j
        · subst e; rw [updL_self] at hj; cases hj
          rw [upd_self] at hr; cases hr
          simp only [roBlock, Option.some.injEq] at hb
          exact hm.hm.fam b ⟨fid, size, C, _, n, get, h2, hc, hn, by simp [slBlock, hb]⟩ h
        · rw [updL_ne _ _ e] at hj
          rw [upd_ne _ _ (Ne.symm e)] at hr
          exact hm.hm.ro j s2 n2 get' nm b hj hn hr hb h
      fam := fun b hz ho => by
        rw [findH_cons] at hz
        rcases Own.cons hf ho with h | h
        · cases h
        · exact hm.hm.fam b (hz.upd fun _ _ h => by cases h) h }
    kp := {
      str := hm.kp.str
      size := hm.kp.size
      same := hm.kp.same
      own := fun b ho => by
        rcases Own.cons hf ho with h | h
        · cases h
        · exact hm.kp.own b h
      ext := hm.kp.ext.trans (Ext.upd _ hf)
      fz := fun b hz => hm.kp.fz b (by rw [findH_cons] at hz; exact hz.upd fun _ _ h => by cases h) }
    nx := fun j hj => by
      have : st.nx + 1 ≤ j := hj
      rw [upd_ne _ _ (by omega)]; exact hm.nx j (by omega)
    sz := hm.sz }

/-! ### The steps -/

/-- What is frozen: the slots ds and the pieces hs hold it by its value from then on. -/
def frzK (sid fid : Nat) (ds hs : List Nat) (st : St) (Kst : St → Prop) : Prop :=
  match findH st.H sid, findH st.H fid with
  | some (.vec _ size n get), some (.fam size' C) => Nat.beq size size' = true ∧ 0 < n ∧ (∀ i, i < n → idsL 0 (get i) = true) ∧ memN hs fid = false ∧ memN hs sid = false ∧ hs.Nodup ∧ ∀ (ad : Addr) (c : Nat),
      fFzF sid (.slice (some ad) n c) st.F ds st.F fun F' => fFzH sid (.slice (some ad) n c) st.H hs st.H fun H' =>
        Kst ⟨F', st.gs, (fid, .fam size' (addC C (.slice (some ad) n c) n get)) :: (sid, .dead) :: H', st.nx, st.D⟩
  | _, _ => False

theorem frz_ok {sid fid : Nat} {ds hs : List Nat} {Kst : St → Prop} (h : frzK sid fid ds hs st Kst) (hm : Mod X ρ st a w) : ∃ ρ' st', Mod X ρ' st' a w ∧ Kst st' := by
  unfold frzK at h
  split at h
  · rename_i e size n get size' C e1 e2
    obtain ⟨hs', hn, hcl, hm1, hm2, hnd, h⟩ := h
    have hs' : size = size' := by simpa using hs'
    subst hs'
    -- the address, before anything is said otherwise
    obtain ⟨ad, c, hd, _⟩ := hm.freeze e1 hn hcl e2
    obtain ⟨F', g1, g2⟩ := fFzF_ok (v := .slice (some ad) n c) rfl hd ds (fun t u hu => ⟨u, hu, rfl⟩) hm (h ad c)
    obtain ⟨H', k1, k2, k3⟩ := fFzH_ok (v := .slice (some ad) n c) rfl hd hs (st := { st with F := F' }) (fun t x hx => .inl hx) hnd g1 g2
    have q1 : findH H' sid = some (.vec e size n get) := by rw [k2 sid fun hc => by rw [memN_iff.2 hc] at hm2; cases hm2]; exact e1
    have q2 : findH H' fid = some (.fam size C) := by rw [k2 fid fun hc => by rw [memN_iff.2 hc] at hm1; cases hm1]; exact e2
    obtain ⟨ad', c', hd', hm'⟩ := k1.freeze (st := { { st with F := F' } with H := H' }) q1 hn hcl q2
    rw [hd] at hd'
    cases hd'
    exact ⟨ρ, _, hm', k3⟩
  · exact h.elim

theorem fb_freeze (sid fid : Nat) (ds hs : List Nat) {ops : List Oper} {i : Nat} {o : Oper} {r : List Oper} {Q : Exit → Act → World → Prop} {K : St → Prop} {Kp : List PanicEntry → St → Prop} (hX : X.Ok) (hC : Cont X Q K Kp) (hi : ops.drop i = o :: r)
    (h : frzK sid fid ds hs st fun st => execL X ops Q K Kp i (o :: r) st) : FbO X ops Q K Kp i o r st :=
  ⟨fun ρ a w hm => let ⟨ρ', st', h1, h2⟩ := frz_ok h hm; (fb_again hX hC hi h2).h ρ' a w h1⟩
theorem fb_fam0 (size : Nat) {ops : List Oper} {i : Nat} {o : Oper} {r : List Oper} {Q : Exit → Act → World → Prop} {K : St → Prop} {Kp : List PanicEntry → St → Prop} (hX : X.Ok) (hC : Cont X Q K Kp) (hi : ops.drop i = o :: r)
    (h : stK st fun F gs H nx D => natF (nx + 1) fun nx' => execL X ops Q K Kp i (o :: r) ⟨F, gs, (nx, .fam size (fun _ _ _ => False)) :: H, nx', D⟩) : FbO X ops Q K Kp i o r st :=
  ⟨fun ρ a w hm => by
    rw [stK_eq, natF_eq] at h
    exact (fb_again hX hC hi h).h _ a w (hm.fam0 size)⟩
theorem sem_fam0 (size : Nat) {c : Code} {K : Ex → St → Prop} (h : stK st fun F gs H nx D => natF (nx + 1) fun nx' => SemC X c ⟨F, gs, (nx, .fam size (fun _ _ _ => False)) :: H, nx', D⟩ K) : SemC X c st K :=
  fun ρ a w hm => by
    rw [stK_eq, natF_eq] at h
    exact h _ a w (hm.fam0 size)
end
end Go.X
end

section
set_option linter.unusedVariables false
set_option linter.unusedSimpArgs false
set_option linter.unusedSectionVars false
/- Calls that are known by other numbers of their pieces, with a part of the heap alone. -/
set_option linter.unusedVariables false
set_option linter.unusedSimpArgs false
set_option maxRecDepth 10000
namespace Go.X
open Go

section
variable {ρ₀ ρ : Env} {s : Nat → Nat}
mutual
theorem den_imp (h : ∀ j nm, ρ₀ j = some nm → ρ (s j) = some nm) : ∀ (x : SV) (v : Value), den ρ₀ x = some v → den ρ (renSV s x) = some v
  | .sv x, v, hv => by simpa [den, renSV] using hv
  | .si k n, v, hv => by simpa [den, renSV] using hv
  | .sb p, v, hv => by simpa [den, renSV] using hv
  | .sp id off, v, hv => by
    simp only [den, renSV] at hv ⊢
    cases e : ρ₀ id with
    | none => simp [e] at hv
    | some nm => rw [h _ _ e]; simpa [e] using hv
  | .se id i off, v, hv => by
    simp only [den, renSV] at hv ⊢
    cases e : ρ₀ id with
    | none => simp [e] at hv
    | some nm => rw [h _ _ e]; simpa [e] using hv
  | .sl id, v, hv => by
    simp only [den, renSV] at hv ⊢
    cases e : ρ₀ id with
    | none => simp [e] at hv
    | some nm => rw [h _ _ e]; simpa [e] using hv
  | .sm id, v, hv => by
    simp only [den, renSV] at hv ⊢
    cases e : ρ₀ id with
    | none => simp [e] at hv
    | some nm => rw [h _ _ e]; simpa [e] using hv
  | .fy id, v, hv => by
    simp only [den, renSV] at hv ⊢
    cases e : ρ₀ id with
    | none => simp [e] at hv
    | some nm => rw [h _ _ e]; simpa [e] using hv
  | .agg l, v, hv => by
    simp only [den, renSV] at hv ⊢
    cases e : denL ρ₀ l with
    | none => simp [e] at hv
    | some vs => rw [denL_imp h l vs e]; simpa [e] using hv
  | .tup l, v, hv => by
    simp only [den, renSV] at hv ⊢
    cases e : denL ρ₀ l with
    | none => simp [e] at hv
    | some vs => rw [denL_imp h l vs e]; simpa [e] using hv
  | .fn f a b, v, hv => by
    simp only [den, renSV] at hv ⊢
    cases e : denL ρ₀ a with
    | none => simp [e] at hv
    | some vs =>
      cases e2 : denL ρ₀ b with
      | none => simp [e, e2] at hv
      | some us => rw [denL_imp h a vs e, denL_imp h b us e2]; simpa [e, e2] using hv
  | .ifc t x, v, hv => by
    simp only [den, renSV] at hv ⊢
    cases e : den ρ₀ x with
    | none => simp [e] at hv
    | some u => rw [den_imp h x u e]; simpa [e] using hv
  | .ss id off len tot, v, hv => by
    simp only [den, renSV] at hv ⊢
    cases e : ρ₀ id with
    | none => simp [e] at hv
    | some nm => rw [h _ _ e]; simpa [e] using hv
theorem denL_imp (h : ∀ j nm, ρ₀ j = some nm → ρ (s j) = some nm) : ∀ (l : List SV) (vs : List Value), denL ρ₀ l = some vs → denL ρ (renL s l) = some vs
  | [], vs, hv => by simpa [denL, renL] using hv
  | x :: r, vs, hv => by
    simp only [denL, renL] at hv ⊢
    cases e : den ρ₀ x with
    | none => simp [e] at hv
    | some u =>
      cases e2 : denL ρ₀ r with
      | none => simp [e, e2] at hv
      | some us => rw [den_imp h x u e, denL_imp h r us e2]; simpa [e, e2] using hv
end
end

/-- A piece, its ids numbered otherwise. -/
def renB (s : Nat → Nat) : HB → HB
  | .cells T cs => .cells T (renL s cs)
  | .row T z n xs => .row T z n (renL s xs)
  | x => x
def renH (s : Nat → Nat) : List (Nat × HB) → List (Nat × HB)
  | [] => []
  | (t, x) :: r => (s t, renB s x) :: renH s r
/-- Which pieces can be numbered otherwise. -/
def okB : HB → Prop
  | .ro _ n get => ∀ i, i < n → idsL 0 (get i) = true
  | .vec _ _ n get => ∀ i, i < n → idsL 0 (get i) = true
  | .it .. => False
  | .loop .. => False
  | _ => True
def okH : List (Nat × HB) → Prop
  | [] => True
  | (_, x) :: r => okB x ∧ okH r
theorem okH_find : ∀ {H : List (Nat × HB)}, okH H → ∀ t x, findH H t = some x → okB x
  | (a, y) :: r, h, t, x, hf => by
    by_cases e : a = t
    · subst e
      rw [findH_cons, updL_self] at hf; cases hf
      exact h.1
    · rw [findH_skip e] at hf
      exact okH_find h.2 t x hf
theorem denL_any {ρ ρ' : Env} {l : List SV} {vs : List Value} (hi : idsL 0 l = true) (h : denL ρ l = some vs) : denL ρ' l = some vs :=
  denL_ext (fun _ _ h => by cases h) _ _ (den_closed hi h)
theorem renB_ok {ρ₀ ρ : Env} {s : Nat → Nat} {w : World} (h : ∀ j nm, ρ₀ j = some nm → ρ (s j) = some nm) {x : HB} {nm : Nm} (ho : okB x) (k : HBok ρ₀ w x nm) : HBok ρ w (renB s x) nm := by
  cases x with
  | dead => trivial
  | cells T cs =>
    cases nm <;> simp only [HBok, renB] at k ⊢
    obtain ⟨vs, h1, h2, h3⟩ := k
    exact ⟨vs, denL_imp h _ _ h1, h2, h3⟩
  | ro size n get =>
    cases nm <;> simp only [HBok, renB] at k ⊢
    obtain ⟨h1, h2, h0, h3⟩ := k
    refine ⟨h1, h2, h0, fun hn => ?_⟩
    obtain ⟨ad, e, hb, hc⟩ := h3 hn
    refine ⟨ad, e, hb, fun i hi => ?_⟩
    obtain ⟨vs, d1, d2⟩ := hc i hi
    exact ⟨vs, denL_any (ho i hi) d1, d2⟩
  | row T size n xs =>
    cases nm <;> simp only [HBok, renB] at k ⊢
    obtain ⟨h1, h2, h3, vs, rest, h4, h5⟩ := k
    exact ⟨h1, h2, h3, vs, rest, denL_imp h _ _ h4, h5⟩
  | vec T size n get =>
    cases nm <;> simp only [HBok, renB] at k ⊢
    · exact k
    obtain ⟨h1, h2, h3, cells, h4, h5, h6⟩ := k
    refine ⟨h1, h2, h3, cells, h4, h5, fun i hi => ?_⟩
    obtain ⟨vs, d1, d2⟩ := h6 i hi
    exact ⟨vs, denL_any (ho i hi) d1, d2⟩
  | map es clock => cases nm <;> exact k
  | mp es => cases nm <;> exact k
  | dfr => cases nm <;> exact k
  | fam size C => cases nm <;> exact k
  | it mid since seen last => exact ho.elim
  | loop F nt fn ps assign body db s pd => exact ho.elim
theorem renB_live (s : Nat → Nat) (x : HB) : (renB s x).live = x.live := by cases x <;> rfl
theorem renB_ro {s : Nat → Nat} {x : HB} {z n : Nat} {g : Nat → List SV} (h : renB s x = .ro z n g) : x = .ro z n g := by cases x <;> first | exact h | cases h
theorem renB_fam {s : Nat → Nat} {x : HB} {z : Nat} {C : Value → Nat → (Nat → List SV) → Prop} (h : renB s x = .fam z C) : x = .fam z C := by cases x <;> first | exact h | cases h
theorem renH_find {s : Nat → Nat} : ∀ {H : List (Nat × HB)} {k : Nat} {y : HB}, findH (renH s H) k = some y → ∃ t x, s t = k ∧ findH H t = some x ∧ y = renB s x
  | (a, x) :: r, k, y, hf => by
    simp only [renH] at hf
    by_cases e : s a = k
    · rw [e, findH_cons, updL_self] at hf; cases hf
      exact ⟨a, x, e, by rw [findH_cons, updL_self], rfl⟩
    · rw [findH_skip e] at hf
      obtain ⟨t, x', h1, h2, h3⟩ := renH_find hf
      refine ⟨t, x', h1, ?_, h3⟩
      rw [findH_skip (fun e2 : a = t => e (by rw [e2]; exact h1))]
      exact h2
theorem renH_cover {s : Nat → Nat} : ∀ {H : List (Nat × HB)} {t : Nat} {x : HB}, findH H t = some x → ∃ y, findH (renH s H) (s t) = some y
  | (a, x) :: r, t, z, hf => by
    by_cases e : s a = s t
    · exact ⟨renB s x, by simp only [renH]; rw [e, findH_cons, updL_self]⟩
    · have hne : a ≠ t := fun h => e (by rw [h])
      rw [findH_skip hne] at hf
      obtain ⟨y, hy⟩ := renH_cover (s := s) hf
      exact ⟨y, by simp only [renH]; rw [findH_skip e]; exact hy⟩

/-- A has a piece for each id. -/
def fullL (A : List (Nat × HB)) : Nat → Bool
  | 0 => true
  | n + 1 => match findH A n with
    | some _ => fullL A n
    | none => false
theorem fullL_ok {A : List (Nat × HB)} : ∀ {n : Nat}, fullL A n = true → ∀ t, t < n → ∃ x, findH A t = some x
  | n + 1, h, t, ht => by
    simp only [fullL] at h
    split at h
    · rename_i x e
      by_cases e2 : t = n
      · subst e2; exact ⟨x, e⟩
      · exact fullL_ok h t (by omega)
    · cases h

/-- How ids are numbered after the call. -/
def shI (s : Nat → Nat) (n0 nx j : Nat) : Nat :=
  match Nat.ble n0 j with
  | true => nx + (j - n0)
  | false => s j

def fRenB (s : Nat → Nat) : HB → (HB → Prop) → Prop
  | .cells T cs, K => fSVL (renL s cs) fun l => K (.cells T l)
  | .row T z n xs, K => fSVL (renL s xs) fun l => K (.row T z n l)
  | x, K => K x
theorem fRenB_eq (s : Nat → Nat) (x : HB) (K : HB → Prop) : fRenB s x K = K (renB s x) := by cases x <;> simp [fRenB, renB, fSVL_eq]
def fRenH (s : Nat → Nat) (H : List (Nat × HB)) : List (Nat × HB) → (List (Nat × HB) → Prop) → Prop
  | [], K => K H
  | (t, x) :: r, K => natF (s t) fun t' => fRenB s x fun x' => fRenH s H r fun l => K ((t', x') :: l)
theorem fRenH_eq (s : Nat → Nat) (H : List (Nat × HB)) : ∀ (l : List (Nat × HB)) (K : List (Nat × HB) → Prop), fRenH s H l K = K (renH s l ++ H)
  | [], K => rfl
  | (t, x) :: r, K => by simp [fRenH, renH, natF_eq, fRenB_eq, fRenH_eq s H r]

/-- What a call comes to, by the caller's numbers. -/
def AtK (s : Nat → Nat) (n0 nx : Nat) (A : List (Nat × HB)) (H : List (Nat × HB)) (Rv : SV → List (Nat × HB) → Nat → Prop) (v : SV) (H' : List (Nat × HB)) (nx' : Nat) : Prop :=
  coverL H' A = true ∧ roSame A H' ∧ okH H' ∧ fSV (renSV (shI s n0 nx) v) fun v1 => fRenH (shI s n0 nx) H H' fun H1 => natF (nx + (nx' - n0)) fun n1 => Rv v1 H1 n1
def AtP (s : Nat → Nat) (n0 nx : Nat) (A : List (Nat × HB)) (H : List (Nat × HB)) (Rp : List PanicEntry → List (Nat × HB) → Nat → Prop) (ch : List PanicEntry) (H' : List (Nat × HB)) (nx' : Nat) : Prop :=
  coverL H' A = true ∧ roSame A H' ∧ okH H' ∧ fRenH (shI s n0 nx) H H' fun H1 => natF (nx + (nx' - n0)) fun n1 => Rp ch H1 n1

theorem callS_at {P : Program} {n : Nat} {l : List SV} {H : List (Nat × HB)} {nx : Nat} {Rv : SV → List (Nat × HB) → Nat → Prop} {Rp : List PanicEntry → List (Nat × HB) → Nat → Prop} (l0 : List SV) (A : List (Nat × HB)) (n0 : Nat) (s : Nat → Nat)
    (hl : SVeqL l (renL s l0)) (hli : idsL n0 l0 = true) (hA : weakRH s n0 H A) (hinj : injI s A = true) (hfull : fullL A n0 = true)
    (h : CallS P n l0 A n0 (AtK s n0 nx A H Rv) (AtP s n0 nx A H Rp)) : CallS P n l H nx Rv Rp := by
  intro ρ w vals hm hnx hd
  have hfind := weakRH_ok hA
  obtain ⟨ρ₀, hρ₀⟩ : ∃ ρ₀, ρ₀ = envR ρ s n0 := ⟨_, rfl⟩
  have hd0 : denL ρ₀ l0 = some vals := by rw [hρ₀, denL_envR _ hli, ← SVeqL_eq _ _ hl]; exact hd
  have hsome : ∀ {j nm}, ρ₀ j = some nm → j < n0 ∧ ρ (s j) = some nm := fun h => by rw [hρ₀] at h; exact envR_some h
  have hlt0 : ∀ {j}, j < n0 → ρ₀ j = ρ (s j) := fun h => by rw [hρ₀]; exact envR_lt h
  have hok0 : ∀ {id hb}, findH A id = some hb → ∃ nm, ρ₀ id = some nm ∧ ρ (s id) = some nm ∧ HBok ρ₀ w hb nm := fun hf => by
    obtain ⟨h1, hc, h2, h3⟩ := hfind _ _ hf
    obtain ⟨nm, h4, h5⟩ := hm.ok _ _ h2
    exact ⟨nm, by rw [hlt0 h1]; exact h4, h4, by rw [hρ₀]; exact lessHB_ok h3 h5⟩
  have hownA : ∀ b, Own ρ₀ (findH A) b → Own ρ (findH H) b := fun b ⟨id, x, nm', h1, h2, h3, h4⟩ => by
    obtain ⟨_, c2, b2, b3⟩ := hfind id x h1
    exact ⟨_, c2, nm', b2, lessHB_live b3 h2, (hsome h3).2, h4⟩
  have hfzA : ∀ b, Fz (findH A) b → Fz (findH H) b := fun b hz => weakRH_fz hA hz
  have hmA : HM ρ₀ (findH A) w := {
    ok := fun id hb hf => let ⟨nm, h1, _, h2⟩ := hok0 hf; ⟨nm, h1, h2⟩
    sep := fun i j x y n₁ n₂ b h1 h2 l1 l2 r1 r2 o1 o2 => by
      obtain ⟨_, c1, a2, a3⟩ := hfind i x h1
      obtain ⟨_, c2, b2, b3⟩ := hfind j y h2
      exact injI_ok hinj i j x y h1 h2 (hm.sep _ _ c1 c2 n₁ n₂ b a2 b2 (lessHB_live a3 l1) (lessHB_live b3 l2) (hsome r1).2 (hsome r2).2 o1 o2)
    ro := fun j size m get nm b hf hpos hr hb hO => by
      obtain ⟨_, c1, a2, a3⟩ := hfind j _ hf
      obtain ⟨g', rfl⟩ := lessHB_ro a3
      exact hm.ro _ size m g' nm b a2 hpos (hsome hr).2 hb (hownA b hO)
    fam := fun b hz hO => hm.fam b (hfzA b hz) (hownA b hO) }
  have hn0 : ∀ j, n0 ≤ j → ρ₀ j = none := fun j hj => by rw [hρ₀]; unfold envR; rw [if_neg (by omega)]
  -- what was left lies apart
  have hRown : ∀ k x nm b, (∀ t y, findH A t = some y → s t ≠ k) → findH H k = some x → x.live = true → ρ k = some nm → nm.owner = some b → ¬ Own ρ₀ (findH A) b := by
    intro k x nm b h0 h1 hl h2 h3 ⟨id, y, nm', g1, g2, g3, g4⟩
    obtain ⟨_, c2, b2, b3⟩ := hfind id y g1
    exact h0 id y g1 (hm.sep _ k c2 x nm' nm b b2 h1 (lessHB_live b3 g2) hl (hsome g3).2 h2 g4 h3)
  have hlt : ∀ k x nm b, findH H k = some x → x.live = true → ρ k = some nm → nm.owner = some b → b < w.heap.size := fun k x nm b h1 h2 h3 h4 => hm.lt ⟨k, x, nm, h1, h2, h3, h4⟩
  have hrolt : ∀ k size m get nm b, findH H k = some (.ro size m get) → 0 < m → ρ k = some nm → roBlock nm = some b → b < w.heap.size := by
    intro t size m get nm b h1 hpos h3 h4
    obtain ⟨nm2, k1, k2⟩ := hm.ok t _ h1
    rw [h3] at k1; cases k1
    cases nm <;> simp only [HBok] at k2
    obtain ⟨_, _, _, k3⟩ := k2
    obtain ⟨ad, rfl, klt, k4⟩ := k3 hpos
    simp only [roBlock, Option.some.injEq] at h4
    subst h4
    exact klt
  have back : ∀ {H' : List (Nat × HB)} {ρ₁ : Env} {w' : World} {nx' : Nat}, coverL H' A = true → roSame A H' → okH H' → HM ρ₁ (findH H') w' → Keep ⟨w, Own ρ₀ (findH A), ρ₀, Fz (findH A)⟩ ρ₁ (findH H') w' → (∀ j, nx' ≤ j → ρ₁ j = none) →
      ∃ ρ', (∀ j nm, ρ₁ j = some nm → ρ' (shI s n0 nx j) = some nm) ∧ HM ρ' (findH (renH (shI s n0 nx) H' ++ H)) w' ∧ Keep ⟨w, Own ρ (findH H), ρ, Fz (findH H)⟩ ρ' (findH (renH (shI s n0 nx) H' ++ H)) w' ∧ ∀ j, nx + (nx' - n0) ≤ j → ρ' j = none := by
    intro H' ρ₁ w' nx' hcov hro hokH hm' hk' hnx'
    obtain ⟨σ, hσ⟩ : ∃ σ, σ = shI s n0 nx := ⟨_, rfl⟩
    rw [← hσ]
    have hσge : ∀ {j}, n0 ≤ j → σ j = nx + (j - n0) := fun h => by rw [hσ]; simp only [shI, Nat.ble_eq_true_of_le h]
    have hσlt : ∀ {j}, j < n0 → σ j = s j := fun {j} h => by
      rw [hσ]; simp only [shI]
      cases e : Nat.ble n0 j with
      | true => have := Nat.le_of_ble_eq_true e; omega
      | false => rfl
    let ρ' : Env := fun j => if j < nx then ρ j else ρ₁ (n0 + (j - nx))
    have hρlt : ∀ {j}, j < nx → ρ' j = ρ j := fun {j} h => by show (if j < nx then ρ j else ρ₁ (n0 + (j - nx))) = ρ j; rw [if_pos h]
    have hρge : ∀ {j}, nx ≤ j → ρ' j = ρ₁ (n0 + (j - nx)) := fun {j} h => by show (if j < nx then ρ j else ρ₁ (n0 + (j - nx))) = _; rw [if_neg (by omega)]
    have hslt : ∀ {j nm}, ρ j = some nm → j < nx := fun {j nm} h => by
      rcases Nat.lt_or_ge j nx with h1 | h1
      · exact h1
      · rw [hnx j h1] at h; cases h
    have himp : ∀ j nm, ρ₁ j = some nm → ρ' (σ j) = some nm := by
      intro j nm hj
      rcases Nat.lt_or_ge j n0 with h1 | h1
      · obtain ⟨x, hx⟩ := fullL_ok hfull j h1
        obtain ⟨nm', g1, g2, _⟩ := hok0 hx
        rw [hk'.ext _ _ g1] at hj; cases hj
        rw [hσlt h1, hρlt (hslt g2)]
        exact g2
      · rw [hσge h1, hρge (by omega), show n0 + (nx + (j - n0) - nx) = j by omega]
        exact hj
    have hext : Ext ρ ρ' := fun j nm hj => by rw [hρlt (hslt hj)]; exact hj
    have cases' : ∀ k y, findH (renH σ H' ++ H) k = some y → (∃ t x, σ t = k ∧ findH H' t = some x ∧ y = renB σ x) ∨ ((∀ t y, findH A t = some y → s t ≠ k) ∧ findH H k = some y) := by
      intro k y hk
      rw [findH_app] at hk
      split at hk
      · rename_i e; cases hk; exact .inl (renH_find e)
      · rename_i e
        refine .inr ⟨fun t z hz hst => ?_, hk⟩
        obtain ⟨z', hz'⟩ := coverL_find hcov t z hz
        obtain ⟨y', hy'⟩ := renH_cover (s := σ) hz'
        rw [hσlt (hfind t z hz).1, hst, e] at hy'
        cases hy'
    -- a piece that came back, and its place
    have hplace : ∀ t x, findH H' t = some x → ∃ nm, ρ₁ t = some nm ∧ ρ' (σ t) = some nm ∧ HBok ρ₁ w' x nm := fun t x hx => by
      obtain ⟨nm, h1, h2⟩ := hm'.ok t x hx
      exact ⟨nm, h1, himp t nm h1, h2⟩
    have ownNew : ∀ b, Own ρ₁ (findH H') b → Own ρ₀ (findH A) b ∨ w.heap.size ≤ b := fun b hO => hk'.own b hO
    have hleft : ∀ k x, findH H k = some x → ∃ nm, ρ k = some nm ∧ ρ' k = some nm ∧ HBok ρ w x nm := fun k x hx => by
      obtain ⟨nm, h1, h2⟩ := hm.ok _ _ hx
      exact ⟨nm, h1, hext _ _ h1, h2⟩
    have fzNew : ∀ b, Fz (findH (renH σ H' ++ H)) b → Fz (findH H') b ∨ Fz (findH H) b := by
      rintro b ⟨k, size, C, v, m, get, hf, hc, hpos, hb⟩
      rcases cases' k _ hf with ⟨t, x, rfl, h1, h2⟩ | ⟨_, h1⟩
      · rw [renB_fam h2.symm] at h1
        exact .inl ⟨t, size, C, v, m, get, h1, hc, hpos, hb⟩
      · exact .inr ⟨k, size, C, v, m, get, h1, hc, hpos, hb⟩
    refine ⟨ρ', himp, ?_, ?_, ?_⟩
    · exact {
        ok := fun k y hf => by
          rcases cases' k y hf with ⟨t, x, rfl, h1, rfl⟩ | ⟨h0, h1⟩
          · obtain ⟨nm, g1, g2, g3⟩ := hplace t x h1
            exact ⟨nm, g2, renB_ok himp (okH_find hokH t x h1) g3⟩
          · obtain ⟨nm, q1, q2, q3⟩ := hleft k y h1
            refine ⟨nm, q2, HBok_ext hext (HBok_world hk'.size ?_ ?_ ?_ q3)⟩
            · intro hl b hb'
              exact hk'.same b (hlt k y nm b h1 hl q1 hb') (hRown k y nm b h0 h1 hl q1 hb')
            · intro size m get b e hpos hr
              subst e
              exact hk'.same b (hrolt k size m get nm b h1 hpos q1 hr) (fun hO => hm.ro k size m get nm b h1 hpos q1 hr (hownA b hO))
            · intro size C v m get b e hc hpos hr
              subst e
              have hz : Fz (findH H) b := ⟨k, size, C, v, m, get, h1, hc, hpos, hr⟩
              exact hk'.same b (hm.fz_lt hz) (fun hO => hm.fam b hz (hownA b hO))
        sep := fun i j x y n₁ n₂ b h1 h2 l1 l2 r1 r2 o1 o2 => by
          rcases cases' i x h1 with ⟨t1, x1, rfl, f1, rfl⟩ | ⟨z1, h1⟩ <;> rcases cases' j y h2 with ⟨t2, x2, rfl, f2, rfl⟩ | ⟨z2, h2⟩
          · rw [renB_live] at l1 l2
            obtain ⟨nm1, g1, g2, _⟩ := hplace t1 x1 f1
            obtain ⟨nm2, k1, k2, _⟩ := hplace t2 x2 f2
            rw [g2] at r1; cases r1
            rw [k2] at r2; cases r2
            rw [hm'.sep t1 t2 x1 x2 _ _ b f1 f2 l1 l2 g1 k1 o1 o2]
          · rw [renB_live] at l1
            obtain ⟨nm1, g1, g2, _⟩ := hplace t1 x1 f1
            rw [g2] at r1; cases r1
            obtain ⟨nm, q1, q2, q3⟩ := hleft j y h2
            rw [q2] at r2; cases r2
            have k1 := hRown j y _ b z2 h2 l2 q1 o2
            have k2 := hlt j y _ b h2 l2 q1 o2
            rcases ownNew _ ⟨t1, x1, _, f1, l1, g1, o1⟩ with h | h
            · exact absurd h k1
            · omega
          · rw [renB_live] at l2
            obtain ⟨nm1, g1, g2, _⟩ := hplace t2 x2 f2
            rw [g2] at r2; cases r2
            obtain ⟨nm, q1, q2, q3⟩ := hleft i x h1
            rw [q2] at r1; cases r1
            have k1 := hRown i x _ b z1 h1 l1 q1 o1
            have k2 := hlt i x _ b h1 l1 q1 o1
            rcases ownNew _ ⟨t2, x2, _, f2, l2, g1, o2⟩ with h | h
            · exact absurd h k1
            · omega
          · obtain ⟨nm, q1, q2, q3⟩ := hleft i x h1
            obtain ⟨nm', p1, p2, p3⟩ := hleft j y h2
            rw [q2] at r1; cases r1
            rw [p2] at r2; cases r2
            exact hm.sep i j x y _ _ b h1 h2 l1 l2 q1 p1 o1 o2
        ro := fun j size m get nm b hf hpos hr hb hO => by
          obtain ⟨id, x, nm', g1, g2, g3, g4⟩ := hO
          rcases cases' j _ hf with ⟨t1, x1, rfl, f1, e1⟩ | ⟨z1, h1⟩
          · rw [renB_ro e1.symm] at f1
            obtain ⟨nm1, k1, k2, _⟩ := hplace t1 _ f1
            rw [k2] at hr; cases hr
            rcases cases' id x g1 with ⟨t2, x2, rfl, f2, rfl⟩ | ⟨z2, g1⟩
            · rw [renB_live] at g2
              obtain ⟨nm2, q1, q2, _⟩ := hplace t2 x2 f2
              rw [q2] at g3; cases g3
              exact hm'.ro t1 size m get _ b f1 hpos k1 hb ⟨t2, x2, _, f2, g2, q1, g4⟩
            · obtain ⟨nm2, q1, q2, q3⟩ := hleft id x g1
              rw [q2] at g3; cases g3
              obtain ⟨s', g', e⟩ := roSame_find hro t1 size m get f1
              obtain ⟨nm3, p1, p2, _⟩ := hok0 e
              have p3 := hk'.ext _ _ p1
              rw [k1] at p3; cases p3
              obtain ⟨_, c2, b2, b3⟩ := hfind t1 _ e
              obtain ⟨g'', rfl⟩ := lessHB_ro b3
              exact hm.ro _ s' m g'' _ b b2 hpos p2 hb ⟨id, x, _, g1, g2, q1, g4⟩
          · obtain ⟨nm2, q1, q2, q3⟩ := hleft j _ h1
            rw [hr] at q2; cases q2
            rcases cases' id x g1 with ⟨t2, x2, rfl, f2, rfl⟩ | ⟨z2, g1⟩
            · rw [renB_live] at g2
              obtain ⟨nm2, k1, k2, _⟩ := hplace t2 x2 f2
              rw [k2] at g3; cases g3
              rcases ownNew b ⟨t2, x2, _, f2, g2, k1, g4⟩ with h | h
              · exact hm.ro j size m get nm b h1 hpos q1 hb (hownA b h)
              · have := hrolt j size m get nm b h1 hpos q1 hb
                omega
            · obtain ⟨nm3, p1, p2, p3⟩ := hleft id x g1
              rw [p2] at g3; cases g3
              exact hm.ro j size m get nm b h1 hpos q1 hb ⟨id, x, _, g1, g2, p1, g4⟩
        fam := fun b hz hO => by
          obtain ⟨id, x, nm', g1, g2, g3, g4⟩ := hO
          rcases fzNew b hz with hz | hz
          · rcases cases' id x g1 with ⟨t2, x2, rfl, f2, rfl⟩ | ⟨z2, g1⟩
            · rw [renB_live] at g2
              obtain ⟨nm2, k1, k2, _⟩ := hplace t2 x2 f2
              rw [k2] at g3; cases g3
              exact hm'.fam b hz ⟨t2, x2, _, f2, g2, k1, g4⟩
            · obtain ⟨nm2, q1, q2, q3⟩ := hleft id x g1
              rw [q2] at g3; cases g3
              rcases hk'.fz b hz with h | h | h
              · exact hRown id x _ b z2 g1 g2 q1 g4 h
              · have := hlt id x _ b g1 g2 q1 g4
                have h : w.heap.size ≤ b := h
                omega
              · exact hm.fam b (hfzA b h) ⟨id, x, _, g1, g2, q1, g4⟩
          · rcases cases' id x g1 with ⟨t2, x2, rfl, f2, rfl⟩ | ⟨z2, g1⟩
            · rw [renB_live] at g2
              obtain ⟨nm2, k1, k2, _⟩ := hplace t2 x2 f2
              rw [k2] at g3; cases g3
              rcases ownNew b ⟨t2, x2, _, f2, g2, k1, g4⟩ with h | h
              · exact hm.fam b hz (hownA b h)
              · have := hm.fz_lt hz
                omega
            · obtain ⟨nm3, p1, p2, p3⟩ := hleft id x g1
              rw [p2] at g3; cases g3
              exact hm.fam b hz ⟨id, x, _, g1, g2, p1, g4⟩ }
    · exact {
        str := hk'.str
        size := hk'.size
        same := fun b hb hnM => hk'.same b hb (fun h => hnM (hownA b h))
        own := fun b ⟨id, x, nm', g1, g2, g3, g4⟩ => by
          rcases cases' id x g1 with ⟨t2, x2, rfl, f2, rfl⟩ | ⟨z1, g1⟩
          · rw [renB_live] at g2
            obtain ⟨nm2, k1, k2, _⟩ := hplace t2 x2 f2
            rw [k2] at g3; cases g3
            rcases ownNew b ⟨t2, x2, _, f2, g2, k1, g4⟩ with h | h
            · exact .inl (hownA b h)
            · exact .inr h
          · obtain ⟨nm, q1, q2, q3⟩ := hleft id x g1
            rw [q2] at g3; cases g3
            exact .inl ⟨id, x, _, g1, g2, q1, g4⟩
        ext := hext
        fz := fun b hz => by
          rcases fzNew b hz with hz | hz
          · exact (hk'.fz b hz).imp (hownA b) (Or.imp id (hfzA b))
          · exact .inr (.inr hz) }
    · intro j hj
      rw [hρge (by omega)]
      exact hnx' _ (by omega)
  refine (h ρ₀ w vals hmA hn0 hd0).mono ?_
  rintro e w' (⟨v, H', nx', ρ₁, u, rfl, h1, h2, h3, h4, hc, hr, ho, hK⟩ | ⟨ch, H', nx', ρ₁, rfl, h2, h3, h4, hc, hr, ho, hK⟩)
  · obtain ⟨ρ', b1, b2, b3, b4⟩ := back hc hr ho h2 h3 h4
    rw [fSV_eq, fRenH_eq, natF_eq] at hK
    exact .inl ⟨_, _, _, ρ', u, rfl, den_imp b1 _ _ h1, b2, b3, b4, hK⟩
  · obtain ⟨ρ', b1, b2, b3, b4⟩ := back hc hr ho h2 h3 h4
    rw [fRenH_eq, natF_eq] at hK
    exact .inr ⟨ch, _, _, ρ', rfl, b2, b3, b4, hK⟩
end Go.X
end

section
set_option linter.unusedVariables false
set_option linter.unusedSimpArgs false
set_option linter.unusedSectionVars false
/- Before a call: a piece under a new number, a new family. -/
set_option linter.unusedVariables false
set_option linter.unusedSimpArgs false
set_option maxRecDepth 10000
namespace Go.X
open Go

theorem HM.move {ρ : Env} {H : List (Nat × HB)} {w : World} (hm : HM ρ (findH H) w) {id nx : Nat} {hb : HB} {nm : Nm} (hf : findH H id = some hb) (hn : ρ id = some nm) (hx : ρ nx = none) (hl : hb.live = true) (hnr : ∀ s n g, hb ≠ .ro s n g) (hnf : ∀ s C, hb ≠ .fam s C) :
    HM (upd ρ nx nm) (findH ((nx, hb) :: (id, .dead) :: H)) w ∧ (∀ b, Own (upd ρ nx nm) (findH ((nx, hb) :: (id, .dead) :: H)) b → Own ρ (findH H) b) ∧ ∀ b, Fz (findH ((nx, hb) :: (id, .dead) :: H)) b → Fz (findH H) b := by
  have hne : nx ≠ id := by rintro rfl; rw [hn] at hx; cases hx
  have key : ∀ {j : Nat} {x : HB}, findH ((nx, hb) :: (id, .dead) :: H) j = some x → (j = nx ∧ x = hb) ∨ (j = id ∧ x = .dead) ∨ (j ≠ nx ∧ j ≠ id ∧ findH H j = some x) := by
    intro j x h
    rw [findH_cons] at h
    by_cases e1 : nx = j
    · subst e1; rw [updL_self] at h; cases h; exact .inl ⟨rfl, rfl⟩
    · rw [updL_ne _ _ e1, findH_cons] at h
      by_cases e2 : id = j
      · subst e2; rw [updL_self] at h; cases h; exact .inr (.inl ⟨rfl, rfl⟩)
      · rw [updL_ne _ _ e2] at h; exact .inr (.inr ⟨Ne.symm e1, Ne.symm e2, h⟩)
  -- a live piece is one that was
  have back : ∀ {j : Nat} {x : HB} {nm' : Nm}, findH ((nx, hb) :: (id, .dead) :: H) j = some x → x.live = true → upd ρ nx nm j = some nm' → ∃ j', findH H j' = some x ∧ ρ j' = some nm' ∧ ((j = nx ∧ j' = id) ∨ (j ≠ nx ∧ j ≠ id ∧ j' = j)) := by
    intro j x nm' h hl' hr
    rcases key h with ⟨rfl, rfl⟩ | ⟨rfl, rfl⟩ | ⟨h1, h2, h3⟩
    · rw [upd_self] at hr; cases hr; exact ⟨id, hf, hn, .inl ⟨rfl, rfl⟩⟩
    · cases hl'
    · rw [upd_ne _ _ h1] at hr; exact ⟨j, h3, hr, .inr ⟨h1, h2, rfl⟩⟩
  have hown : ∀ b, Own (upd ρ nx nm) (findH ((nx, hb) :: (id, .dead) :: H)) b → Own ρ (findH H) b := by
    rintro b ⟨j, x, nm', h1, h2, h3, h4⟩
    obtain ⟨j', g1, g2, _⟩ := back h1 h2 h3
    exact ⟨j', x, nm', g1, h2, g2, h4⟩
  have hfz : ∀ b, Fz (findH ((nx, hb) :: (id, .dead) :: H)) b → Fz (findH H) b := fun b hz => hz.sub fun j s C h => by
    rcases key h with ⟨rfl, e⟩ | ⟨rfl, e⟩ | ⟨_, _, h3⟩
    · exact (hnf _ _ e.symm).elim
    · cases e
    · exact h3
  refine ⟨⟨?_, ?_, ?_, fun b hz ho => hm.fam b (hfz b hz) (hown b ho)⟩, hown, hfz⟩
  · intro j x h
    rcases key h with ⟨rfl, rfl⟩ | ⟨rfl, rfl⟩ | ⟨h1, h2, h3⟩
    · obtain ⟨nm', g1, g2⟩ := hm.ok _ _ hf
      rw [hn] at g1; cases g1
      exact ⟨nm, upd_self _ _ _, HBok_ext (Ext.upd nm hx) g2⟩
    · exact ⟨nm, by rw [upd_ne _ _ (Ne.symm hne)]; exact hn, trivial⟩
    · obtain ⟨nm', g1, g2⟩ := hm.ok _ _ h3
      exact ⟨nm', by rw [upd_ne _ _ h1]; exact g1, HBok_ext (Ext.upd nm hx) g2⟩
  · intro i j x y n₁ n₂ b h1 h2 l1 l2 r1 r2 o1 o2
    obtain ⟨i', g1, g2, g3⟩ := back h1 l1 r1
    obtain ⟨j', k1, k2, k3⟩ := back h2 l2 r2
    have := hm.sep i' j' x y n₁ n₂ b g1 k1 l1 l2 g2 k2 o1 o2
    subst this
    rcases g3 with ⟨rfl, rfl⟩ | ⟨a1, a2, rfl⟩ <;> rcases k3 with ⟨rfl, e⟩ | ⟨b1, b2, e⟩
    · rfl
    · exact (b2 e.symm).elim
    · exact (a2 e).elim
    · exact e
  · intro j size m get nm' b h hpos hr hb' ho
    rcases key h with ⟨rfl, e⟩ | ⟨rfl, e⟩ | ⟨h1, h2, h3⟩
    · exact (hnr _ _ _ e.symm).elim
    · cases e
    · rw [upd_ne _ _ h1] at hr
      exact hm.ro j size m get nm' b h3 hpos hr hb' (hown b ho)

end Go.X
end
