/- States whose ids are numbered otherwise; loops over them; Many branches that come to one loop, with what they have found. -/
import Derived.Test.YtfhkkhgbjbnenaaDoorTPB
import Derived.Laws.NewFold
import Derived.Laws.IdiomRangeMap
import Derived.Laws.AppendOwn
import Derived.Laws.CopyRow
import Derived.RangeFuncRecord
import Derived.ProofKit
import Derived.OpenShut
import Derived.Carry
import Derived.ChangeOld
import Derived.Deep.Slices
import Derived.Lib.SmallJoins
import Derived.OrdersIn

section
set_option linter.unusedVariables false
set_option linter.unusedSimpArgs false
set_option linter.unusedSectionVars false
/- States whose ids are numbered otherwise; loops over them. -/
set_option linter.unusedVariables false
set_option linter.unusedSimpArgs false
set_option maxRecDepth 10000
namespace Go.X
open Go

def envR (ρ : Env) (s : Nat → Nat) (n : Nat) : Env := fun j => if j < n then ρ (s j) else none
theorem envR_lt {ρ : Env} {s : Nat → Nat} {n j : Nat} (h : j < n) : envR ρ s n j = ρ (s j) := by simp [envR, h]
theorem envR_some {ρ : Env} {s : Nat → Nat} {n j : Nat} {nm : Nm} (h : envR ρ s n j = some nm) : j < n ∧ ρ (s j) = some nm := by
  unfold envR at h; split at h
  · exact ⟨by assumption, h⟩
  · cases h

mutual
theorem den_envR {ρ : Env} {s : Nat → Nat} {n : Nat} : ∀ (x : SV), idsSV n x = true → den (envR ρ s n) x = den ρ (renSV s x)
  | .sv x, _ => by simp [den, renSV]
  | .si k n, _ => by simp [den, renSV]
  | .sb p, _ => by simp [den, renSV]
  | .sp id off, h => by simp only [idsSV, ltN_iff] at h; simp [den, renSV, envR_lt h]
  | .se id i off, h => by simp only [idsSV, ltN_iff] at h; simp [den, renSV, envR_lt h]
  | .sl id, h => by simp only [idsSV, ltN_iff] at h; simp [den, renSV, envR_lt h]
  | .sm id, h => by simp only [idsSV, ltN_iff] at h; simp [den, renSV, envR_lt h]
  | .fy id, h => by simp only [idsSV, ltN_iff] at h; simp [den, renSV, envR_lt h]
  | .ss id _ _ _, h => by simp only [idsSV, ltN_iff] at h; simp [den, renSV, envR_lt h]
  | .agg l, h => by simp only [idsSV] at h; simp [den, renSV, denL_envR l h]
  | .tup l, h => by simp only [idsSV] at h; simp [den, renSV, denL_envR l h]
  | .fn f a b, h => by
    simp only [idsSV] at h
    split at h
    · rename_i e; simp [den, renSV, denL_envR a e, denL_envR b h]
    · cases h
  | .ifc t x, h => by simp only [idsSV] at h; simp [den, renSV, den_envR x h]
theorem denL_envR {ρ : Env} {s : Nat → Nat} {n : Nat} : ∀ (x : List SV), idsL n x = true → denL (envR ρ s n) x = denL ρ (renL s x)
  | [], _ => by simp [denL, renL]
  | x :: r, h => by
    simp only [idsL] at h
    split at h
    · rename_i e; simp [denL, renL, den_envR x e, denL_envR r h]
    · cases h
end

/-- A piece that says less, its ids numbered otherwise. -/
def lessHB (s : Nat → Nat) (n : Nat) : HB → HB → Prop
  | .cells T cs, .cells U ds => T = U ∧ SVeqL cs (renL s ds) ∧ idsL n ds = true
  | .row T z m xs, .row U y k ys => T = U ∧ z = y ∧ m = k ∧ SVeqL xs (renL s ys) ∧ idsL n ys = true
  | .row T z m xs, .vec U y k g => T = U ∧ z = y ∧ m = k ∧ ∀ i, i < m → (xs.drop (i * z)).take z = renL s (g i) ∧ idsL n (g i) = true
  | .vec T z m g', .vec U y k g => T = U ∧ z = y ∧ m = k ∧ ∀ i, i < m → g' i = renL s (g i) ∧ idsL n (g i) = true
  | .ro z m g', .ro y k g => z = y ∧ m = k ∧ ∀ i, i < m → g' i = renL s (g i) ∧ idsL n (g i) = true
  | .map es c, .map fs d => es = fs ∧ c = d
  | .map es c, .mp l => (es.map fun e => (e.1, e.2.1)).Perm l
  | .mp es, .mp l => es.Perm l
  | .it mid since seen last, .it mid' since' seen' last' => mid = s mid' ∧ since = since' ∧ seen = seen' ∧ last = last' ∧ ltN mid' n = true
  | .loop F nt fn ps a b db st pd, .loop F' nt' fn' ps' a' b' db' st' pd' => nt = nt' ∧ fn = fn' ∧ ps = ps' ∧ a = a' ∧ b = b' ∧ db = s db' ∧ ltN db' n = true ∧ st = st' ∧ pd = pd' ∧
      ∀ t v, findV F' t = some v → findV F t = some (renSV s v) ∧ idsSV n v = true
  | .dfr, .dfr => True
  | .fam z C, .fam y C' => z = y ∧ ∀ v m g, C' v m g → C v m g
  | _, .dead => True
  | _, _ => False

theorem lessHB_ok {ρ : Env} {s : Nat → Nat} {n : Nat} {w : World} {h h' : HB} {nm : Nm} (hl : lessHB s n h h') (k : HBok ρ w h nm) : HBok (envR ρ s n) w h' nm := by
  cases h' with
  | dead => trivial
  | cells U ds =>
    cases h <;> simp only [lessHB] at hl
    obtain ⟨rfl, h2, h3⟩ := hl
    cases nm <;> simp only [HBok] at k ⊢
    obtain ⟨vs, d1, d2⟩ := k
    exact ⟨vs, by rw [denL_envR _ h3, ← SVeqL_eq _ _ h2]; exact d1, d2⟩
  | ro y k' g =>
    cases h <;> simp only [lessHB] at hl
    obtain ⟨rfl, rfl, h2⟩ := hl
    cases nm <;> simp only [HBok] at k ⊢
    obtain ⟨e1, e2, e0, e3⟩ := k
    refine ⟨e1, e2, e0, fun hn => ?_⟩
    obtain ⟨ad, a1, a2, a3⟩ := e3 hn
    refine ⟨ad, a1, a2, fun i hi => ?_⟩
    obtain ⟨vs, d1, d2⟩ := a3 i hi
    obtain ⟨h3, h4⟩ := h2 i hi
    exact ⟨vs, by rw [denL_envR _ h4, ← h3]; exact d1, d2⟩
  | fam y C' =>
    cases h <;> simp only [lessHB] at hl
    obtain ⟨rfl, h2⟩ := hl
    cases nm <;> simp only [HBok] at k ⊢
    exact ⟨k.1, fun v m g hc => k.2 v m g (h2 v m g hc)⟩
  | row U y k' ys =>
    cases h <;> simp only [lessHB] at hl
    obtain ⟨rfl, rfl, rfl, h2, h3⟩ := hl
    cases nm <;> simp only [HBok] at k ⊢
    obtain ⟨e1, e2, e3, vs, rest, d1, d2⟩ := k
    exact ⟨e1, e2, e3, vs, rest, by rw [denL_envR _ h3, ← SVeqL_eq _ _ h2]; exact d1, d2⟩
  | vec U y k' g =>
    cases h with
    | row T z m xs =>
      obtain ⟨rfl, rfl, rfl, h2⟩ := hl
      cases nm <;> simp only [HBok] at k ⊢
      rename_i nb n' c' s'
      obtain ⟨e1, e2, e3, vs, rest, d1, d2, d3, d4, d5⟩ := k
      refine ⟨e1, e2, e3, vs ++ rest, d5, ?_, fun i hi => ?_⟩
      · rw [List.length_append, d3, d4, ← Nat.add_mul]
        congr 1; omega
      · obtain ⟨h3, h4⟩ := h2 i hi
        have hd := denL_getL d1 (i * z) z
        rw [h3] at hd
        have hle : i * z + z ≤ m * z := by
          have : (i + 1) * z ≤ m * z := Nat.mul_le_mul_right _ hi
          rw [Nat.add_mul] at this; omega
        refine ⟨_, by rw [denL_envR _ h4]; exact hd, ?_, by simp; omega, fun j v hv => ?_⟩
        · rw [List.all_eq_true] at d2 ⊢
          intro x hx'
          exact d2 x (List.mem_of_mem_drop (List.mem_of_mem_take hx'))
        · rw [List.getElem?_take] at hv
          split at hv
          · rw [List.getElem?_drop] at hv
            rw [List.getElem?_append_left (by have := lt_of_get hv; omega)]
            exact hv
          · cases hv
    | vec T z m g' =>
      obtain ⟨rfl, rfl, rfl, h2⟩ := hl
      cases nm <;> simp only [HBok] at k ⊢
      · exact k
      obtain ⟨e1, e2, e3, cells, d1, d2, d3⟩ := k
      refine ⟨e1, e2, e3, cells, d1, d2, fun i hi => ?_⟩
      obtain ⟨h3, h4⟩ := h2 i hi
      obtain ⟨vs, c1, c2⟩ := d3 i hi
      exact ⟨vs, by rw [denL_envR _ h4, ← h3]; exact c1, c2⟩
    | _ => exact hl.elim
  | map fs d =>
    cases h <;> simp only [lessHB] at hl
    obtain ⟨rfl, rfl⟩ := hl
    cases nm <;> exact k
  | mp l =>
    cases h with
    | map es c => cases nm <;> simp only [HBok] at k ⊢; exact ⟨es, c, k, hl⟩
    | mp es =>
      cases nm <;> simp only [HBok] at k ⊢
      obtain ⟨ses, c, h1, h2⟩ := k
      exact ⟨ses, c, h1, h2.trans hl⟩
    | _ => exact hl.elim
  | it mid since seen last =>
    cases h <;> simp only [lessHB] at hl
    obtain ⟨rfl, rfl, rfl, rfl, h2⟩ := hl
    cases nm <;> simp only [HBok] at k ⊢
    obtain ⟨mb, h3, h4⟩ := k
    exact ⟨mb, by rw [envR_lt (ltN_iff.1 h2)]; exact h3, h4⟩
  | loop F' nt' fn' ps' a' b' db' st' pd' =>
    cases h <;> simp only [lessHB] at hl
    obtain ⟨rfl, rfl, rfl, rfl, rfl, rfl, h2, rfl, rfl, h3⟩ := hl
    cases nm <;> simp only [HBok] at k ⊢
    obtain ⟨tmps, dnm, k1, k2, k3, k4⟩ := k
    refine ⟨tmps, dnm, by rw [envR_lt (ltN_iff.1 h2)]; exact k1, k2, k3, fun t v hv => ?_⟩
    obtain ⟨h4, h5⟩ := h3 t v hv
    obtain ⟨u, u1, u2⟩ := k4 t _ h4
    exact ⟨u, u1, by rw [den_envR _ h5]; exact u2⟩
  | dfr =>
    cases h <;> simp only [lessHB] at hl
    cases nm <;> exact k

theorem lessHB_live {s : Nat → Nat} {n : Nat} {h h' : HB} (hl : lessHB s n h h') (hv : h'.live = true) : h.live = true := by
  cases h' <;> cases h <;> first | rfl | exact False.elim hl | cases hv
theorem lessHB_ro {s : Nat → Nat} {n : Nat} {h : HB} {z m : Nat} {g : Nat → List SV} (hl : lessHB s n h (.ro z m g)) : ∃ g', h = .ro z m g' := by
  cases h <;> simp only [lessHB] at hl
  obtain ⟨rfl, rfl, _⟩ := hl
  exact ⟨_, rfl⟩

def weakRF (s : Nat → Nat) (n : Nat) (F : List (Nat × FE)) : List (Nat × FE) → Prop
  | [] => True
  | (t, ⟨[], v⟩) :: r => (match findF F t with
    | some ⟨[], u⟩ => SVeq u (renSV s v) ∧ idsSV n v = true
    | _ => False) ∧ weakRF s n F r
  | _ :: _ => False
def weakRH (s : Nat → Nat) (n : Nat) (H : List (Nat × HB)) : List (Nat × HB) → Prop
  | [] => True
  | (t, hb) :: r => (match findH H (s t) with
    | some hc => lessHB s n hc hb ∧ ltN t n = true
    | _ => False) ∧ weakRH s n H r
def weakRD (s : Nat → Nat) (n : Nat) : List SDef → List SDef → Prop
  | [], [] => True
  | (f, l) :: r, (f', l') :: r' => f = f' ∧ SVeqL l (renL s l') ∧ idsL n l' = true ∧ weakRD s n r r'
  | _, _ => False
/-- The ids that are kept apart. -/
def apartI (s : Nat → Nat) (t : Nat) : List (Nat × HB) → Bool
  | [] => true
  | (j, _) :: r => match Nat.beq t j with
    | true => apartI s t r
    | false => (match Nat.beq (s t) (s j) with
      | true => false
      | false => apartI s t r)
def injI (s : Nat → Nat) : List (Nat × HB) → Bool
  | [] => true
  | (t, _) :: r => match apartI s t r with
    | true => injI s r
    | false => false
def fixI (s : Nat → Nat) : Nat → Bool
  | 0 => true
  | n + 1 => match Nat.beq (s n) n with
    | true => fixI s n
    | false => false

theorem weakRF_ok {s : Nat → Nat} {n : Nat} {F : List (Nat × FE)} : ∀ {F' : List (Nat × FE)}, weakRF s n F F' → ∀ t e, findF F' t = some e → e.gp = [] ∧ idsSV n e.v = true ∧ findF F t = some ⟨[], renSV s e.v⟩
  | [], _, t, e, h => by cases h
  | (u, ⟨[], v⟩) :: r, hw, t, e, h => by
    simp only [weakRF] at hw
    by_cases hst : u = t
    · subst hst
      rw [findF_cons_self] at h; cases h
      have h1 := hw.1
      split at h1
      · rename_i u e1
        refine ⟨rfl, h1.2, ?_⟩
        rw [e1, SVeq_eq _ _ h1.1]
      · exact h1.elim
    · rw [findF_cons_ne _ _ hst] at h
      exact weakRF_ok hw.2 t e h
  | (_, ⟨x :: y, v⟩) :: r, hw, t, e, h => by simp only [weakRF] at hw
theorem weakRH_ok {s : Nat → Nat} {n : Nat} {H : List (Nat × HB)} : ∀ {H' : List (Nat × HB)}, weakRH s n H H' → ∀ id hb, findH H' id = some hb → id < n ∧ ∃ hc, findH H (s id) = some hc ∧ lessHB s n hc hb
  | [], _, t, e, h => by cases h
  | (u, x) :: r, hw, t, e, h => by
    simp only [weakRH] at hw
    by_cases hst : u = t
    · subst hst
      rw [findH_cons, updL_self] at h; cases h
      have h1 := hw.1
      split at h1
      · rename_i hc e1
        exact ⟨ltN_iff.1 h1.2, hc, e1, h1.1⟩
      · exact h1.elim
    · rw [findH_cons, updL_ne _ _ hst] at h
      exact weakRH_ok hw.2 t e h
theorem weakRD_ok {ρ : Env} {s : Nat → Nat} {n : Nat} : ∀ {D D' : List SDef} {ds : List Deferred}, weakRD s n D D' → DefOk ρ ds D → DefOk (envR ρ s n) ds D'
  | [], [], ds, _, h => by cases ds with | nil => trivial | cons _ _ => exact h.elim
  | (f, l) :: r, (f', l') :: r', ds, hw, h => by
    obtain ⟨rfl, h1, h2, h3⟩ := hw
    cases ds with
    | nil => exact h.elim
    | cons d ds =>
      obtain ⟨⟨vals, e1, e2⟩, h5⟩ := h
      exact ⟨⟨vals, by rw [denL_envR _ h2, ← SVeqL_eq _ _ h1]; exact e1, e2⟩, weakRD_ok h3 h5⟩
  | [], _ :: _, _, hw, _ => hw.elim
  | _ :: _, [], _, hw, _ => hw.elim
theorem apartI_ok {s : Nat → Nat} {t : Nat} : ∀ {H : List (Nat × HB)}, apartI s t H = true → ∀ j hb, findH H j = some hb → s t = s j → t = j
  | [], _, j, hb, h, _ => by cases h
  | (k, x) :: r, ha, j, hb, h, e => by
    simp only [apartI] at ha
    by_cases hk : k = j
    · subst hk
      split at ha
      · rename_i h1; simpa using h1
      · split at ha
        · cases ha
        · rename_i h2; simp [e] at h2
    · rw [findH_cons, updL_ne _ _ hk] at h
      split at ha
      · exact apartI_ok ha j hb h e
      · split at ha
        · cases ha
        · exact apartI_ok ha j hb h e
theorem injI_ok {s : Nat → Nat} : ∀ {H : List (Nat × HB)}, injI s H = true → ∀ i j hb hb', findH H i = some hb → findH H j = some hb' → s i = s j → i = j
  | [], _, i, j, hb, hb', h, _, _ => by cases h
  | (k, x) :: r, hi, i, j, hb, hb', h1, h2, e => by
    simp only [injI] at hi
    split at hi
    · rename_i ha
      by_cases hk : k = i <;> by_cases hk2 : k = j
      · exact hk.symm.trans hk2
      · subst hk
        rw [findH_cons, updL_ne _ _ hk2] at h2
        exact apartI_ok ha j _ h2 e
      · subst hk2
        rw [findH_cons, updL_ne _ _ hk] at h1
        exact (apartI_ok ha i _ h1 e.symm).symm
      · rw [findH_cons, updL_ne _ _ hk] at h1
        rw [findH_cons, updL_ne _ _ hk2] at h2
        exact injI_ok hi i j _ _ h1 h2 e
    · cases hi
theorem fixI_ok {s : Nat → Nat} : ∀ {n : Nat}, fixI s n = true → ∀ j, j < n → s j = j
  | 0, _, j, h => by omega
  | n + 1, hf, j, h => by
    simp only [fixI] at hf
    split at hf
    · rename_i h1
      by_cases e : j = n
      · subst e; simpa using h1
      · exact fixI_ok hf j (by omega)
    · cases hf

/-- The state says no more than another one, whose ids are numbered otherwise; n0: ids that keep their numbers. -/
structure WeakR (n0 : Nat) (s : Nat → Nat) (st st' : St) : Prop where
  F : weakRF s st'.nx st.F st'.F
  H : weakRH s st'.nx st.H st'.H
  inj : injI s st'.H = true
  fix : fixI s n0 = true
  ge : Nat.ble n0 st'.nx = true
  gs : st'.gs = []
  D : weakRD s st'.nx st.D st'.D

theorem lessHB_fam {s : Nat → Nat} {n : Nat} {h : HB} {z : Nat} {C : Value → Nat → (Nat → List SV) → Prop} (hl : lessHB s n h (.fam z C)) : ∃ C', h = .fam z C' ∧ ∀ v m g, C v m g → C' v m g := by
  cases h <;> simp only [lessHB] at hl
  obtain ⟨rfl, h⟩ := hl
  exact ⟨_, rfl, h⟩
theorem weakRH_fz {s : Nat → Nat} {n : Nat} {H H' : List (Nat × HB)} (h : weakRH s n H H') {b : Nat} (hz : Fz (findH H') b) : Fz (findH H) b :=
  hz.mono fun id size C hf => by
    obtain ⟨a1, c1, a2, a3⟩ := weakRH_ok h id _ hf
    obtain ⟨C', rfl, hc⟩ := lessHB_fam a3
    exact ⟨_, C', a2, hc⟩

theorem Mod.ren {X : Cx} {ρ : Env} {n0 : Nat} {s : Nat → Nat} {st st' : St} {a : Act} {w : World} (hm : Mod X ρ st a w) (h : WeakR n0 s st st') (hn : ∀ j, n0 ≤ j → X.G.ρ j = none) : Mod X (envR ρ s st'.nx) st' a w where
  fm t e hf := by
    obtain ⟨h1, h2, h3⟩ := weakRF_ok h.F t e hf
    rw [den_envR _ h2, h1]
    exact hm.fm t _ h3
  gs t e hf x hx := by
    obtain ⟨h1, _⟩ := weakRF_ok h.F t e hf
    rw [h1] at hx; cases hx
  df := weakRD_ok h.D hm.df
  hm := {
    ok := fun id hb hf => by
      obtain ⟨h1, hc, h2, h3⟩ := weakRH_ok h.H id hb hf
      obtain ⟨nm, h4, h5⟩ := hm.hm.ok _ _ h2
      exact ⟨nm, by rw [envR_lt h1]; exact h4, lessHB_ok h3 h5⟩
    sep := fun i j x y n₁ n₂ b h1 h2 l1 l2 r1 r2 o1 o2 => by
      obtain ⟨a1, c1, a2, a3⟩ := weakRH_ok h.H i x h1
      obtain ⟨b1, c2, b2, b3⟩ := weakRH_ok h.H j y h2
      have := hm.hm.sep _ _ c1 c2 n₁ n₂ b a2 b2 (lessHB_live a3 l1) (lessHB_live b3 l2) (envR_some r1).2 (envR_some r2).2 o1 o2
      exact injI_ok h.inj i j x y h1 h2 this
    ro := fun j size m get nm b hf hm' hr hb ho => by
      obtain ⟨a1, c1, a2, a3⟩ := weakRH_ok h.H j _ hf
      obtain ⟨g', rfl⟩ := lessHB_ro a3
      refine hm.hm.ro _ size m g' nm b a2 hm' (envR_some hr).2 hb ?_
      obtain ⟨id, x, nm', h1, h2, h3, h4⟩ := ho
      obtain ⟨b1, c2, b2, b3⟩ := weakRH_ok h.H id x h1
      exact ⟨_, c2, nm', b2, lessHB_live b3 h2, (envR_some h3).2, h4⟩
    fam := fun b hz ho => by
      refine hm.hm.fam b (weakRH_fz h.H hz) ?_
      obtain ⟨id, x, nm', h1, h2, h3, h4⟩ := ho
      obtain ⟨b1, c2, b2, b3⟩ := weakRH_ok h.H id x h1
      exact ⟨_, c2, nm', b2, lessHB_live b3 h2, (envR_some h3).2, h4⟩ }
  kp := {
    str := hm.kp.str
    size := hm.kp.size
    same := hm.kp.same
    own := fun b ho => by
      obtain ⟨id, x, nm', h1, h2, h3, h4⟩ := ho
      obtain ⟨b1, c2, b2, b3⟩ := weakRH_ok h.H id x h1
      exact hm.kp.own b ⟨_, c2, nm', b2, lessHB_live b3 h2, (envR_some h3).2, h4⟩
    ext := fun j nm hj => by
      have hlt : j < n0 := by
        rcases Nat.lt_or_ge j n0 with h | h
        · exact h
        · rw [hn j h] at hj; cases hj
      have := Nat.le_of_ble_eq_true h.ge
      rw [envR_lt (by omega), fixI_ok h.fix j hlt]; exact hm.kp.ext j nm hj
    fz := fun b hz => hm.kp.fz b (weakRH_fz h.H hz) }
  nx := fun j hj => by unfold envR; rw [if_neg (by omega)]
  sz := hm.sz

/-- What a round has to come to. -/
def RoundR {α : Type} (n0 : Nat) (I : α → St) (μ : α → Nat) (x : α) (K : Ex → St → Prop) : Ex → St → Prop
  | .normal, st => ∃ x' s, WeakR n0 s st (I x') ∧ μ x' < μ x
  | e, st => K e st

theorem loop_okR {X : Cx} (hX : X.Ok) {body : Code} {st : St} {K : Ex → St → Prop} {α : Type} (n0 : Nat) (I : α → St) (μ : α → Nat) (hn : ∀ j, n0 ≤ j → X.G.ρ j = none) (x0 : α) (s0 : Nat → Nat)
    (h0 : WeakR n0 s0 st (I x0)) (hr : ∀ x, exec X body (I x) (RoundR n0 I μ x K)) : SemC X (.loop body) st K := by
  intro ρ a w hm
  refine wpIn_loop_rel (fun j a w => ∃ x ρ, μ x = j ∧ Mod X ρ (I x) a w) ⟨x0, _, rfl, hm.ren h0 hn⟩ ?_
  rintro j a' w' ⟨x, ρ', rfl, hm'⟩
  refine wpIn_mono (exec_ok hX body _ _ (hr x) ρ' a' w' hm') ?_
  rintro e a₂ w₂ ⟨y, st₂, ρ₂, rfl, hm₂, hk⟩
  cases y with
  | normal =>
    obtain ⟨x', s, h1, h2⟩ := hk
    exact ⟨_, h2, x', _, rfl, hm₂.ren h1 hn⟩
  | ret => exact ⟨.ret, st₂, ρ₂, rfl, hm₂, hk⟩
  | exit n => exact ⟨.exit n, st₂, ρ₂, rfl, hm₂, hk⟩
  | panic ch => exact ⟨.panic ch, st₂, ρ₂, rfl, hm₂, hk⟩

end Go.X
end

section
set_option linter.unusedVariables false
set_option linter.unusedSimpArgs false
set_option linter.unusedSectionVars false
/- Maps: keys; what the operations of a map do. -/
set_option maxRecDepth 10000
namespace Go.X
open Go
variable {P : Program} {T : Tab}
def chkFld (T : Tab) (g : TypeId → SV → Bool) : List Field → List SV → Bool
  | [], _ => true
  | f :: fs, xs => match T f.type with
    | some tf => (match loadC (aggD tf.desc) tf.size f.offset xs with
      | some a => (match g f.type a with
        | true => chkFld T g fs xs
        | false => false)
      | none => false)
    | none => false
/-- A key that is compared part by part. -/
def chkC (T : Tab) : Nat → TypeId → SV → Bool
  | 0, _, _ => false
  | d + 1, t, x => match T t with
    | some ti => (match ti.desc, x with
      | .int _, .si _ _ => true
      | .bool, .sb _ => true
      | .struct fs, .agg xs => chkFld T (chkC T d) fs.toList xs
      | _, _ => false)
    | none => false
theorem forIn_ok {w : World} {α : Type} (f : α → Sem PUnit) : ∀ (l : List α), (∀ x ∈ l, (f x).run P w = .ok ⟨⟩ w) → (forIn l PUnit.unit fun x _ => (do f x; pure (ForInStep.yield PUnit.unit) : Sem (ForInStep PUnit))).run P w = .ok ⟨⟩ w
  | [], _ => by simp
  | x :: r, h => by
    have ih := forIn_ok f r fun y hy => h y (List.mem_cons_of_mem _ hy)
    have hx := h x List.mem_cons_self
    simp only [List.forIn_cons, bind_assoc, Sem.run_bind, hx, Result.andThen, pure_bind] at ih ⊢
    exact ih

theorem chkF_ok (hT : TabOk P T) (b : Bool) (d e : Nat) (ih : ∀ (t : Nat) (x : SV) (u : Value), chkC T d t x = true → (∃ ρ, den ρ x = some u) → ∀ w : World, (Instr.checkKey b e t u).run P w = .ok () w) {ρ : Env} {xs : List SV} {vs : List Value}
    (h1 : denL ρ xs = some vs) (h2 : vs.all (·.oneCell') = true) (w : World) : ∀ (fs : List Field), chkFld T (chkC T d) fs xs = true → ∀ f ∈ fs, (do Instr.checkKey b e f.type (← part f.type vs.toArray f.offset) : Sem Unit).run P w = .ok () w
  | [], _, f, hf => by cases hf
  | g :: fs, h, f, hf => by
    simp only [chkFld] at h
    split at h
    · rename_i tf e1
      split at h
      · rename_i a e2
        split at h
        · rename_i e3
          rcases List.mem_cons.1 hf with rfl | hf
          · obtain ⟨u, k1, k2⟩ := runPart hT e1 e2 h1 h2 w
            simp only [Sem.run_bind, k1, Result.andThen]
            exact ih _ _ _ e3 ⟨ρ, k2⟩ w
          · exact chkF_ok hT b d e ih h1 h2 w fs h f hf
        · cases h
      · cases h
    · cases h
theorem chkC_ok (hT : TabOk P T) (b : Bool) : ∀ (d e : Nat), d ≤ e → ∀ (t : Nat) (x : SV) (u : Value), chkC T d t x = true → (∃ ρ, den ρ x = some u) → ∀ w : World, (Instr.checkKey b e t u).run P w = .ok () w
  | 0, _, _, t, x, u, h, _, w => by simp [chkC] at h
  | d + 1, 0, he, _, _, _, _, _, _ => by omega
  | d + 1, e + 1, he, t, x, u, h, hu, w => by
    obtain ⟨ρ, hu⟩ := hu
    simp only [chkC] at h
    split at h
    · rename_i ti e1
      split at h
      · rename_i k k' n e2
        simp only [den] at hu; cases hu
        simp [Instr.checkKey, Sem.run_bind, run_und hT e1, e2, Result.andThen]
      · rename_i p e2
        simp only [den] at hu; cases hu
        simp [Instr.checkKey, Sem.run_bind, run_und hT e1, e2, Result.andThen]
      · rename_i fs xs e2
        simp only [den] at hu
        split at hu
        · rename_i vs h1
          split at hu
          · rename_i h2
            cases hu
            have hc := chkF_ok hT b d e (fun t x u a b' w => chkC_ok hT b d e (by omega) t x u a b' w) h1 h2 w fs.toList h
            simp only [Instr.checkKey, Sem.run_bind, run_und hT e1, e2, Result.andThen]
            rw [← Array.forIn_toList]
            have := forIn_ok (P := P) (w := w) (fun f : Field => (if f.name ≠ "_" then (do Instr.checkKey b e f.type (← part f.type vs.toArray f.offset)) else pure () : Sem Unit)) fs.toList (fun f hf => by
              split
              · exact hc f hf
              · rfl)
            have key : ∀ g : Field → PUnit → Sem (ForInStep PUnit), (∀ f r, g f r = (do (if f.name ≠ "_" then (do Instr.checkKey b e f.type (← part f.type vs.toArray f.offset)) else pure ()); pure (ForInStep.yield PUnit.unit))) → (forIn fs.toList PUnit.unit g).run P w = .ok ⟨⟩ w :=
              fun g hg => by rw [show g = _ from funext fun f => funext fun r => hg f r]; exact this
            rw [key _ (fun f r => by split <;> simp)]
            rfl
          · cases hu
        · cases hu
      · cases h
    · cases h

/-! ### Typed maps -/
def cv (s : SV) : Value := (den (fun _ => none) s).getD undef
theorem cv_den {s : SV} (h : ∃ v, den (fun _ => none) s = some v) (ρ : Env) : den ρ s = some (cv s) := by
  obtain ⟨v, h⟩ := h
  rw [cv, h]
  exact den_ext (fun _ _ k => by cases k) s v h
theorem cv_emp {s : SV} (h : ∃ v, den (fun _ => none) s = some v) : den (fun _ => none) s = some (cv s) := cv_den h _

structure KeyT {κ : Type} [DecidableEq κ] (T : Tab) (kt : TypeId) (eK : κ → SV) : Prop where
  ty : ∃ ti, T kt = some ti
  chk : ∀ a, chkC T 9 kt (eK a) = true
  eq : ∀ a b, eqC T 9 kt (eK a) (eK b) = some (decide (a = b))
  cl : ∀ a, ∃ v, den (fun _ => none) (eK a) = some v
  same : ∀ a, Instr.sameBits 10000 (cv (eK a)) (cv (eK a)) = true
def Closed {ν : Type} (eV : ν → SV) : Prop := ∀ a, ∃ v, den (fun _ => none) (eV a) = some v

section
variable {κ ν : Type} [DecidableEq κ]
def encM (eK : κ → SV) (eV : ν → SV) (l : List (κ × ν)) : List (SV × SV) := l.map fun p => (eK p.1, eV p.2)
def encS (eK : κ → SV) (eV : ν → SV) (l : List ((κ × ν) × Nat)) : List (SV × SV × Nat) := l.map fun p => (eK p.1.1, eV p.1.2, p.2)
def entV (eK : κ → SV) (eV : ν → SV) (l : List ((κ × ν) × Nat)) : List MapEntry := l.map fun p => ⟨cv (eK p.1.1), cv (eV p.1.2), p.2⟩
def updA : List (κ × ν) → κ → ν → List (κ × ν)
  | [], k, v => [(k, v)]
  | p :: r, k, v => if p.1 = k then (k, v) :: r else p :: updA r k v
def lookA : List (κ × ν) → κ → Option ν
  | [], _ => none
  | p :: r, k => if p.1 = k then some p.2 else lookA r k
def delA : List (κ × ν) → κ → List (κ × ν)
  | [], _ => []
  | p :: r, k => if p.1 = k then r else p :: delA r k
def updS : List ((κ × ν) × Nat) → κ → ν → Nat → List ((κ × ν) × Nat)
  | [], k, v, b => [((k, v), b)]
  | p :: r, k, v, b => if p.1.1 = k then ((k, v), p.2) :: r else p :: updS r k v b
def delS : List ((κ × ν) × Nat) → κ → List ((κ × ν) × Nat)
  | [], _ => []
  | p :: r, k => if p.1.1 = k then r else p :: delS r k
def fIdx (key : κ) : List ((κ × ν) × Nat) → Nat → Option (Nat × ν)
  | [], _ => none
  | p :: r, i => if p.1.1 = key then some (i, p.1.2) else fIdx key r (i + 1)

theorem updA_fst (l : List ((κ × ν) × Nat)) (k : κ) (v : ν) (b : Nat) : (updS l k v b).map (·.1) = updA (l.map (·.1)) k v := by
  induction l with
  | nil => rfl
  | cons p r ih => simp only [updS, updA, List.map_cons]; split <;> simp [ih]
theorem delA_fst (l : List ((κ × ν) × Nat)) (k : κ) : (delS l k).map (·.1) = delA (l.map (·.1)) k := by
  induction l with
  | nil => rfl
  | cons p r ih => simp only [delS, delA, List.map_cons]; split <;> simp [ih]
theorem lookA_idx (l : List ((κ × ν) × Nat)) (k : κ) (i : Nat) : (fIdx k l i).map (·.2) = lookA (l.map (·.1)) k := by
  induction l generalizing i with
  | nil => rfl
  | cons p r ih => simp only [fIdx, lookA, List.map_cons]; split <;> simp [ih]

theorem lookA_none {l : List (κ × ν)} {k : κ} : lookA l k = none ↔ k ∉ l.map (·.1) := by
  induction l with
  | nil => simp [lookA]
  | cons p r ih =>
    simp only [lookA, List.map_cons, List.mem_cons, not_or]
    split
    · rename_i h; simp [h]
    · rename_i h; rw [ih]; constructor
      · intro h2; exact ⟨fun e => h e.symm, h2⟩
      · exact fun h2 => h2.2
theorem lookA_mem {l : List (κ × ν)} {k : κ} {v : ν} (h : lookA l k = some v) : (k, v) ∈ l := by
  induction l with
  | nil => simp [lookA] at h
  | cons p r ih =>
    simp only [lookA] at h
    split at h
    · rename_i e; cases h; subst e; simp
    · exact List.mem_cons_of_mem _ (ih h)
theorem lookA_of_mem {l : List (κ × ν)} {k : κ} {v : ν} (hn : (l.map (·.1)).Nodup) (h : (k, v) ∈ l) : lookA l k = some v := by
  induction l with
  | nil => cases h
  | cons p r ih =>
    simp only [List.map_cons, List.nodup_cons] at hn
    simp only [lookA]
    rcases List.mem_cons.1 h with rfl | h
    · simp
    · rw [if_neg, ih hn.2 h]
      rintro rfl
      exact hn.1 (List.mem_map.2 ⟨_, h, rfl⟩)
theorem lookA_perm {l l' : List (κ × ν)} (hp : l.Perm l') (hn : (l.map (·.1)).Nodup) (k : κ) : lookA l k = lookA l' k := by
  cases h : lookA l k with
  | none =>
    rw [lookA_none] at h
    exact (lookA_none.2 fun hm => h (((hp.map (·.1)).mem_iff).2 hm)).symm
  | some v => exact (lookA_of_mem ((hp.map (·.1)).nodup_iff.1 hn) (hp.mem_iff.1 (lookA_mem h))).symm
theorem updA_new {l : List (κ × ν)} {k : κ} {v : ν} (h : k ∉ l.map (·.1)) : updA l k v = l ++ [(k, v)] := by
  induction l with
  | nil => rfl
  | cons p r ih =>
    simp only [List.map_cons, List.mem_cons, not_or] at h
    simp only [updA]
    rw [if_neg (fun e => h.1 e.symm), ih h.2]
    rfl
theorem updA_old {l : List (κ × ν)} {k : κ} {v v0 : ν} (hn : (l.map (·.1)).Nodup) (h : (k, v0) ∈ l) : ∃ a b, l = a ++ (k, v0) :: b ∧ updA l k v = a ++ (k, v) :: b := by
  induction l with
  | nil => cases h
  | cons p r ih =>
    simp only [List.map_cons, List.nodup_cons] at hn
    simp only [updA]
    rcases List.mem_cons.1 h with rfl | h
    · exact ⟨[], r, rfl, by simp⟩
    · obtain ⟨a, b, h1, h2⟩ := ih hn.2 h
      have hne : p.1 ≠ k := by
        intro e; subst e
        exact hn.1 (List.mem_map.2 ⟨_, h, rfl⟩)
      exact ⟨p :: a, b, by rw [h1]; rfl, by rw [if_neg hne, h2]; rfl⟩
theorem updA_perm {l l' : List (κ × ν)} (hp : l.Perm l') (hn : (l.map (·.1)).Nodup) (k : κ) (v : ν) : (updA l k v).Perm (updA l' k v) := by
  have hn' := (hp.map (·.1)).nodup_iff.1 hn
  by_cases h : k ∈ l.map (·.1)
  · obtain ⟨⟨k', v0⟩, h1, rfl⟩ := List.mem_map.1 h
    obtain ⟨a, b, e1, e2⟩ := updA_old (v := v) hn h1
    obtain ⟨a', b', e1', e2'⟩ := updA_old (v := v) hn' (hp.mem_iff.1 h1)
    rw [e2, e2']
    rw [e1, e1'] at hp
    have hp2 : (a ++ b).Perm (a' ++ b') := by
      have h3 := (List.perm_middle.symm.trans hp).trans List.perm_middle
      exact List.Perm.cons_inv h3
    exact (List.perm_middle.trans (hp2.cons _)).trans List.perm_middle.symm
  · rw [updA_new h, updA_new (fun hm => h (((hp.map (·.1)).mem_iff).2 hm))]
    exact hp.append_right _
theorem delA_not {l : List (κ × ν)} {k : κ} (h : k ∉ l.map (·.1)) : delA l k = l := by
  induction l with
  | nil => rfl
  | cons p r ih =>
    simp only [List.map_cons, List.mem_cons, not_or] at h
    simp only [delA]
    rw [if_neg (fun e => h.1 e.symm), ih h.2]
theorem delA_old {l : List (κ × ν)} {k : κ} {v0 : ν} (hn : (l.map (·.1)).Nodup) (h : (k, v0) ∈ l) : ∃ a b, l = a ++ (k, v0) :: b ∧ delA l k = a ++ b := by
  induction l with
  | nil => cases h
  | cons p r ih =>
    simp only [List.map_cons, List.nodup_cons] at hn
    simp only [delA]
    rcases List.mem_cons.1 h with rfl | h
    · exact ⟨[], r, rfl, by simp⟩
    · obtain ⟨a, b, h1, h2⟩ := ih hn.2 h
      have hne : p.1 ≠ k := by
        intro e; subst e
        exact hn.1 (List.mem_map.2 ⟨_, h, rfl⟩)
      exact ⟨p :: a, b, by rw [h1]; rfl, by rw [if_neg hne, h2]; rfl⟩
theorem delA_perm {l l' : List (κ × ν)} (hp : l.Perm l') (hn : (l.map (·.1)).Nodup) (k : κ) : (delA l k).Perm (delA l' k) := by
  have hn' := (hp.map (·.1)).nodup_iff.1 hn
  by_cases h : k ∈ l.map (·.1)
  · obtain ⟨⟨k', v0⟩, h1, rfl⟩ := List.mem_map.1 h
    obtain ⟨a, b, e1, e2⟩ := delA_old hn h1
    obtain ⟨a', b', e1', e2'⟩ := delA_old hn' (hp.mem_iff.1 h1)
    rw [e2, e2']
    rw [e1, e1'] at hp
    exact List.Perm.cons_inv ((List.perm_middle.symm.trans hp).trans List.perm_middle)
  · rw [delA_not h, delA_not (fun hm => h (((hp.map (·.1)).mem_iff).2 hm))]
    exact hp

/-- A permutation of a list that was turned element by element. -/
theorem perm_map_inv {α β : Type} {f : α → β} {m : List β} {l : List α} (h : m.Perm (l.map f)) : ∃ l' : List α, l'.Perm l ∧ m = l'.map f := by
  generalize e : l.map f = k at h
  induction h generalizing l with
  | nil => simp at e; subst e; exact ⟨[], .refl _, rfl⟩
  | cons x _ ih =>
    cases l with
    | nil => simp at e
    | cons a r =>
      simp only [List.map_cons, List.cons.injEq] at e
      obtain ⟨l', h1, h2⟩ := ih e.2
      exact ⟨a :: l', h1.cons _, by simp [e.1, h2]⟩
  | swap x y r =>
    match l, e with
    | a :: b :: l, e =>
      simp only [List.map_cons, List.cons.injEq] at e
      exact ⟨b :: a :: l, List.Perm.swap _ _ _, by simp [e.1, e.2.1, e.2.2]⟩
  | trans _ _ ih1 ih2 =>
    obtain ⟨l1, h1, h2⟩ := ih2 e
    obtain ⟨l2, h3, h4⟩ := ih1 h2.symm
    exact ⟨l2, h3.trans h1, h4⟩
end
end Go.X
end

section
set_option linter.unusedVariables false
set_option linter.unusedSimpArgs false
set_option linter.unusedSectionVars false
/- Maps: what the model's operations come to, on entries. -/
set_option linter.unusedVariables false
set_option linter.unusedSimpArgs false
set_option maxRecDepth 10000
namespace Go.X
open Go
section
variable {P : Program} {T : Tab} {κ ν : Type} [DecidableEq κ] {eK : κ → SV} {eV : ν → SV}

theorem eq_run (hT : TabOk P T) {kt : TypeId} (K : KeyT T kt eK) (a b : κ) (e : Nat) (he : 9 ≤ e) (w : World) : (Op.equalIn e kt (cv (eK a)) (cv (eK b))).run P w = .ok (decide (a = b)) w :=
  eqC_ok (ρ := fun _ => none) hT 9 e he kt _ _ _ _ _ (K.eq a b) (cv_emp (K.cl a)) (cv_emp (K.cl b)) w
theorem key_inj (hT : TabOk P T) {kt : TypeId} (K : KeyT T kt eK) {a b : κ} (h : cv (eK a) = cv (eK b)) : a = b := by
  have h1 := eq_run hT K a b 9 (Nat.le_refl _) default
  have h2 := eq_run hT K a a 9 (Nat.le_refl _) default
  rw [← h, h2] at h1
  simpa using h1

theorem entD_encS (hK : ∀ a, ∃ v, den (fun _ => none) (eK a) = some v) (hV : Closed eV) : ∀ l : List ((κ × ν) × Nat), entD (encS eK eV l) = some (entV eK eV l)
  | [] => rfl
  | p :: r => by
    have ih := entD_encS hK hV r
    simp only [encS, entV, List.map_cons, entD] at ih ⊢
    rw [cv_emp (hK _), cv_emp (hV _), ih]

theorem findAsking_ok (hT : TabOk P T) {kt : TypeId} (K : KeyT T kt eK) (key : κ) (w : World) : ∀ (l : List ((κ × ν) × Nat)) (i : Nat),
    (Instr.findAsking kt (cv (eK key)) (entV eK eV l) i).run P w = .ok ((fIdx key l i).map fun x => (x.1, cv (eV x.2))) w
  | [], i => rfl
  | p :: r, i => by
    have ih := findAsking_ok hT K key w r (i + 1)
    simp only [entV, List.map_cons, Instr.findAsking, fIdx] at ih ⊢
    have h := eq_run hT K key p.1.1 Op.maxDepth (by decide) w
    simp only [Sem.run_bind, Op.equal, h, Result.andThen]
    by_cases e : key = p.1.1
    · simp [e]
    · simp only [e, decide_false, Bool.false_eq_true, if_false]
      rw [if_neg (fun h => e h.symm)]
      exact ih
theorem findNow_ok (hT : TabOk P T) {kt : TypeId} {ti : TI} (ht : T kt = some ti) (K : KeyT T kt eK) (key : κ) : ∀ (l : List ((κ × ν) × Nat)) (i : Nat) (r : Option (Nat × Value)),
    Instr.findNow ti.desc (cv (eK key)) (entV eK eV l) i = some r → r = (fIdx key l i).map fun x => (x.1, cv (eV x.2))
  | [], i, r, h => by simp only [entV, List.map_nil, Instr.findNow] at h; cases h; rfl
  | p :: q, i, r, h => by
    simp only [entV, List.map_cons, Instr.findNow] at h
    have hs : ∀ b, Instr.sameNow ti.desc (cv (eK key)) (cv (eK p.1.1)) = some b → b = decide (key = p.1.1) := by
      intro b hb
      have he := K.eq key p.1.1
      simp only [eqC, ht] at he
      split at he
      · rename_i k k1 a k2 c e1 e2 e3
        split at he
        · simp only [cv, e2, e3, den, Option.getD_some, e1, Instr.sameNow] at hb
          split at hb
          · cases hb
            cases he' : decide (a = c) <;> simp_all
          · cases hb
        · cases he
      · rename_i a c e1 e2 e3
        simp only [cv, e2, e3, den, Option.getD_some, e1, Instr.sameNow] at hb
        cases hb
        simp only [Option.some.injEq] at he
        exact he
      · rename_i e1 _ _
        rw [e1] at hb
        simp [Instr.sameNow] at hb
      · cases he
    cases hc : Instr.sameNow ti.desc (cv (eK key)) (cv (eK p.1.1)) with
    | none => rw [hc] at h; cases h
    | some b =>
      rw [hc] at h
      have := hs b hc
      subst this
      by_cases e : key = p.1.1
      · simp only [e, decide_true] at h
        cases h
        simp [fIdx, e]
      · simp only [e, decide_false] at h
        simp only [fIdx]
        rw [if_neg (fun h => e h.symm)]
        exact findNow_ok hT ht K key q (i + 1) r h
theorem findKey_ok (hT : TabOk P T) {kt : TypeId} (K : KeyT T kt eK) (key : κ) (l : List ((κ × ν) × Nat)) (w : World) :
    (Instr.findKey kt (cv (eK key)) (entV eK eV l)).run P w = .ok ((fIdx key l 0).map fun x => (x.1, cv (eV x.2))) w := by
  obtain ⟨ti, ht⟩ := K.ty
  simp only [Instr.findKey, Sem.run_bind, run_und hT ht, Result.andThen]
  split
  · rename_i r hr
    rw [findNow_ok hT ht K key l 0 r hr]; rfl
  · exact findAsking_ok hT K key w l 0

theorem fIdx_some {key : κ} : ∀ {l : List ((κ × ν) × Nat)} {i j : Nat} {v : ν}, fIdx key l i = some (j, v) → i ≤ j ∧ ∃ b, l[j - i]? = some ((key, v), b) ∧
      (∀ (v' : ν) (eK : κ → SV) (eV : ν → SV), (entV eK eV l).modify (j - i) (fun e => { e with key := cv (eK key), val := cv (eV v') }) = entV eK eV (updS l key v' 0)) ∧
      ∀ (eK : κ → SV) (eV : ν → SV), (entV eK eV l).eraseIdx (j - i) = entV eK eV (delS l key)
  | [], i, j, v, h => by simp [fIdx] at h
  | p :: r, i, j, v, h => by
    simp only [fIdx] at h
    split at h
    · rename_i e
      cases h
      obtain ⟨⟨k0, v0⟩, b0⟩ := p
      simp only at e; subst e
      refine ⟨Nat.le_refl _, b0, by simp, fun v' eK eV => ?_, fun eK eV => ?_⟩
      · simp [entV, updS]
      · simp [entV, delS]
    · rename_i e
      obtain ⟨h1, b, h2, h3, h4⟩ := fIdx_some h
      obtain ⟨m, rfl⟩ : ∃ m, j = i + (m + 1) := ⟨j - i - 1, by omega⟩
      have e1 : i + (m + 1) - i = m + 1 := by omega
      have e2 : i + (m + 1) - (i + 1) = m := by omega
      rw [e2] at h2 h3 h4
      rw [e1]
      refine ⟨by omega, b, by simpa using h2, fun v' eK eV => ?_, fun eK eV => ?_⟩
      · have := h3 v' eK eV
        simp only [entV, updS, List.map_cons, List.modify_succ_cons] at this ⊢
        rw [if_neg e]
        simp [this]
      · have := h4 eK eV
        simp only [entV, delS, List.map_cons, List.eraseIdx_cons_succ] at this ⊢
        rw [if_neg e]
        simp [this]
theorem fIdx_none {key : κ} {l : List ((κ × ν) × Nat)} {i : Nat} (h : fIdx key l i = none) : key ∉ (l.map (·.1)).map (·.1) := by
  rw [← lookA_none, ← lookA_idx l key i, h]; rfl
theorem updS_new {key : κ} {l : List ((κ × ν) × Nat)} (h : key ∉ (l.map (·.1)).map (·.1)) (v : ν) (b : Nat) : updS l key v b = l ++ [((key, v), b)] := by
  induction l with
  | nil => rfl
  | cons p r ih =>
    simp only [List.map_cons, List.mem_cons, not_or] at h
    simp only [updS]
    rw [if_neg (fun e => h.1 e.symm), ih h.2]; rfl
end
end Go.X
end

section
set_option linter.unusedVariables false
set_option linter.unusedSimpArgs false
set_option linter.unusedSectionVars false
/- Maps: the runs of the model's operations. -/
set_option linter.unusedVariables false
set_option linter.unusedSimpArgs false
set_option maxRecDepth 10000
namespace Go.X
open Go
def setB (w : World) (r : Nat) (o : Obj) : World := { w with heap := w.heap.setIfInBounds r o }
def notCells : Obj → Bool
  | .cells _ _ _ => false
  | _ => true
theorem run_getO {P : Program} {w : World} {r : Nat} {o : Obj} (h : w.heap[r]? = some o) (hc : notCells o = true) : (getObj r).run P w = .ok o w := by
  cases o <;> first | (simp [notCells] at hc; done) | simp [getObj, Sem.run, h]
theorem run_setO {P : Program} {w : World} {r : Nat} {o : Obj} (o' : Obj) (h : w.heap[r]? = some o) (hc : notCells o = true) : (setObj r o').run P w = .ok () (setB w r o') := by
  cases o <;> first | (simp [notCells] at hc; done) | simp [setObj, Sem.run, h, setB]
theorem setB_size (w : World) (r : Nat) (o : Obj) : (setB w r o).heap.size = w.heap.size := by simp [setB]
theorem setB_other (w : World) (r : Nat) (o : Obj) {k : Nat} (h : k ≠ r) : (setB w r o).heap[k]? = w.heap[k]? := by
  simp only [setB, Array.getElem?_setIfInBounds]
  rw [if_neg (Ne.symm h)]
theorem setB_same {w : World} {r : Nat} {o : Obj} (o' : Obj) (h : w.heap[r]? = some o) : (setB w r o').heap[r]? = some o' := by
  have hlt : r < w.heap.size := by
    rcases Nat.lt_or_ge r w.heap.size with h1 | h1
    · exact h1
    · rw [Array.getElem?_eq_none h1] at h; cases h
  simp only [setB, Array.getElem?_setIfInBounds, if_true, hlt]

section
variable {P : Program} {T : Tab} {κ ν : Type} [DecidableEq κ] {eK : κ → SV} {eV : ν → SV}

/-- A map's block, typed. -/
structure MapT (w : World) (nm : Nat) (eK : κ → SV) (eV : ν → SV) (l : List ((κ × ν) × Nat)) (clock : Nat) : Prop where
  at_ : w.heap[nm]? = some (.map (entV eK eV l).toArray clock)
  nd : (l.map (·.2)).Nodup
  lt : ∀ p ∈ l, p.2 < clock
  keys : (l.map (·.1.1)).Nodup

theorem mapT_at (hT : TabOk P T) {kt : TypeId} (K : KeyT T kt eK) (hV : Closed eV) {w : World} {nm : Nat} {l : List ((κ × ν) × Nat)} {clock : Nat} :
    mapAt w nm (encS eK eV l) clock ↔ MapT w nm eK eV l clock := by
  have he := entD_encS K.cl hV l
  constructor
  · rintro ⟨ms, h1, h2, h3, h4, h5⟩
    rw [he] at h1; cases h1
    refine ⟨h2, by simpa [entV, Function.comp_def] using h3, fun p hp => ?_, ?_⟩
    · exact h4 _ (List.mem_map.2 ⟨p, hp, rfl⟩)
    · have : ((l.map (·.1.1)).map fun k => cv (eK k)).Nodup := by simpa [entV, Function.comp_def] using h5
      unfold List.Nodup at this ⊢
      rw [List.pairwise_map] at this
      exact this.imp fun hne h => hne (by rw [h])
  · rintro ⟨h1, h2, h3, h4⟩
    refine ⟨_, he, h1, by simpa [entV, Function.comp_def] using h2, fun m hm => ?_, ?_⟩
    · obtain ⟨p, hp, rfl⟩ := List.mem_map.1 hm
      exact h3 p hp
    · have e : (entV eK eV l).map (·.key) = (l.map (·.1.1)).map fun k => cv (eK k) := by simp [entV, Function.comp_def]
      rw [e]
      unfold List.Nodup at h4 ⊢
      rw [List.pairwise_map]
      exact h4.imp fun hne h => hne (key_inj hT K h)

theorem updS_keys {l : List ((κ × ν) × Nat)} {k : κ} {v : ν} {b : Nat} : ∀ x, x ∈ (updS l k v b).map (·.1.1) ↔ x ∈ l.map (·.1.1) ∨ x = k := by
  induction l with
  | nil => intro x; simp [updS]
  | cons p r ih =>
    intro x
    simp only [updS]
    split
    · rename_i e; subst e; simp only [List.map_cons, List.mem_cons]
      constructor
      · rintro (h | h)
        · exact .inr h
        · exact .inl (.inr h)
      · rintro ((h | h) | h)
        · exact .inl h
        · exact .inr h
        · exact .inl h
    · simp only [List.map_cons, List.mem_cons, ih x, or_assoc]
theorem updS_kn {l : List ((κ × ν) × Nat)} {k : κ} {v : ν} {b : Nat} (h : (l.map (·.1.1)).Nodup) : ((updS l k v b).map (·.1.1)).Nodup := by
  induction l with
  | nil => simp [updS]
  | cons p r ih =>
    simp only [List.map_cons, List.nodup_cons] at h
    simp only [updS]
    split
    · rename_i e; subst e; simpa using h
    · rename_i e
      simp only [List.map_cons, List.nodup_cons]
      refine ⟨fun hm => ?_, ih h.2⟩
      rcases (updS_keys _).1 hm with hm | hm
      · exact h.1 hm
      · exact e hm
theorem updS_snd_old {l : List ((κ × ν) × Nat)} {k : κ} {v : ν} {b : Nat} (h : k ∈ l.map (·.1.1)) : (updS l k v b).map (·.2) = l.map (·.2) := by
  induction l with
  | nil => simp at h
  | cons p r ih =>
    simp only [updS]
    split
    · rfl
    · rename_i e
      simp only [List.map_cons, List.mem_cons] at h
      simp [ih (h.resolve_left fun x => e x.symm)]
theorem delS_sub {l : List ((κ × ν) × Nat)} {k : κ} : (delS l k).Sublist l := by
  induction l with
  | nil => exact .slnil
  | cons p r ih =>
    simp only [delS]
    split
    · exact List.sublist_cons_self _ _
    · exact ih.cons_cons _

theorem stays_ok {kt : TypeId} (K : KeyT T kt eK) (k : κ) (w : World) : (Instr.keyThatStays (cv (eK k)) (cv (eK k))).run P w = .ok (cv (eK k)) w := by
  simp [Instr.keyThatStays, K.same k]

theorem chk_ok (hT : TabOk P T) {kt : TypeId} (K : KeyT T kt eK) (k : κ) (b : Bool) (w : World) : (Instr.checkKey b 10000 kt (cv (eK k))).run P w = .ok () w :=
  chkC_ok hT b 9 10000 (by decide) kt _ _ (K.chk k) ⟨fun _ => none, cv_emp (K.cl k)⟩ w

theorem map_map_fst (l : List ((κ × ν) × Nat)) : (l.map (·.1)).map (·.1) = l.map (·.1.1) := by simp [Function.comp_def]

theorem mapUpdate_run (hT : TabOk P T) {mt kt vt : TypeId} {ti : TI} (ht : T mt = some ti) (hd : ti.desc = .map kt vt) (K : KeyT T kt eK) {w : World} {nm : Nat} {l : List ((κ × ν) × Nat)} {clock : Nat}
    (h : MapT w nm eK eV l clock) (k : κ) (v : ν) : ∃ w' l' clock', (Instr.mapUpdate mt (.map (some nm)) (cv (eK k)) (cv (eV v))).run P w = .ok () w' ∧ MapT w' nm eK eV l' clock' ∧ l'.map (·.1) = updA (l.map (·.1)) k v ∧
      w'.heap.size = w.heap.size ∧ (∀ b, b ≠ nm → w'.heap[b]? = w.heap[b]?) ∧ Str w w' := by
  cases hf : fIdx k l 0 with
  | none =>
    have hk := fIdx_none hf
    have hk' := hk
    rw [map_map_fst] at hk'
    refine ⟨setB w nm (.map (entV eK eV (l ++ [((k, v), clock)])).toArray (clock + 1)), l ++ [((k, v), clock)], clock + 1, ?_, ⟨setB_same _ h.at_, ?_, ?_, ?_⟩, ?_, setB_size _ _ _, fun b hb => setB_other _ _ _ hb, ⟨rfl, rfl⟩⟩
    · simp only [Instr.mapUpdate, Sem.run_bind, run_und hT ht, hd, Result.andThen, run_getO h.at_ rfl, chk_ok hT K, List.toList_toArray, findKey_ok hT K, hf, Option.map_none]
      rw [run_setO _ h.at_ rfl]
      simp [entV]
    · rw [List.map_append, List.nodup_append]
      refine ⟨h.nd, by simp, ?_⟩
      intro a ha b hb
      simp at hb; subst hb
      obtain ⟨p, hp, rfl⟩ := List.mem_map.1 ha
      have := h.lt p hp
      omega
    · intro p hp
      rcases List.mem_append.1 hp with hp | hp
      · have := h.lt p hp; omega
      · simp at hp; subst hp; exact Nat.lt_succ_self _
    · rw [List.map_append, List.nodup_append]
      refine ⟨h.keys, by simp, ?_⟩
      intro a ha b hb
      simp at hb; subst hb
      rintro rfl; exact hk' ha
    · rw [← updA_fst l k v clock, updS_new hk]
  | some x =>
    obtain ⟨j, v0⟩ := x
    obtain ⟨h1, b, h2, h3, _⟩ := fIdx_some hf
    simp only [Nat.sub_zero] at h2 h3
    have hk : k ∈ l.map (·.1.1) := List.mem_map.2 ⟨_, List.mem_of_getElem? h2, rfl⟩
    refine ⟨setB w nm (.map (entV eK eV (updS l k v 0)).toArray clock), updS l k v 0, clock, ?_, ⟨setB_same _ h.at_, ?_, ?_, ?_⟩, updA_fst l k v 0, setB_size _ _ _, fun b hb => setB_other _ _ _ hb, ⟨rfl, rfl⟩⟩
    · have hge : (entV eK eV l)[j]? = some ⟨cv (eK k), cv (eV v0), b⟩ := by simp [entV, h2]
      simp only [Instr.mapUpdate, Sem.run_bind, run_und hT ht, hd, Result.andThen, run_getO h.at_ rfl, chk_ok hT K, List.toList_toArray, findKey_ok hT K, hf, Option.map_some]
      simp only [List.getElem?_toArray, hge, Option.map_some, Option.getD_some, stays_ok K, Result.andThen]
      rw [run_setO _ h.at_ rfl]
      congr 3
      have := h3 v eK eV
      rw [← this]
      simp
    · rw [updS_snd_old hk]; exact h.nd
    · intro p hp
      have : p.2 ∈ (updS l k v 0).map (·.2) := List.mem_map.2 ⟨p, hp, rfl⟩
      rw [updS_snd_old hk] at this
      obtain ⟨q, hq, e⟩ := List.mem_map.1 this
      rw [← e]; exact h.lt q hq
    · exact updS_kn h.keys

theorem delete_run (hT : TabOk P T) {mt kt vt ty : TypeId} {ti : TI} (ht : T mt = some ti) (hd : ti.desc = .map kt vt) (K : KeyT T kt eK) {w : World} {nm : Nat} {l : List ((κ × ν) × Nat)} {clock : Nat}
    (h : MapT w nm eK eV l clock) (k : κ) : ∃ w' l', (Builtin.delete_ #[mt, kt] ty #[.map (some nm), cv (eK k)]).run P w = .ok (.tuple #[]) w' ∧ MapT w' nm eK eV l' clock ∧ l'.map (·.1) = delA (l.map (·.1)) k ∧
      w'.heap.size = w.heap.size ∧ (∀ b, b ≠ nm → w'.heap[b]? = w.heap[b]?) ∧ Str w w' := by
  refine ⟨setB w nm (.map (entV eK eV (delS l k)).toArray clock), delS l k, ?_, ⟨setB_same _ h.at_, (delS_sub.map _).nodup h.nd, fun p hp => h.lt p (delS_sub.subset hp), (delS_sub.map _).nodup h.keys⟩, delA_fst l k, setB_size _ _ _, fun b hb => setB_other _ _ _ hb, ⟨rfl, rfl⟩⟩
  cases hf : fIdx k l 0 with
  | none =>
    have hk := fIdx_none hf
    have e : delS l k = l := by
      clear hf h
      induction l with
      | nil => rfl
      | cons p r ih =>
        simp only [List.map_cons, List.mem_cons, not_or] at hk
        simp only [delS]
        rw [if_neg (fun e => hk.1 e.symm), ih hk.2]
    rw [e]
    simp [Builtin.delete_, Sem.run_bind, run_und hT ht, hd, Result.andThen, run_getO h.at_ rfl, chk_ok hT K, findKey_ok hT K, hf, run_setO _ h.at_ rfl]
  | some x =>
    obtain ⟨j, v0⟩ := x
    obtain ⟨h1, b, h2, _, h3⟩ := fIdx_some hf
    simp only [Nat.sub_zero] at h2 h3
    have := h3 eK eV
    have hl : j < (entV eK eV l).length := by have := lt_of_get h2; simpa [entV] using this
    simp only [Builtin.delete_, Sem.run_bind, List.getElem?_toArray, List.getElem?_cons_zero, List.getElem?_cons_succ, run_und hT ht, hd, Result.andThen, run_getO h.at_ rfl, chk_ok hT K, List.toList_toArray, findKey_ok hT K, hf, Option.map_some]
    rw [run_setO _ h.at_ rfl]
    simp [Array.eraseIdxIfInBounds, hl, this]

theorem lookup_run (hT : TabOk P T) {mt kt vt : TypeId} {ti tv : TI} (ht : T mt = some ti) (hd : ti.desc = .map kt vt) (hv : T vt = some tv) (K : KeyT T kt eK) {w : World} {nm : Nat} {l : List ((κ × ν) × Nat)} {clock : Nat}
    (h : MapT w nm eK eV l clock) (k : κ) (ok : Bool) : (Instr.lookup mt (.map (some nm)) (cv (eK k)) ok).run P w =
      .ok (match lookA (l.map (·.1)) k with
        | some v => if ok then .tuple #[cv (eV v), .bool true] else cv (eV v)
        | none => if ok then .tuple #[tv.zero, .bool false] else tv.zero) w := by
  simp only [Instr.lookup, Sem.run_bind, run_und hT ht, hd, Result.andThen, run_getO h.at_ rfl, Sem.run_pure, chk_ok hT K, List.toList_toArray, findKey_ok hT K]
  rw [← lookA_idx l k 0]
  cases hf : fIdx k l 0 with
  | none => simp [run_zero hT hv, Result.andThen]
  | some x => simp
end
end Go.X
end

section
set_option linter.unusedVariables false
set_option linter.unusedSimpArgs false
set_option linter.unusedSectionVars false
/- Maps: ranges over them. -/
set_option linter.unusedVariables false
set_option linter.unusedSimpArgs false
set_option maxRecDepth 10000
namespace Go.X
open Go
section
variable {P : Program} {T : Tab} {κ ν : Type} {eK : κ → SV} {eV : ν → SV}

theorem left_perm {l vis rest : List ((κ × ν) × Nat)} (hp : l.Perm (vis ++ rest)) (hn : (l.map (·.2)).Nodup) : (l.filter fun p => !(vis.map (·.2)).contains p.2).Perm rest := by
  have h1 := hp.filter (fun p => !(vis.map (·.2)).contains p.2)
  rw [List.filter_append] at h1
  have h2 : vis.filter (fun p => !(vis.map (·.2)).contains p.2) = [] := by
    rw [List.filter_eq_nil_iff]
    intro p hp'
    have : p.2 ∈ vis.map (·.2) := List.mem_map.2 ⟨p, hp', rfl⟩
    simp only [List.contains_iff_mem.2 this, Bool.not_true, Bool.false_eq_true, not_false_eq_true]
  have hn' : ((vis ++ rest).map (·.2)).Nodup := ((hp.map (·.2)).nodup_iff).1 hn
  rw [List.map_append, List.nodup_append] at hn'
  have h3 : rest.filter (fun p => !(vis.map (·.2)).contains p.2) = rest := by
    rw [List.filter_eq_self]
    intro p hp'
    have h4 : p.2 ∈ rest.map (·.2) := List.mem_map.2 ⟨p, hp', rfl⟩
    have h5 : p.2 ∉ vis.map (·.2) := fun h => hn'.2.2 _ h _ h4 rfl
    simp only [Bool.not_eq_true']
    rw [Bool.eq_false_iff]
    exact fun h => h5 (List.contains_iff_mem.1 h)
  rw [h2, h3, List.nil_append] at h1
  exact h1

theorem next_run [DecidableEq κ] {w : World} {itb nm : Nat} {l vis rest : List ((κ × ν) × Nat)} {clock ty : Nat} (h : MapT w nm eK eV l clock) (hit : w.heap[itb]? = some (.mapIter (some nm) clock (vis.map (·.2)).toArray clock))
    (hp : l.Perm (vis ++ rest)) : (rest = [] ∧ (Instr.next (.pointer (some ⟨itb, 0, none⟩)) false ty).run P w = .ok (.tuple #[.bool false]) w) ∨
    ∃ p rest' w', rest.Perm (p :: rest') ∧ (Instr.next (.pointer (some ⟨itb, 0, none⟩)) false ty).run P w = .ok (.tuple #[.bool true, cv (eK p.1.1), cv (eV p.1.2)]) w' ∧
      w'.heap[itb]? = some (.mapIter (some nm) clock ((vis ++ [p]).map (·.2)).toArray clock) ∧ w'.heap.size = w.heap.size ∧ (∀ b, b ≠ itb → w'.heap[b]? = w.heap[b]?) ∧ Str w w' := by
  have hl := left_perm hp h.nd
  have hold : ∀ x ∈ (entV eK eV l).toArray.toList, x.born < clock := by
    intro x hx
    obtain ⟨p, hp', rfl⟩ := List.mem_map.1 (show x ∈ entV eK eV l by simpa using hx)
    exact h.lt p hp'
  obtain ⟨fl, hfl⟩ : ∃ fl, fl = l.filter fun p => !(vis.map (·.2)).contains p.2 := ⟨_, rfl⟩
  have hflm : ∀ p ∈ fl, p ∈ l := fun p hp => by rw [hfl] at hp; exact (List.mem_filter.1 hp).1
  simp only [Instr.next, Sem.run_bind, run_getO hit rfl, run_getO h.at_ rfl, Result.andThen, next_test_false _ _ clock clock hold (Nat.le_refl _), Bool.false_eq_true, if_false]
  have eL : (entV eK eV l).toArray.filter (fun e => !((vis.map (·.2)).toArray.contains e.born)) = (entV eK eV fl).toArray := by
    apply Array.toList_inj.1
    rw [Array.toList_filter, hfl]
    simp only [entV, List.filter_map, List.contains_toArray, Function.comp_def]
  rw [← hfl] at hl
  clear hfl
  generalize hL : (entV eK eV fl).toArray = L at eL
  have hmem : ∀ x ∈ L.toList, x.born < clock := by
    intro x hx
    rw [← hL] at hx
    obtain ⟨p, hp', rfl⟩ := List.mem_map.1 (show x ∈ entV eK eV fl by simpa using hx)
    exact h.lt p (hflm p hp')
  simp only [eL]
  have e1 : L.filter (fun x => decide (x.born < clock)) = L := Array.filter_eq_self.2 (fun x hx => by simpa using hmem x (by simpa using hx))
  have e2 : L.filter (fun x => decide (x.born ≥ clock)) = #[] := by
    rw [Array.filter_eq_empty_iff]
    intro x hx
    have := hmem x (by simpa using hx)
    simp
    omega
  simp only [e1, e2, Array.append_empty]
  have hsz : L.size = rest.length := by rw [← hL]; simp [entV, hl.length_eq]
  by_cases h0 : L.size = 0
  · left
    have : L = #[] := Array.eq_empty_of_size_eq_zero h0
    refine ⟨List.eq_nil_of_length_eq_zero (by omega), ?_⟩
    subst this
    simp [choose, Sem.run, Question.forced]
  · right
    have hne : L.isEmpty = false := by simp [Array.isEmpty, h0]
    simp only [hne, Bool.false_eq_true, if_false, Array.empty_append, Array.size_map]
    have hch : ∃ (j : Nat) (w1 : World), j < L.size ∧ w1.heap = w.heap ∧ Str w w1 ∧ (choose (Question.mapNext L.size)).run P w = .ok j w1 := by
      by_cases hf : L.size ≤ 1
      · exact ⟨0, w, by omega, rfl, Str.refl _, by simp [choose, Sem.run, Question.forced, hf]⟩
      · exact ⟨_, w.drew, Nat.mod_lt _ (by omega), rfl, ⟨rfl, rfl⟩, by
          simp only [choose, Sem.run, Question.forced, decide_eq_true_eq, hf, if_false, Question.cut]
          rfl⟩
    obtain ⟨j, w1, hj, hal, hstr, hrun⟩ := hch
    have hjl : j < fl.length := by rw [← hL] at hj; simpa [entV] using hj
    obtain ⟨p, hpj⟩ : ∃ p, fl[j]? = some p := ⟨_, List.getElem?_eq_getElem hjl⟩
    have hLj : L[j]? = some ⟨cv (eK p.1.1), cv (eV p.1.2), p.2⟩ := by rw [← hL]; simp [entV, hpj]
    have hpm : p ∈ rest := hl.mem_iff.1 (List.mem_of_getElem? hpj)
    obtain ⟨s, t, hst⟩ := List.append_of_mem hpm
    refine ⟨p, s ++ t, setB w1 itb (.mapIter (some nm) clock ((vis ++ [p]).map (·.2)).toArray clock), by rw [hst]; exact List.perm_middle, ?_, setB_same _ (by rw [hal]; exact hit), by rw [setB_size, hal], fun b hb => by rw [setB_other _ _ _ hb, hal], hstr.trans ⟨rfl, rfl⟩⟩
    simp only [hrun, Array.getElem?_map, hLj, Option.map_some, Sem.run_bind, Result.andThen]
    rw [run_setO _ (by rw [hal]; exact hit) rfl]
    simp

theorem entry_run [DecidableEq κ] {w : World} {itb nm : Nat} {l vis : List ((κ × ν) × Nat)} {p : (κ × ν) × Nat} {clock : Nat} (h : MapT w nm eK eV l clock) (hit : w.heap[itb]? = some (.mapIter (some nm) clock ((vis ++ [p]).map (·.2)).toArray clock))
    (hp : p ∈ l) : (Instr.entry (.pointer (some ⟨itb, 0, none⟩))).run P w = .ok (.tuple #[cv (eK p.1.1), cv (eV p.1.2)]) w := by
  have hb : ((vis ++ [p]).map (·.2)).toArray.back? = some p.2 := by simp
  have hf : (entV eK eV l).toArray.find? (fun e => e.born == p.2) = some ⟨cv (eK p.1.1), cv (eV p.1.2), p.2⟩ := by
    rw [List.find?_toArray]
    have := find_born ⟨cv (eK p.1.1), cv (eV p.1.2), p.2⟩ (entV eK eV l) (by simpa [entV, Function.comp_def] using h.nd) (List.mem_map.2 ⟨p, hp, rfl⟩)
    exact this
  simp only [Instr.entry, Sem.run_bind, run_getO hit rfl, run_getO h.at_ rfl, Result.andThen, hb, hf]
  simp

theorem range_run (hT : TabOk P T) {mt kt vt : TypeId} {ti : TI} (ht : T mt = some ti) (hd : ti.desc = .map kt vt) {w : World} {nm : Nat} {es : Array MapEntry} {clock : Nat} (h : w.heap[nm]? = some (.map es clock)) :
    (Instr.range mt (.map (some nm))).run P w = .ok (.pointer (some ⟨w.heap.size, 0, none⟩)) (w.alloc (.mapIter (some nm) clock #[] clock)) := by
  simp only [Instr.range, Sem.run_bind, run_und hT ht, hd, Result.andThen, run_getO h rfl]
  simp
theorem len_run (hT : TabOk P T) {mt kt vt ty : TypeId} {ti : TI} (ht : T mt = some ti) (hd : ti.desc = .map kt vt) {w : World} {nm : Nat} {es : Array MapEntry} {clock : Nat} (h : w.heap[nm]? = some (.map es clock)) :
    (Builtin.len_ #[mt] ty #[.map (some nm)]).run P w = .ok (goInt es.size) w := by
  simp [Builtin.len_, Sem.run_bind, run_und hT ht, hd, Result.andThen, run_getO h rfl]
end
end Go.X
end

section
set_option linter.unusedVariables false
set_option linter.unusedSimpArgs false
set_option linter.unusedSectionVars false
/- Maps: the executor's steps. -/
set_option linter.unusedVariables false
set_option linter.unusedSimpArgs false
set_option maxRecDepth 10000
namespace Go.X
open Go
section
variable {X : Cx} {ρ : Env} {st : St} {a : Act} {w : World}
/-- A piece is turned in its place. -/
theorem Mod.turned (hm : Mod X ρ st a w) {id : Nat} {hb hb' : HB} {nm : Nm} {b : Nat} {w' : World} (hf : findH st.H id = some hb) (hl : hb.live = true) (hn : ρ id = some nm) (ho : nm.owner = some b)
    (hs : w'.heap.size = w.heap.size) (hk : ∀ k, k ≠ b → w'.heap[k]? = w.heap[k]?) (hok : HBok ρ w' hb' nm) (hl' : hb'.live = true) (hnr : ∀ s n g, hb' ≠ .ro s n g) (hst : Str w w' := by exact ⟨rfl, rfl⟩) :
    Mod X ρ { st with H := (id, hb') :: st.H } a w' where
  fm := hm.fm
  gs := hm.gs
  df := hm.df
  hm := hm.hm.put hf hl hn ho (by omega) (fun k _ hkb => hk k hkb) hok hl' hnr
  kp := hm.kp.put hf hl hn ho (by omega) (fun k _ hkb => hk k hkb) hst (fun s C e => by subst e; cases nm <;> simp only [HBok] at hok; cases ho)
  nx := hm.nx
  sz := hm.sz
/-- A world whose heap is as it was. -/
theorem Mod.heap (hm : Mod X ρ st a w) {w' : World} (h : w'.heap = w.heap) (hst : Str w w' := by exact ⟨rfl, rfl⟩) : Mod X ρ st a w' where
  fm := hm.fm
  gs := hm.gs
  df := hm.df
  hm := hm.hm.world (by rw [h]; exact Nat.le_refl _) (fun b _ => by rw [h])
  kp := hm.kp.world (by rw [h]; exact Nat.le_refl _) (fun b _ => by rw [h]) hst
  nx := hm.nx
  sz := hm.sz
end

section
variable {P : Program} {T : Tab} {κ ν : Type} [DecidableEq κ] {eK : κ → SV} {eV : ν → SV}
theorem ses_typed : ∀ {ses : List (SV × SV × Nat)} {l : List (κ × ν)}, (ses.map fun e => (e.1, e.2.1)) = encM eK eV l → ∃ ts : List ((κ × ν) × Nat), ts.map (·.1) = l ∧ ses = encS eK eV ts
  | [], [], _ => ⟨[], rfl, rfl⟩
  | [], _ :: _, h => by simp [encM] at h
  | _ :: _, [], h => by simp [encM] at h
  | (a, b, n) :: r, (k, v) :: l, h => by
    simp only [encM, List.map_cons, List.cons.injEq, Prod.mk.injEq] at h
    obtain ⟨⟨rfl, rfl⟩, h⟩ := h
    obtain ⟨ts, h1, h2⟩ := ses_typed (ses := r) (l := l) h
    exact ⟨((k, v), n) :: ts, by simp [h1], by simp [h2, encS]⟩
theorem mp_open (hT : TabOk P T) {kt : TypeId} (K : KeyT T kt eK) (hV : Closed eV) {ρ : Env} {w : World} {nm : Nat} {l : List (κ × ν)} :
    HBok ρ w (.mp (encM eK eV l)) (.blk nm) ↔ ∃ ts clock, MapT w nm eK eV ts clock ∧ (ts.map (·.1)).Perm l := by
  constructor
  · rintro ⟨ses, clock, h1, h2⟩
    obtain ⟨l', h3, h4⟩ := perm_map_inv h2
    obtain ⟨ts, h5, rfl⟩ := ses_typed (eK := eK) (eV := eV) (l := l') h4
    exact ⟨ts, clock, (mapT_at hT K hV).1 h1, by rw [h5]; exact h3⟩
  · rintro ⟨ts, clock, h1, h2⟩
    refine ⟨encS eK eV ts, clock, (mapT_at hT K hV).2 h1, ?_⟩
    have := h2.map (fun p : κ × ν => (eK p.1, eV p.2))
    simpa [encM, encS, Function.comp_def] using this
theorem mp_keys (hT : TabOk P T) {kt : TypeId} (K : KeyT T kt eK) (hV : Closed eV) {ρ : Env} {w : World} {nm : Nat} {l : List (κ × ν)} (h : HBok ρ w (.mp (encM eK eV l)) (.blk nm)) : (l.map (·.1)).Nodup := by
  obtain ⟨ts, clock, h1, h2⟩ := (mp_open hT K hV).1 h
  have := (h2.map (·.1)).nodup_iff.1 (by rw [map_map_fst]; exact h1.keys)
  exact this
end

section
variable {X : Cx} {st : St} {κ ν : Type} [DecidableEq κ]

theorem sm_den {ρ : Env} {id : Nat} {v : Value} (h : den ρ (.sm id) = some v) : ∃ nm, ρ id = some (.blk nm) ∧ v = .map (some nm) := by
  simp only [den] at h
  split at h <;> cases h
  exact ⟨_, by assumption, rfl⟩

def stK (st : St) (f : List (Nat × FE) → List Nat → List (Nat × HB) → Nat → List SDef → Prop) : Prop := match st with
  | ⟨F, gs, H, nx, D⟩ => f F gs H nx D
theorem stK_eq (st : St) (f : List (Nat × FE) → List Nat → List (Nat × HB) → Nat → List SDef → Prop) : stK st f = f st.F st.gs st.H st.nx st.D := by cases st; rfl
def okS (ok : Bool) (v : SV) (p : Bool) : SV := match ok with
  | true => .tup [v, .sb p]
  | false => v

/-- A map is made. -/
theorem fb_makeMap {ops : List Oper} {i : Nat} {o : Oper} {r : List Oper} {Q : Exit → Act → World → Prop} {K : St → Prop} {Kp : List PanicEntry → St → Prop} {t : TypeId} {d : Nat} (hX : X.Ok) (hC : Cont X Q K Kp) (hi : ops.drop i = o :: r)
    (hc : o.op = .makeMap t none) (hg : o.guard = none) (hdst : o.dst = some d) (hp : putN st.gs X.nt (some d) = false)
    (h : stK st fun F gs H nx D => natF (nx + 1) fun nx' => execL X ops Q K Kp (i + 1) r ⟨(d, ⟨[], .sm nx⟩) :: F, gs, (nx, .mp []) :: H, nx', D⟩) : FbO X ops Q K Kp i o r st := by
  refine fb_sem hX hC hi (by rw [hc]; intro c h; cases h) hg fun ρ a w hm => ?_
  have hnew := hm.new (d := some d) (s := .sm st.nx) (v := .map (some w.heap.size)) (hb := .mp []) (nm := .blk w.heap.size) (o := .map #[] 0) hp (by simp [den, upd_self]) (by
    refine ⟨[], 0, ⟨[], rfl, ?_, by simp, by simp, by simp⟩, by simp⟩
    show (w.heap.push _)[w.heap.size]? = _
    simp) (by intro b hb; simpa [Nm.owner] using hb.symm) (by intro b hb; simp [roBlock] at hb)
  refine ⟨_, _, _, _, .inl ?_, by rw [hdst]; exact hnew, ?_⟩
  · simp only [execOp, hc]
    exact run_v (by simp [Instr.makeMap])
  · rw [stK_eq, natF_eq] at h; exact h

/-- An entry is laid, or turned. -/
theorem fb_update (eK : κ → SV) (eV : ν → SV) (l : List (κ × ν)) (k : κ) (v : ν) (l' : List (κ × ν)) (hl : l' = updA l k v) (id : Nat) {ops : List Oper} {i : Nat} {o : Oper} {r : List Oper} {Q : Exit → Act → World → Prop} {Kn : St → Prop} {Kp : List PanicEntry → St → Prop}
    {t kt vt : TypeId} {ti : TI} {m kx x : Operand} (hX : X.Ok) (hC : Cont X Q Kn Kp) (hi : ops.drop i = o :: r)
    (hc : o.op = .mapUpdate t m kx x ∨ o.op = .insert t m kx x) (hg : o.guard = none) (hp : o.dst = none) (ht : X.T t = some ti) (hd : ti.desc = .map kt vt) (K : KeyT X.T kt eK) (V : Closed eV)
    (h1 : ev (findF st.F) [] m = some (.sm id)) (h2 : ev (findF st.F) [] kx = some (eK k)) (h3 : ev (findF st.F) [] x = some (eV v)) (h4 : findH st.H id = some (.mp (encM eK eV l)))
    (h : stK st fun F gs H nx D => (l.map (·.1)).Nodup → execL X ops Q Kn Kp (i + 1) r ⟨F, gs, (id, .mp (encM eK eV l')) :: H, nx, D⟩) : FbO X ops Q Kn Kp i o r st := by
  subst hl
  refine fb_sem hX hC hi (by rcases hc with hc | hc <;> rw [hc] <;> intro c h <;> cases h) hg fun ρ a w hm => ?_
  have hs : GPsat a [] := fun x hx => by cases hx
  obtain ⟨nm, hn, hok⟩ := hm.hm.ok _ _ h4
  obtain ⟨nm', hn', e1⟩ := sm_den (ev_ok hm.fm hs h1)
  rw [hn] at hn'; cases hn'
  have e2 := ev_ok hm.fm hs h2
  rw [cv_den (K.cl k)] at e2
  have e3 := ev_ok hm.fm hs h3
  rw [cv_den (V v)] at e3
  simp only [Option.some.injEq] at e2 e3
  have hkn := mp_keys hX.tab K V hok
  obtain ⟨ts, clock, m1, m2⟩ := (mp_open hX.tab K V).1 hok
  obtain ⟨w', ts', clock', q1, q2, q3, q4, q5, q6⟩ := mapUpdate_run hX.tab ht hd K m1 k v
  have hrun : (execOp a.eval o).run X.P w = .ok .skip w' := by
    rcases hc with hc | hc
    · simp only [execOp, hc, e1, ← e2, ← e3]; exact run_u q1
    · simp only [execOp, hc, e1, ← e2, ← e3]; exact run_u q1
  refine ⟨undef, w', ρ, { st with H := (id, .mp (encM eK eV (updA l k v))) :: st.H }, .inr ⟨hrun, rfl⟩, ?_, ?_⟩
  · rw [hp]
    refine hm.turned h4 rfl hn rfl q4 q5 ((mp_open hX.tab K V).2 ⟨ts', clock', q2, ?_⟩) rfl (fun _ _ _ h => by cases h) q6
    rw [q3]
    exact updA_perm m2 (by rw [map_map_fst]; exact m1.keys) k v
  · rw [stK_eq] at h; exact h hkn

def zeroS : Value → Option SV
  | .agg cs => match ofValues cs.toList with
    | some l => some (.agg l)
    | none => none
  | x => ofValue x
theorem zeroS_den (ρ : Env) {x : Value} {s : SV} (h : zeroS x = some s) : den ρ s = some x := by
  unfold zeroS at h
  split at h
  · split at h
    · rename_i l e
      cases h
      obtain ⟨h1, h2⟩ := ofValues_den ρ e
      simp [den, h1, h2]
    · cases h
  · exact ofValue_den ρ h

/-- An entry is looked up. -/
theorem fb_lookup (eK : κ → SV) (eV : ν → SV) (l : List (κ × ν)) (k : κ) (id : Nat) {ops : List Oper} {i : Nat} {o : Oper} {r : List Oper} {Q : Exit → Act → World → Prop} {Kn : St → Prop} {Kp : List PanicEntry → St → Prop}
    {t kt vt : TypeId} {ti tv : TI} {m kx : Operand} {ok : Bool} {d : Nat} {z : SV} (hX : X.Ok) (hC : Cont X Q Kn Kp) (hi : ops.drop i = o :: r)
    (hc : o.op = .lookup t m kx ok) (hg : o.guard = none) (hp : putN st.gs X.nt o.dst = false) (hdst : o.dst = some d) (ht : X.T t = some ti) (hd : ti.desc = .map kt vt) (hv : X.T vt = some tv) (hz : zeroS tv.zero = some z) (K : KeyT X.T kt eK) (V : Closed eV)
    (h1 : ev (findF st.F) [] m = some (.sm id)) (h2 : ev (findF st.F) [] kx = some (eK k)) (h4 : findH st.H id = some (.mp (encM eK eV l)))
    (h : stK st fun F gs H nx D => (l.map (·.1)).Nodup → (∀ v, lookA l k = some v → execL X ops Q Kn Kp (i + 1) r ⟨(d, ⟨[], okS ok (eV v) true⟩) :: F, gs, H, nx, D⟩) ∧
      (lookA l k = none → execL X ops Q Kn Kp (i + 1) r ⟨(d, ⟨[], okS ok z false⟩) :: F, gs, H, nx, D⟩)) : FbO X ops Q Kn Kp i o r st := by
  refine fb_sem hX hC hi (by rw [hc]; intro c h; cases h) hg fun ρ a w hm => ?_
  have hs : GPsat a [] := fun x hx => by cases hx
  obtain ⟨nm, hn, hok⟩ := hm.hm.ok _ _ h4
  obtain ⟨nm', hn', e1⟩ := sm_den (ev_ok hm.fm hs h1)
  rw [hn] at hn'; cases hn'
  have e2 := ev_ok hm.fm hs h2
  rw [cv_den (K.cl k)] at e2
  simp only [Option.some.injEq] at e2
  have hkn := mp_keys hX.tab K V hok
  obtain ⟨ts, clock, m1, m2⟩ := (mp_open hX.tab K V).1 hok
  have q := lookup_run hX.tab ht hd hv K m1 k ok
  rw [lookA_perm m2 (by rw [map_map_fst]; exact m1.keys)] at q
  have hrun : ∀ u, (Instr.lookup t (.map (some nm')) (cv (eK k)) ok).run X.P w = .ok u w → (execOp a.eval o).run X.P w = .ok (.value u) w := by
    intro u q
    simp only [execOp, hc, e1, ← e2]; exact run_v q
  cases hl : lookA l k with
  | some v =>
    refine ⟨_, w, ρ, _, .inl (hrun _ q), hm.put (d := o.dst) (s := okS ok (eV v) true) hp ?_, ?_⟩
    · simp only [hl]
      cases ok
      · exact cv_den (V v) ρ
      · simp [okS, den, denL, cv_den (V v) ρ]
    · rw [stK_eq] at h; rw [hdst]; exact (h hkn).1 v hl
  | none =>
    refine ⟨_, w, ρ, _, .inl (hrun _ q), hm.put (d := o.dst) (s := okS ok z false) hp ?_, ?_⟩
    · simp only [hl]
      cases ok
      · exact zeroS_den ρ hz
      · simp [okS, den, denL, zeroS_den ρ hz]
    · rw [stK_eq] at h; rw [hdst]; exact (h hkn).2 hl

/-- delete. -/
theorem fb_delete (eK : κ → SV) (eV : ν → SV) (l : List (κ × ν)) (k : κ) (id : Nat) {ops : List Oper} {i : Nat} {o : Oper} {r : List Oper} {Q : Exit → Act → World → Prop} {Kn : St → Prop} {Kp : List PanicEntry → St → Prop}
    {t kt vt : TypeId} {ti : TI} {m kx : Operand} {c : Call} (hX : X.Ok) (hC : Cont X Q Kn Kp) (hi : ops.drop i = o :: r)
    (hc : o.op = .call c) (hcl : c.callee = .builtin .delete) (hca : c.args = #[m, kx]) (hct : c.argTypes = #[t, kt]) (hg : o.guard = none) (hdst : o.dst = none) (ht : X.T t = some ti) (hd : ti.desc = .map kt vt) (K : KeyT X.T kt eK) (V : Closed eV)
    (h1 : ev (findF st.F) [] m = some (.sm id)) (h2 : ev (findF st.F) [] kx = some (eK k)) (h4 : findH st.H id = some (.mp (encM eK eV l)))
    (h : stK st fun F gs H nx D => (l.map (·.1)).Nodup → execL X ops Q Kn Kp (i + 1) r ⟨F, gs, (id, .mp (encM eK eV (delA l k))) :: H, nx, D⟩) : FbO X ops Q Kn Kp i o r st := by
  refine fb_sem hX hC hi (by rw [hc]; intro c h; cases h) hg fun ρ a w hm => ?_
  have hs : GPsat a [] := fun x hx => by cases hx
  obtain ⟨nm, hn, hok⟩ := hm.hm.ok _ _ h4
  obtain ⟨nm', hn', e1⟩ := sm_den (ev_ok hm.fm hs h1)
  rw [hn] at hn'; cases hn'
  have e2 := ev_ok hm.fm hs h2
  rw [cv_den (K.cl k)] at e2
  simp only [Option.some.injEq] at e2
  have hkn := mp_keys hX.tab K V hok
  obtain ⟨ts, clock, m1, m2⟩ := (mp_open hX.tab K V).1 hok
  obtain ⟨w', ts', q1, q2, q3, q4, q5, q6⟩ := delete_run (ty := o.type) hX.tab ht hd K m1 k
  have hrun : (execOp a.eval o).run X.P w = .ok (.value (.tuple #[])) w' := by
    have hargs : c.args.map a.eval = #[.map (some nm'), cv (eK k)] := by rw [hca]; simp [e1, e2]
    simp only [execOp, hc, Sem.run_bind, resolve, hcl, hargs, hct]
    simp only [Sem.run_pure, Result.andThen, invoke, builtin]
    exact run_v q1
  refine ⟨_, w', ρ, { st with H := (id, .mp (encM eK eV (delA l k))) :: st.H }, .inl hrun, ?_, ?_⟩
  · rw [hdst]
    refine hm.turned h4 rfl hn rfl q4 q5 ((mp_open hX.tab K V).2 ⟨ts', _, q2, ?_⟩) rfl (fun _ _ _ h => by cases h) q6
    rw [q3]
    exact delA_perm m2 (by rw [map_map_fst]; exact m1.keys) k
  · rw [stK_eq] at h; exact h hkn
end
end Go.X
end

section
set_option linter.unusedVariables false
set_option linter.unusedSimpArgs false
set_option linter.unusedSectionVars false
/- Maps: the executor's steps of a range. -/
set_option linter.unusedVariables false
set_option linter.unusedSimpArgs false
set_option maxRecDepth 10000
namespace Go.X
open Go
section
variable {X : Cx} {st : St} {κ ν : Type} [DecidableEq κ]

theorem sp0_den {ρ : Env} {id : Nat} {v : Value} (h : den ρ (.sp id 0) = some v) : ∃ nm, ρ id = some (.blk nm) ∧ v = .pointer (some ⟨nm, 0, none⟩) := den_sp h

/-- A range over a map begins. -/
theorem fb_range (eK : κ → SV) (eV : ν → SV) (l : List (κ × ν)) (id : Nat) {ops : List Oper} {i : Nat} {o : Oper} {r : List Oper} {Q : Exit → Act → World → Prop} {Kn : St → Prop} {Kp : List PanicEntry → St → Prop}
    {t kt vt : TypeId} {ti : TI} {m : Operand} {d : Nat} (hX : X.Ok) (hC : Cont X Q Kn Kp) (hi : ops.drop i = o :: r)
    (hc : o.op = .range t m) (hg : o.guard = none) (hdst : o.dst = some d) (hp : putN st.gs X.nt (some d) = false) (ht : X.T t = some ti) (hd : ti.desc = .map kt vt) (K : KeyT X.T kt eK) (V : Closed eV)
    (h1 : ev (findF st.F) [] m = some (.sm id)) (h4 : findH st.H id = some (.mp (encM eK eV l)))
    (h : stK st fun F gs H nx D => natF (nx + 1) fun nx' => (l.map (·.1)).Nodup → ∀ (ts : List ((κ × ν) × Nat)) (clock : Nat), (ts.map (·.1)).Perm l →
      execL X ops Q Kn Kp (i + 1) r ⟨(d, ⟨[], .sp nx 0⟩) :: F, gs, (nx, .it id clock [] clock) :: (id, .map (encS eK eV ts) clock) :: H, nx', D⟩) : FbO X ops Q Kn Kp i o r st := by
  refine fb_sem hX hC hi (by rw [hc]; intro c h; cases h) hg fun ρ a w hm => ?_
  have hs : GPsat a [] := fun x hx => by cases hx
  obtain ⟨nm, hn, hok⟩ := hm.hm.ok _ _ h4
  obtain ⟨nm', hn', e1⟩ := sm_den (ev_ok hm.fm hs h1)
  rw [hn] at hn'; cases hn'
  have hkn := mp_keys hX.tab K V hok
  obtain ⟨ts, clock, m1, m2⟩ := (mp_open hX.tab K V).1 hok
  have hm1 := hm.turned (hb' := .map (encS eK eV ts) clock) (w' := w) h4 rfl hn rfl rfl (fun _ _ => rfl) ((mapT_at hX.tab K V).2 m1) rfl (fun _ _ _ h => by cases h)
  have hlt : nm' < w.heap.size := by
    rcases Nat.lt_or_ge nm' w.heap.size with h | h
    · exact h
    · have := m1.at_; rw [Array.getElem?_eq_none h] at this; cases this
  have hid : id ≠ st.nx := fun e => by have := hm.nx id (by omega); rw [hn] at this; cases this
  have hnew := hm1.new (d := some d) (s := .sp st.nx 0) (v := .pointer (some ⟨w.heap.size, 0, none⟩)) (hb := .it id clock [] clock) (nm := .blk w.heap.size) (o := .mapIter (some nm') clock #[] clock) hp
    (by show den (upd ρ st.nx _) (.sp st.nx 0) = _; simp [den, upd_self]) (by
      refine ⟨nm', by show upd ρ st.nx _ id = _; rw [upd_ne _ _ hid]; exact hn, ?_⟩
      show (w.heap.push _)[w.heap.size]? = _
      simp) (by intro b hb; simpa [Nm.owner] using hb.symm) (by intro b hb; simp [roBlock] at hb)
  refine ⟨_, _, _, _, .inl ?_, by rw [hdst]; exact hnew, ?_⟩
  · simp only [execOp, hc, e1]
    exact run_v (range_run hX.tab ht hd m1.at_)
  · rw [stK_eq, natF_eq] at h; exact h hkn ts clock m2

/-- The next entry, or none. -/
theorem fb_next (eK : κ → SV) (eV : ν → SV) (id iid clock : Nat) (ts vis rest : List ((κ × ν) × Nat)) {ops : List Oper} {i : Nat} {o : Oper} {r : List Oper} {Q : Exit → Act → World → Prop} {Kn : St → Prop} {Kp : List PanicEntry → St → Prop}
    {kt : TypeId} {m : Operand} {d : Nat} (hX : X.Ok) (hC : Cont X Q Kn Kp) (hi : ops.drop i = o :: r)
    (hc : o.op = .next m false) (hg : o.guard = none) (hdst : o.dst = some d) (hp : putN st.gs X.nt (some d) = false) (K : KeyT X.T kt eK) (V : Closed eV)
    (h1 : ev (findF st.F) [] m = some (.sp iid 0)) (h4 : findH st.H id = some (.map (encS eK eV ts) clock)) (h5 : findH st.H iid = some (.it id clock (vis.map (·.2)) clock)) (hpm : ts.Perm (vis ++ rest))
    (h : stK st fun F gs H nx D => (rest = [] → execL X ops Q Kn Kp (i + 1) r ⟨(d, ⟨[], .tup [.sb false]⟩) :: F, gs, H, nx, D⟩) ∧
      ∀ (p : (κ × ν) × Nat) (rest' : List ((κ × ν) × Nat)), rest.Perm (p :: rest') → execL X ops Q Kn Kp (i + 1) r ⟨(d, ⟨[], .tup [.sb true, eK p.1.1, eV p.1.2]⟩) :: F, gs, (iid, .it id clock ((vis ++ [p]).map (·.2)) clock) :: H, nx, D⟩) : FbO X ops Q Kn Kp i o r st := by
  refine fb_sem hX hC hi (by rw [hc]; intro c h; cases h) hg fun ρ a w hm => ?_
  have hs : GPsat a [] := fun x hx => by cases hx
  obtain ⟨nm, hn, hok⟩ := hm.hm.ok _ _ h4
  cases nm <;> simp only [HBok] at hok
  rename_i nm
  have m1 := (mapT_at hX.tab K V).1 hok
  obtain ⟨itb, hit, e1⟩ := sp0_den (ev_ok hm.fm hs h1)
  obtain ⟨nm2, hn2, hok2⟩ := hm.hm.ok _ _ h5
  rw [hit] at hn2; cases hn2
  obtain ⟨mb, hn3, hok3⟩ := hok2
  rw [hn] at hn3; cases hn3
  rw [stK_eq] at h
  rcases next_run (P := X.P) (ty := o.type) m1 hok3 hpm with ⟨q1, q2⟩ | ⟨p, rest', w', q1, q2, q3, q4, q5, q6⟩
  · refine ⟨_, w, ρ, _, .inl (by simp only [execOp, hc, e1]; exact run_v q2), hm.put (d := o.dst) (s := .tup [.sb false]) (by rw [hdst]; exact hp) (by simp [den, denL]), ?_⟩
    rw [hdst]; exact h.1 q1
  · have hm1 := hm.turned (hb' := .it id clock ((vis ++ [p]).map (·.2)) clock) (w' := w') h5 rfl hit rfl q4 q5 ⟨_, hn, q3⟩ rfl (fun _ _ _ h => by cases h) q6
    refine ⟨_, w', ρ, _, .inl (by simp only [execOp, hc, e1]; exact run_v q2), hm1.put (d := o.dst) (s := .tup [.sb true, eK p.1.1, eV p.1.2]) (by rw [hdst]; exact hp) (by simp [den, denL, cv_den (K.cl _) ρ, cv_den (V _) ρ]), ?_⟩
    rw [hdst]; exact h.2 p rest' q1

/-- The entry of the last step. -/
theorem fb_entry (eK : κ → SV) (eV : ν → SV) (id iid clock : Nat) (ts vis : List ((κ × ν) × Nat)) (p : (κ × ν) × Nat) {ops : List Oper} {i : Nat} {o : Oper} {r : List Oper} {Q : Exit → Act → World → Prop} {Kn : St → Prop} {Kp : List PanicEntry → St → Prop}
    {kt : TypeId} {m : Operand} {d : Nat} (hX : X.Ok) (hC : Cont X Q Kn Kp) (hi : ops.drop i = o :: r)
    (hc : o.op = .entry m) (hg : o.guard = none) (hdst : o.dst = some d) (hp : putN st.gs X.nt (some d) = false) (K : KeyT X.T kt eK) (V : Closed eV)
    (h1 : ev (findF st.F) [] m = some (.sp iid 0)) (h4 : findH st.H id = some (.map (encS eK eV ts) clock)) (h5 : findH st.H iid = some (.it id clock ((vis ++ [p]).map (·.2)) clock)) (hpm : p ∈ ts)
    (h : stK st fun F gs H nx D => execL X ops Q Kn Kp (i + 1) r ⟨(d, ⟨[], .tup [eK p.1.1, eV p.1.2]⟩) :: F, gs, H, nx, D⟩) : FbO X ops Q Kn Kp i o r st := by
  refine fb_sem hX hC hi (by rw [hc]; intro c h; cases h) hg fun ρ a w hm => ?_
  have hs : GPsat a [] := fun x hx => by cases hx
  obtain ⟨nm, hn, hok⟩ := hm.hm.ok _ _ h4
  cases nm <;> simp only [HBok] at hok
  rename_i nm
  have m1 := (mapT_at hX.tab K V).1 hok
  obtain ⟨itb, hit, e1⟩ := sp0_den (ev_ok hm.fm hs h1)
  obtain ⟨nm2, hn2, hok2⟩ := hm.hm.ok _ _ h5
  rw [hit] at hn2; cases hn2
  obtain ⟨mb, hn3, hok3⟩ := hok2
  rw [hn] at hn3; cases hn3
  have q := entry_run (P := X.P) m1 hok3 hpm
  rw [stK_eq] at h
  refine ⟨_, w, ρ, _, .inl (by simp only [execOp, hc, e1]; exact run_v q), hm.put (d := o.dst) (s := .tup [eK p.1.1, eV p.1.2]) (by rw [hdst]; exact hp) (by simp [den, denL, cv_den (K.cl _) ρ, cv_den (V _) ρ]), ?_⟩
  rw [hdst]; exact h

/-- How many entries. -/
theorem fb_mapLen (eK : κ → SV) (eV : ν → SV) (l : List (κ × ν)) (id : Nat) {ops : List Oper} {i : Nat} {o : Oper} {r : List Oper} {Q : Exit → Act → World → Prop} {Kn : St → Prop} {Kp : List PanicEntry → St → Prop}
    {t kt vt : TypeId} {ti : TI} {m : Operand} {c : Call} {d : Nat} (hX : X.Ok) (hC : Cont X Q Kn Kp) (hi : ops.drop i = o :: r)
    (hc : o.op = .call c) (hcl : c.callee = .builtin .len) (hca : c.args = #[m]) (hct : c.argTypes = #[t]) (hg : o.guard = none) (hdst : o.dst = some d) (hp : putN st.gs X.nt (some d) = false) (ht : X.T t = some ti) (hd : ti.desc = .map kt vt) (K : KeyT X.T kt eK) (V : Closed eV)
    (h1 : ev (findF st.F) [] m = some (.sm id)) (h4 : findH st.H id = some (.mp (encM eK eV l)))
    (h : stK st fun F gs H nx D => execL X ops Q Kn Kp (i + 1) r ⟨(d, ⟨[], .si .i64 l.length⟩) :: F, gs, H, nx, D⟩) : FbO X ops Q Kn Kp i o r st := by
  refine fb_sem hX hC hi (by rw [hc]; intro c h; cases h) hg fun ρ a w hm => ?_
  have hs : GPsat a [] := fun x hx => by cases hx
  obtain ⟨nm, hn, hok⟩ := hm.hm.ok _ _ h4
  obtain ⟨nm', hn', e1⟩ := sm_den (ev_ok hm.fm hs h1)
  rw [hn] at hn'; cases hn'
  obtain ⟨ts, clock, m1, m2⟩ := (mp_open hX.tab K V).1 hok
  have q := len_run (P := X.P) (ty := o.type) hX.tab ht hd m1.at_
  have hlen : (entV eK eV ts).toArray.size = l.length := by simp [entV, ← m2.length_eq]
  rw [hlen] at q
  rw [stK_eq] at h
  refine ⟨_, w, ρ, _, .inl ?_, hm.put (d := o.dst) (s := .si .i64 l.length) (by rw [hdst]; exact hp) rfl, by rw [hdst]; exact h⟩
  have hargs : c.args.map a.eval = #[.map (some nm')] := by rw [hca]; simp [e1]
  simp only [execOp, hc, Sem.run_bind, resolve, hcl, hargs, hct]
  simp only [Sem.run_pure, Result.andThen, invoke, builtin]
  exact run_v q
end
end Go.X
end

section
set_option linter.unusedVariables false
set_option linter.unusedSimpArgs false
set_option linter.unusedSectionVars false
/- Slices: made, copied, appended to. -/
set_option linter.unusedVariables false
set_option linter.unusedSimpArgs false
set_option maxRecDepth 10000
namespace Go.X
open Go

theorem chunks {sz : Nat} {Q : Nat → List Value → Prop} : ∀ (n : Nat), (∀ i, i < n → ∃ vs : List Value, vs.length = sz ∧ Q i vs) → ∃ news : List Value, news.length = n * sz ∧ ∀ i, i < n → Q i ((news.drop (i * sz)).take sz)
  | 0, _ => ⟨[], by simp, fun i h => by omega⟩
  | n + 1, h => by
    obtain ⟨news, h1, h2⟩ := chunks n fun i hi => h i (by omega)
    obtain ⟨vs, h3, h4⟩ := h n (by omega)
    refine ⟨news ++ vs, by rw [List.length_append, h1, h3, Nat.add_mul]; omega, fun i hi => ?_⟩
    rcases Nat.lt_or_ge i n with hlt | hge
    · have h5 : (i + 1) * sz ≤ n * sz := Nat.mul_le_mul_right _ hlt
      rw [Nat.add_mul] at h5
      rw [List.drop_append_of_le_length (by omega), List.take_append_of_le_length (by simp; omega)]
      exact h2 i hlt
    · have : i = n := by omega
      subst this
      rw [List.drop_append, h1, List.drop_eq_nil_of_le (by omega)]
      simp only [Nat.sub_self, List.drop_zero, List.nil_append]
      rw [List.take_of_length_le (by omega)]
      exact h4

theorem idx_split {sz j n : Nat} (h : j < n * sz) : j / sz < n ∧ j % sz < sz ∧ j = (j / sz) * sz + j % sz := by
  have hpos : 0 < sz := by rcases Nat.eq_zero_or_pos sz with rfl | h'; · simp at h
                           · exact h'
  refine ⟨(Nat.div_lt_iff_lt_mul hpos).2 h, Nat.mod_lt _ hpos, ?_⟩
  have := Nat.div_add_mod j sz
  rw [Nat.mul_comm] at this
  omega

theorem chunk_get {sz n j : Nat} {news : List Value} (hl : news.length = n * sz) (h : j < n * sz) : news[j]? = ((news.drop ((j / sz) * sz)).take sz)[j % sz]? := by
  obtain ⟨h1, h2, h3⟩ := idx_split h
  rw [List.getElem?_take, if_pos h2, List.getElem?_drop, ← h3]

section
variable {P : Program} {T : Tab} {ρ : Env} {H : LH} {w : World}

/-- What a slice's cells are. -/
theorem slice_src (hH : HM ρ H w) {sz id n : Nat} {get : Nat → List SV} (h : sliceOf sz H id = some (n, get)) {v : Value} (hv : den ρ (.sl id) = some v) :
    ∃ (A : Option Addr) (c : Nat) (news : List Value), v = .slice A n c ∧ (0 < n → ∃ ad, A = some ad) ∧ news.length = n * sz ∧ (∀ u ∈ news, u.oneCell' = true) ∧ (∀ i, i < n → denL ρ (get i) = some ((news.drop (i * sz)).take sz)) ∧
      ∀ ad, A = some ad → ∀ j u, news[j]? = some u → w.cell? (ad.add j) = some u := by
  unfold sliceOf at h
  have one : ∀ (news : List Value), news.length = n * sz → (∀ i, i < n → ((news.drop (i * sz)).take sz).all (·.oneCell') = true) → ∀ u ∈ news, u.oneCell' = true := by
    intro news hl ha u hu
    obtain ⟨j, hj⟩ := List.getElem?_of_mem hu
    have hjl := lt_of_get hj
    rw [hl] at hjl
    obtain ⟨h1, h2, h3⟩ := idx_split hjl
    rw [chunk_get hl hjl] at hj
    exact List.all_eq_true.1 (ha _ h1) u (List.mem_of_getElem? hj)
  split at h
  · rename_i s n' get' e
    split at h
    · rename_i hb
      have : s = sz := by simpa using hb
      subst this; cases h
      obtain ⟨nm, hn, hok⟩ := hH.ok _ _ e
      cases nm <;> simp only [HBok] at hok
      rename_i A n2 c s'
      obtain ⟨rfl, rfl, _, h3⟩ := hok
      simp only [den, hn] at hv; cases hv
      have hex : ∃ news : List Value, news.length = n2 * s' ∧ ∀ i, i < n2 → denL ρ (get i) = some ((news.drop (i * s')).take s') ∧ ((news.drop (i * s')).take s').all (·.oneCell') = true ∧
          ∀ ad, A = some ad → ∀ j v, ((news.drop (i * s')).take s')[j]? = some v → w.cell? (ad.add (i * s' + j)) = some v := by
        refine chunks (Q := fun i vs => denL ρ (get i) = some vs ∧ vs.all (·.oneCell') = true ∧ ∀ ad, A = some ad → ∀ j v, vs[j]? = some v → w.cell? (ad.add (i * s' + j)) = some v) n2 fun i hi => ?_
        obtain ⟨ad, e1, _, e2⟩ := h3 (by omega)
        obtain ⟨vs, d1, d2, d3, d4⟩ := e2 i hi
        exact ⟨vs, d3, d1, d2, fun ad' ha => by rw [e1] at ha; cases ha; exact d4⟩
      obtain ⟨news, g1, g2⟩ := hex
      refine ⟨_, _, news, rfl, fun h => let ⟨ad, e, _⟩ := h3 h; ⟨ad, e⟩, g1, one news g1 fun i hi => (g2 i hi).2.1, fun i hi => (g2 i hi).1, fun ad ha j u hj => ?_⟩
      have hjl := lt_of_get hj
      rw [g1] at hjl
      obtain ⟨k1, k2, k3⟩ := idx_split hjl
      rw [chunk_get g1 hjl] at hj
      have := (g2 _ k1).2.2 ad ha _ _ hj
      rw [← k3] at this; exact this
    · cases h
  · rename_i T' s n' xs e
    split at h
    · rename_i hb
      have : s = sz := by simpa using hb
      subst this; cases h
      obtain ⟨nm, hn, hok⟩ := hH.ok _ _ e
      cases nm <;> simp only [HBok] at hok
      rename_i nb n2 c s'
      obtain ⟨rfl, rfl, h3, vs, rest, d1, d2, d3, d4, d5⟩ := hok
      simp only [den, hn] at hv; cases hv
      refine ⟨_, _, vs, rfl, fun _ => ⟨_, rfl⟩, d3, List.all_eq_true.1 d2, fun i hi => ?_, fun ad ha j u hj => ?_⟩
      · show denL ρ (takeL _ (dropL _ _)) = _
        rw [takeL_eq, dropL_eq]
        exact denL_getL d1 _ _
      · cases ha
        rw [add_zero_mk]
        simp only [World.cell?, d5, List.getElem?_toArray]
        rw [List.getElem?_append_left (lt_of_get hj)]
        exact hj
    · cases h
  · rename_i T' s n' get' e
    split at h
    · rename_i hb
      have : s = sz := by simpa using hb
      subst this; cases h
      obtain ⟨nm, hn, hok⟩ := hH.ok _ _ e
      cases nm <;> simp only [HBok] at hok
      · obtain ⟨rfl, rfl, rfl, rfl, rfl⟩ := hok
        simp only [den, hn] at hv; cases hv
        exact ⟨_, _, [], rfl, fun h => by omega, by simp, by simp, fun i hi => by omega, fun ad ha => by cases ha⟩
      rename_i nb n2 c s'
      obtain ⟨rfl, rfl, h3, cells, d5, d6, d7⟩ := hok
      simp only [den, hn] at hv; cases hv
      have hle : n2 * s' ≤ cells.length := by rw [d6]; exact Nat.mul_le_mul_right _ h3.1
      have g1 : (cells.take (n2 * s')).length = n2 * s' := by simp; omega
      have g2 : ∀ i, i < n2 → denL ρ (get i) = some (((cells.take (n2 * s')).drop (i * s')).take s') ∧ (((cells.take (n2 * s')).drop (i * s')).take s').all (·.oneCell') = true := by
        intro i hi
        obtain ⟨vs, c1, c2, c3, c4⟩ := d7 i hi
        have hb2 : (i + 1) * s' ≤ n2 * s' := Nat.mul_le_mul_right _ hi
        rw [Nat.add_mul] at hb2
        have : ((cells.take (n2 * s')).drop (i * s')).take s' = vs := by
          apply List.ext_getElem?
          intro j
          rw [List.getElem?_take]
          split
          · rw [List.getElem?_drop, List.getElem?_take, if_pos (by omega)]
            obtain ⟨v, hv⟩ : ∃ v, vs[j]? = some v := ⟨_, List.getElem?_eq_getElem (by omega)⟩
            rw [hv]; exact c4 j v hv
          · rw [List.getElem?_eq_none (by omega)]
        rw [this]; exact ⟨c1, c2⟩
      refine ⟨_, _, cells.take (n2 * s'), rfl, fun _ => ⟨_, rfl⟩, g1, one _ g1 fun i hi => (g2 i hi).2, fun i hi => (g2 i hi).1, fun ad ha j u hj => ?_⟩
      cases ha
      rw [add_zero_mk]
      simp only [World.cell?, d5, List.getElem?_toArray]
      rw [List.getElem?_take] at hj
      split at hj
      · exact hj
      · cases hj
    · cases h
  · cases h

/-- A new piece over a block that no live piece owns. -/
theorem HM.add {id g : Nat} {hb : HB} {nm : Nm} {w' : World} (h : HM ρ H w) (hf : ρ id = none) (hs : w.heap.size ≤ w'.heap.size) (hk : ∀ k, k < w.heap.size → k ≠ g → w'.heap[k]? = w.heap[k]?)
    (hg : ¬ Own ρ H g) (hr : ∀ j size n get nm, H j = some (.ro size n get) → 0 < n → ρ j = some nm → roBlock nm ≠ some g) (hok : HBok (upd ρ id nm) w' hb nm) (hown : ∀ b, nm.owner = some b → b = g) (hro : roBlock nm = none) (hgz : ¬ Fz H g) (hfa : ∀ s C, hb ≠ .fam s C := by intro s C h; cases h) :
    HM (upd ρ id nm) (updL H id hb) w' where
  ok j hb' hj := by
    by_cases e : id = j
    · subst e
      rw [updL_self] at hj; cases hj
      exact ⟨nm, upd_self _ _ _, hok⟩
    · rw [updL_ne _ _ e] at hj
      obtain ⟨nm', h1, h2⟩ := h.ok j hb' hj
      refine ⟨nm', by rw [upd_ne _ _ (Ne.symm e)]; exact h1, HBok_ext (Ext.upd nm hf) (HBok_world hs ?_ ?_ ?_ h2)⟩
      · intro hl c hc
        have ho : Own ρ H c := ⟨j, hb', nm', hj, hl, h1, hc⟩
        exact hk c (h.lt ho) (fun e => hg (e ▸ ho))
      · intro size n get c ex hn0 hrb
        subst ex
        have hne := hr j size n get nm' hj hn0 h1
        cases nm' <;> simp only [HBok] at h2
        obtain ⟨_, _, _, h3⟩ := h2
        obtain ⟨ad, ead, hlt, _⟩ := h3 hn0
        subst ead
        have hrb' := hrb
        simp only [roBlock] at hrb; cases hrb
        refine hk _ hlt fun e => hne (e ▸ hrb')
      · intro size C v n get c ex hc hn0 hrb
        subst ex
        have hz : Fz H c := ⟨j, size, C, v, n, get, hj, hc, hn0, hrb⟩
        exact hk _ (h.fz_lt hz) fun e => hgz (e ▸ hz)
  sep i j hb₁ hb₂ n₁ n₂ b h1 h2 l1 l2 r1 r2 o1 o2 := by
    by_cases e1 : id = i <;> by_cases e2 : id = j
    · exact e1.symm.trans e2
    · subst e1
      rw [upd_self] at r1; cases r1
      rw [updL_ne _ _ e2] at h2
      rw [upd_ne _ _ (Ne.symm e2)] at r2
      have := hown b o1; subst this
      exact absurd ⟨j, hb₂, n₂, h2, l2, r2, o2⟩ hg
    · subst e2
      rw [upd_self] at r2; cases r2
      rw [updL_ne _ _ e1] at h1
      rw [upd_ne _ _ (Ne.symm e1)] at r1
      have := hown b o2; subst this
      exact absurd ⟨i, hb₁, n₁, h1, l1, r1, o1⟩ hg
    · rw [updL_ne _ _ e1] at h1
      rw [upd_ne _ _ (Ne.symm e1)] at r1
      rw [updL_ne _ _ e2] at h2
      rw [upd_ne _ _ (Ne.symm e2)] at r2
      exact h.sep i j hb₁ hb₂ n₁ n₂ b h1 h2 l1 l2 r1 r2 o1 o2
  ro j size n get nm' b hj hn hr' hb' := by
    intro ho
    by_cases e : id = j
    · subst e
      rw [upd_self] at hr'; cases hr'
      rw [hro] at hb'; cases hb'
    · rw [updL_ne _ _ e] at hj
      rw [upd_ne _ _ (Ne.symm e)] at hr'
      rcases Own.cons hf ho with h1 | h1
      · have := hown b h1; subst this
        exact hr j size n get nm' hj hn hr' hb'
      · exact h.ro j size n get nm' b hj hn hr' hb' h1
  fam b hz ho := by
    have hz := hz.upd hfa
    rcases Own.cons hf ho with h1 | h1
    · have := hown b h1; subst this
      exact hgz hz
    · exact h.fam b hz h1

theorem HM.kill (h : HM ρ H w) {id : Nat} (hs : ∃ nm, ρ id = some nm) : HM ρ (updL H id .dead) w where
  ok j hb hj := by
    by_cases e : id = j
    · subst e
      rw [updL_self] at hj; cases hj
      obtain ⟨nm, hn⟩ := hs
      exact ⟨nm, hn, trivial⟩
    · rw [updL_ne _ _ e] at hj; exact h.ok j hb hj
  sep i j hb₁ hb₂ n₁ n₂ b h1 h2 l1 l2 r1 r2 o1 o2 := by
    by_cases e1 : id = i
    · subst e1; rw [updL_self] at h1; cases h1; cases l1
    · by_cases e2 : id = j
      · subst e2; rw [updL_self] at h2; cases h2; cases l2
      · rw [updL_ne _ _ e1] at h1; rw [updL_ne _ _ e2] at h2
        exact h.sep i j hb₁ hb₂ n₁ n₂ b h1 h2 l1 l2 r1 r2 o1 o2
  ro j size n get nm' b hj hn hr hb' ho := by
    by_cases e : id = j
    · subst e; rw [updL_self] at hj; cases hj
    · rw [updL_ne _ _ e] at hj
      refine h.ro j size n get nm' b hj hn hr hb' ?_
      obtain ⟨i, x, nm, h1, h2, h3, h4⟩ := ho
      by_cases e2 : id = i
      · subst e2; rw [updL_self] at h1; cases h1; cases h2
      · rw [updL_ne _ _ e2] at h1; exact ⟨i, x, nm, h1, h2, h3, h4⟩
  fam b hz ho := by
    refine h.fam b (hz.upd fun s C h => by cases h) ?_
    obtain ⟨i, x, nm, h1, h2, h3, h4⟩ := ho
    by_cases e2 : id = i
    · subst e2; rw [updL_self] at h1; cases h1; cases h2
    · rw [updL_ne _ _ e2] at h1; exact ⟨i, x, nm, h1, h2, h3, h4⟩
theorem Own.kill {id b : Nat} (h : Own ρ (updL H id .dead) b) : ∃ i hb nm, i ≠ id ∧ H i = some hb ∧ hb.live = true ∧ ρ i = some nm ∧ nm.owner = some b := by
  obtain ⟨i, x, nm, h1, h2, h3, h4⟩ := h
  by_cases e2 : id = i
  · subst e2; rw [updL_self] at h1; cases h1; cases h2
  · rw [updL_ne _ _ e2] at h1; exact ⟨i, x, nm, Ne.symm e2, h1, h2, h3, h4⟩
end
end Go.X
end

section
set_option linter.unusedVariables false
set_option linter.unusedSimpArgs false
set_option linter.unusedSectionVars false
/- Slices: the executor's steps of make, copy, append. -/
set_option linter.unusedVariables false
set_option linter.unusedSimpArgs false
set_option maxRecDepth 10000
namespace Go.X
open Go

theorem take_chunk {xs ys : List Value} {n m sz i : Nat} (h : xs.length = n * sz) (hy : ys.length = m * sz) (hi : i < n + m) :
    (((xs ++ ys).drop (i * sz)).take sz) = if i < n then (xs.drop (i * sz)).take sz else (ys.drop ((i - n) * sz)).take sz := by
  split
  · rename_i hlt
    have h5 : (i + 1) * sz ≤ n * sz := Nat.mul_le_mul_right _ hlt
    rw [Nat.add_mul] at h5
    rw [List.drop_append_of_le_length (by omega), List.take_append_of_le_length (by simp; omega)]
  · rename_i hge
    have h5 : n * sz ≤ i * sz := Nat.mul_le_mul_right _ (by omega)
    rw [List.drop_append, List.drop_eq_nil_of_le (by omega), List.nil_append, h, Nat.sub_mul]

section
variable {X : Cx} {ρ : Env} {st : St} {a : Act} {w : World}

theorem append_mod (hX : X.Ok) (hm : Mod X ρ st a w) {t e ty : TypeId} {ti te : TI} (ht : X.T t = some ti) (hd : ti.desc = .slice e) (hte : X.T e = some te) (hzs : te.zero.cells.size = te.size) (hpos : 0 < te.size) (hby : te.bytes ≤ 1000)
    {v : Value} {n m : Nat} {xs news : List Value} {get get2 get' : Nat → List SV} (hown : w.ownsRow 0 e te.size v n xs) (hnm : n + m ≤ 1000000)
    (hg1 : ∀ i, i < n → denL ρ (get i) = some ((xs.drop (i * te.size)).take te.size)) (ha1 : ∀ u ∈ xs, u.oneCell' = true)
    (hfree : ∀ g, v.ownBlock = some g → ¬ Own ρ (findH st.H) g ∧ (∀ j size n get nm, findH st.H j = some (.ro size n get) → 0 < n → ρ j = some nm → roBlock nm ≠ some g) ∧ (X.G.M g ∨ X.G.w0.heap.size ≤ g) ∧ ¬ Fz (findH st.H) g)
    {A : Option Addr} {c : Nat} (hA : 0 < m → ∃ ad, A = some ad) (hl : news.length = m * te.size) (ha2 : ∀ u ∈ news, u.oneCell' = true)
    (hg2 : ∀ i, i < m → denL ρ (get2 i) = some ((news.drop (i * te.size)).take te.size)) (hc : ∀ ad, A = some ad → ∀ j u, news[j]? = some u → w.cell? (ad.add j) = some u)
    (hA2 : A = none → m = 0)
    (hg' : ∀ i, i < n + m → get' i = if i < n then get i else get2 (i - n)) :
    ∃ v' w' nm, (Builtin.append_ #[t, t] ty #[v, .slice A m c]).run X.P w = .ok v' w' ∧ den (upd ρ st.nx nm) (.sl st.nx) = some v' ∧
      Mod X (upd ρ st.nx nm) { st with H := (st.nx, .vec e te.size (n + m) get') :: st.H, nx := st.nx + 1 } a w' := by
  obtain ⟨hu, ⟨inf, i1, i2, i3, i4⟩, _⟩ := hX.tab t ti ht
  rw [hd] at hu
  obtain ⟨hue, ⟨infe, j1, j2, j3, j4⟩, _⟩ := hX.tab e te hte
  have hrun : ∃ v' w', (Builtin.append_ #[t, t] ty #[v, .slice A m c]).run X.P w = .ok v' w' ∧ w'.ownsRow 0 e te.size v' (n + m) (xs ++ news) ∧ w.grownBy w' v.ownBlock ∧ ∀ g, v'.ownBlock = some g → v.ownBlock = some g ∨ w.heap.size ≤ g := by
    have hbytes : (n + m) * te.bytes ≤ 140737488355328 := by have := Nat.mul_le_mul hnm hby; omega
    cases A with
    | some ad =>
      obtain ⟨v', w', q1, q2, q3, _⟩ := run_append_own (P := X.P) w 0 t ty e infe te.zero te.size te.bytes hu j1 j2 j3 j4 hzs hpos v n xs hown ad m c news hl (hc ad rfl) ha2 (by unfold maxLen; omega)
        hbytes (Nat.zero_le _)
      refine ⟨v', w', q1, q2, q3, fun g' hg'' => ?_⟩
      rcases hown.2 with ⟨rfl, rfl⟩ | ⟨g, cap, cur, rfl, hbg, hg, hnc, hcm, hcs, htake⟩
      · have hx : xs = [] := List.eq_nil_of_length_eq_zero (by simpa using hown.1)
        subst hx
        obtain ⟨v2, w2, r1, r2, _⟩ := run_append_own (P := X.P) w w.heap.size t ty e infe te.zero te.size te.bytes hu j1 j2 j3 j4 hzs hpos _ 0 [] (World.ownsRow_nil w _ e _) ad m c news hl (hc ad rfl) ha2 (by unfold maxLen; omega)
          hbytes (Nat.le_refl _)
        rw [q1] at r1; cases r1
        exact .inr (r2.lt g' hg'').1
      · by_cases hroom : n + m ≤ cap
        · have hfit : n * infe.size + news.length ≤ cur.size := by rw [j3, hl, hcs, ← Nat.add_mul]; exact Nat.mul_le_mul_right _ hroom
          have hr := run_append_room (P := X.P) w t ty e infe hu j1 g n cap cur hg ad m c news (by rw [j3]; exact hl) (hc ad rfl) ha2 hroom hfit
          rw [q1] at hr; cases hr
          exact .inl hg''
        · have holds : ∀ j u, xs[j]? = some u → w.cell? ((⟨g, 0, none⟩ : Addr).add j) = some u := hown.cells (g := g) rfl
          have hr := run_append_grow (P := X.P) w t ty e infe te.zero hu j1 j2 ⟨g, 0, none⟩ n cap xs (by rw [j3]; exact hown.1) holds ad m c news (by rw [j3]; exact hl) (hc ad rfl) (by omega) (by omega) (growslice_fits (by omega) (by rw [j4]; exact hbytes))
          rw [q1] at hr; cases hr
          simp [Value.ownBlock] at hg''
          exact .inr (by omega)
    | none =>
      obtain rfl := hA2 rfl
      have hnil : news = [] := List.eq_nil_of_length_eq_zero (by rw [hl]; simp)
      subst hnil
      refine ⟨v, w, ?_, by simpa using hown, ⟨rfl, rfl, rfl, Nat.le_refl _, fun _ _ _ => rfl⟩, fun g hg => .inl hg⟩
      rcases hown.2 with ⟨rfl, rfl⟩ | ⟨g, cap, cur, rfl, _, hgg, hle, _⟩
      · simp [Builtin.append_, run_underlying hu, sizeOf, typeInfo, j1, Builtin.lenOf, Builtin.firstCells]
      · simp [Builtin.append_, run_underlying hu, sizeOf, typeInfo, j1, Builtin.lenOf, Builtin.firstCells, hle, storeCells]
  obtain ⟨v', w', q1, q2, q3, q4⟩ := hrun
  have hfn : ρ st.nx = none := hm.nx _ (Nat.le_refl _)
  have hchunk : ∀ i, i < n + m → denL ρ (get' i) = some (((xs ++ news).drop (i * te.size)).take te.size) := by
    intro i hi
    rw [hg' i hi, take_chunk hown.1 hl hi]
    split
    · exact hg1 i (by assumption)
    · exact hg2 _ (by omega)
  have hall : ∀ u ∈ xs ++ news, u.oneCell' = true := fun u hu => (List.mem_append.1 hu).elim (ha1 u) (ha2 u)
  have fin : ∀ (nm : Nm) (g : Nat), den (upd ρ st.nx nm) (.sl st.nx) = some v' → HBok (upd ρ st.nx nm) w' (.vec e te.size (n + m) get') nm → (∀ b, nm.owner = some b → b = g) → roBlock nm = none →
      (v.ownBlock = some g ∨ (w.heap.size ≤ g ∧ v.ownBlock = none) ∨ (w.heap.size ≤ g)) →
      Mod X (upd ρ st.nx nm) { st with H := (st.nx, .vec e te.size (n + m) get') :: st.H, nx := st.nx + 1 } a w' := by
    intro nm g hden hok hown' hro hgc
    have hk : ∀ k, k < w.heap.size → v.ownBlock ≠ some k → w'.heap[k]? = w.heap[k]? := fun k hk hne => q3.block k hk (fun e => hne e.symm)
    -- first: the world has turned, at most in the slice's own block
    have hstep : HM ρ (findH st.H) w' := by
      refine ⟨fun j hb hj => ?_, hm.hm.sep, hm.hm.ro, hm.hm.fam⟩
      obtain ⟨nm', h1, h2⟩ := hm.hm.ok j hb hj
      refine ⟨nm', h1, HBok_world q3.size ?_ ?_ ?_ h2⟩
      · intro hl' c' hc'
        have ho : Own ρ (findH st.H) c' := ⟨j, hb, nm', hj, hl', h1, hc'⟩
        exact hk c' (hm.hm.lt ho) (fun e => (hfree c' e).1 ho)
      · intro size n get c' ex hn0 hrb
        subst ex
        cases nm' <;> simp only [HBok] at h2
        obtain ⟨_, _, _, h3⟩ := h2
        obtain ⟨ad, ead, hlt, _⟩ := h3 hn0
        subst ead
        have hrb' := hrb
        simp only [roBlock] at hrb; cases hrb
        exact hk _ hlt (fun e => (hfree _ e).2.1 j _ _ _ _ hj hn0 h1 hrb')
      · intro size C v2 n2 get2 c' ex hc' hn0 hrb
        subst ex
        have hz : Fz (findH st.H) c' := ⟨j, size, C, v2, n2, get2, hj, hc', hn0, hrb⟩
        exact hk _ (hm.hm.fz_lt hz) (fun e => (hfree _ e).2.2.2 hz)
    have hgo : ¬ Own ρ (findH st.H) g := by
      rcases hgc with h | h | h
      · exact (hfree g h).1
      · intro ho; have := hm.hm.lt ho; omega
      · intro ho; have := hm.hm.lt ho; omega
    have hgr : ∀ j size n get nm, findH st.H j = some (.ro size n get) → 0 < n → ρ j = some nm → roBlock nm ≠ some g := by
      intro j size n get nm hj hn hr hb
      have hlt : g < w.heap.size := by
        obtain ⟨nm2, k1, k2⟩ := hm.hm.ok j _ hj
        rw [hr] at k1; cases k1
        cases nm <;> simp only [HBok] at k2
        obtain ⟨_, _, _, h3⟩ := k2
        obtain ⟨ad, ead, hlt, _⟩ := h3 hn
        subst ead
        simp only [roBlock, Option.some.injEq] at hb
        omega
      rcases hgc with h | h | h
      · exact (hfree g h).2.1 j size n get nm hj hn hr hb
      · omega
      · omega
    have hM : X.G.M g ∨ X.G.w0.heap.size ≤ g := by
      have := hm.kp.size
      rcases hgc with h | h | h
      · exact (hfree g h).2.2.1
      · exact .inr (by omega)
      · exact .inr (by omega)
    have hgz : ¬ Fz (findH st.H) g := by
      rcases hgc with h | h | h
      · exact (hfree g h).2.2.2
      · intro hz; have := hm.hm.fz_lt hz; omega
      · intro hz; have := hm.hm.fz_lt hz; omega
    exact {
      fm := hm.fm.ext (Ext.upd nm hfn)
      gs := hm.gs
      df := hm.df.ext (Ext.upd nm hfn)
      hm := by
        have := hstep.add (w' := w') (hb := .vec e te.size (n + m) get') hfn (Nat.le_refl _) (fun _ _ _ => rfl) hgo hgr hok hown' hro hgz
        exact this
      kp := {
        str := hm.kp.str.trans ⟨q3.os, q3.output⟩
        size := Nat.le_trans hm.kp.size q3.size
        same := fun b hb hnM => by
          rw [← hm.kp.same b hb hnM]
          have := hm.kp.size
          exact hk b (by omega) (fun e => by
            rcases (hfree b e).2.2.1 with h | h
            · exact hnM h
            · omega)
        own := fun b ho => by
          rcases Own.cons hfn ho with h | h
          · rw [hown' b h]; exact hM
          · exact hm.kp.own b h
        ext := hm.kp.ext.trans (Ext.upd nm hfn)
        fz := fun b hz => hm.kp.fz b (hz.upd fun s C h => by cases h) }
      nx := fun j hj => by
        have : st.nx + 1 ≤ j := hj
        rw [upd_ne _ _ (by omega)]; exact hm.nx j (by omega)
      sz := hm.sz }
  rcases q2.2 with ⟨rfl, hz⟩ | ⟨g, cap, cur, rfl, _, hgg, hle, hcm, hsz, htk⟩
  · refine ⟨_, w', .sl none 0 0 te.size, q1, by simp [den, upd_self], fin _ (w.heap.size) (by simp [den, upd_self]) ⟨rfl, rfl, rfl, hz, rfl⟩ (by intro b hb; cases hb) rfl (.inr (.inr (Nat.le_refl _)))⟩
  · refine ⟨_, w', .row g (n + m) cap te.size, q1, by simp [den, upd_self], fin _ g (by simp [den, upd_self]) ?_ (by intro b hb; simpa [Nm.owner] using hb.symm) rfl ?_⟩
    · refine ⟨rfl, rfl, ⟨hle, hcm⟩, cur.toList, by simpa using hgg, by simpa using hsz, fun i hi => ?_⟩
      have hb2 : (i + 1) * te.size ≤ (n + m) * te.size := Nat.mul_le_mul_right _ hi
      rw [Nat.add_mul] at hb2
      have hlen : (xs ++ news).length = (n + m) * te.size := q2.1
      refine ⟨_, denL_ext (Ext.upd _ hfn) _ _ (hchunk i hi), ?_, by simp only [List.length_take, List.length_drop, hlen]; omega, fun j u hj => ?_⟩
      · rw [List.all_eq_true]
        intro x hx
        exact hall x (List.mem_of_mem_drop (List.mem_of_mem_take hx))
      · rw [List.getElem?_take] at hj
        split at hj
        · rw [List.getElem?_drop, ← htk, List.getElem?_take] at hj
          split at hj
          · exact hj
          · cases hj
        · cases hj
    · rcases q4 g rfl with h | h
      · exact .inl h
      · exact .inr (.inr h)
end
end Go.X
end

section
set_option linter.unusedVariables false
set_option linter.unusedSimpArgs false
set_option linter.unusedSectionVars false
/- Slices: the executor's steps. -/
set_option linter.unusedVariables false
set_option linter.unusedSimpArgs false
set_option maxRecDepth 10000
namespace Go.X
open Go
section
variable {X : Cx} {st : St}

theorem Mod.kill {ρ : Env} {a : Act} {w : World} (hm : Mod X ρ st a w) {id : Nat} {hb : HB} (hf : findH st.H id = some hb) : Mod X ρ { st with H := (id, .dead) :: st.H } a w where
  fm := hm.fm
  gs := hm.gs
  df := hm.df
  hm := hm.hm.kill (let ⟨nm, h, _⟩ := hm.hm.ok id hb hf; ⟨nm, h⟩)
  kp := {
    str := hm.kp.str
    size := hm.kp.size
    same := hm.kp.same
    own := fun b ho => by
      obtain ⟨i, x, nm, _, h1, h2, h3, h4⟩ := Own.kill ho
      exact hm.kp.own b ⟨i, x, nm, h1, h2, h3, h4⟩
    ext := hm.kp.ext
    fz := fun b hz => hm.kp.fz b (hz.upd fun s C h => by cases h) }
  nx := hm.nx
  sz := hm.sz

/-- A piece is called otherwise; the world is as it was. -/
theorem Mod.swap {ρ : Env} {a : Act} {w : World} (hm : Mod X ρ st a w) {id : Nat} {hb hb' : HB} {nm : Nm} (hf : findH st.H id = some hb) (hl : hb.live = true) (hn : ρ id = some nm) (hok : HBok ρ w hb' nm) (hnr : ∀ s n g, hb' ≠ .ro s n g) (hfa : ∀ s C, hb' ≠ .fam s C := by intro s C h; cases h) : Mod X ρ { st with H := (id, hb') :: st.H } a w := by
  have hown : ∀ c, Own ρ (updL (findH st.H) id hb') c → Own ρ (findH st.H) c := by
    rintro c ⟨j, x, nm', h1, h2, h3, h4⟩
    by_cases e : id = j
    · subst e; exact ⟨id, hb, nm', hf, hl, h3, h4⟩
    · rw [updL_ne _ _ e] at h1; exact ⟨j, x, nm', h1, h2, h3, h4⟩
  exact {
    fm := hm.fm
    gs := hm.gs
    df := hm.df
    hm := {
      ok := fun j x hj => by
        rw [findH_cons] at hj
        by_cases e : id = j
        · subst e; rw [updL_self] at hj; cases hj; exact ⟨nm, hn, hok⟩
        · rw [updL_ne _ _ e] at hj; exact hm.hm.ok j x hj
      sep := fun i j x y n₁ n₂ b h1 h2 l1 l2 r1 r2 o1 o2 => by
        rw [findH_cons] at h1 h2
        by_cases e1 : id = i <;> by_cases e2 : id = j
        · exact e1.symm.trans e2
        · subst e1
          rw [updL_ne _ _ e2] at h2
          exact hm.hm.sep id j hb y n₁ n₂ b hf h2 hl l2 r1 r2 o1 o2
        · subst e2
          rw [updL_ne _ _ e1] at h1
          exact hm.hm.sep i id x hb n₁ n₂ b h1 hf l1 hl r1 r2 o1 o2
        · rw [updL_ne _ _ e1] at h1
          rw [updL_ne _ _ e2] at h2
          exact hm.hm.sep i j x y n₁ n₂ b h1 h2 l1 l2 r1 r2 o1 o2
      ro := fun j size n get nm' c hj hn0 hr hb0 hoc => by
        rw [findH_cons] at hj
        by_cases e : id = j
        · subst e; rw [updL_self] at hj; cases hj; exact hnr _ _ _ rfl
        · rw [updL_ne _ _ e] at hj
          exact hm.hm.ro j size n get nm' c hj hn0 hr hb0 (hown c hoc)
      fam := fun b hz ho => hm.hm.fam b (hz.upd hfa) (hown b ho) }
    kp := { str := hm.kp.str, size := hm.kp.size, same := hm.kp.same, own := fun b ho => hm.kp.own b (hown b ho), ext := hm.kp.ext, fz := fun b hz => hm.kp.fz b (hz.upd hfa) }
    nx := hm.nx
    sz := hm.sz }

theorem run_builtin2 {P : Program} {a : Act} {o : Oper} {c : Call} {b : Builtin} {x y : Operand} {t u : TypeId} {f : Array TypeId → TypeId → Array Value → Sem Value} {w w' : World} {v : Value} (hc : o.op = .call c) (hcl : c.callee = .builtin b) (hca : c.args = #[x, y]) (hct : c.argTypes = #[t, u])
    (hb : ∀ cs args, builtin b #[t, u] o.type cs args = (do pure (.value (← f #[t, u] o.type args)) : Sem Next)) (h : (f #[t, u] o.type #[a.eval x, a.eval y]).run P w = .ok v w') : (execOp a.eval o).run P w = .ok (.value v) w' := by
  have hargs : c.args.map a.eval = #[a.eval x, a.eval y] := by rw [hca]; simp
  simp only [execOp, hc, Sem.run_bind, resolve, hcl, hargs, hct]
  simp only [Sem.run_pure, Result.andThen, invoke, hb]
  exact run_v h

/-- append to a slice of our own. -/
theorem fb_append (sid xid n m : Nat) (get get2 get' : Nat → List SV) {ops : List Oper} {i : Nat} {o : Oper} {r : List Oper} {Q : Exit → Act → World → Prop} {Kn : St → Prop} {Kp : List PanicEntry → St → Prop}
    {t e : TypeId} {ti te : TI} {s x : Operand} {c : Call} {d : Nat} {Te : TypeId} (hX : X.Ok) (hC : Cont X Q Kn Kp) (hi : ops.drop i = o :: r)
    (hc : o.op = .call c) (hcl : c.callee = .builtin .append) (hca : c.args = #[s, x]) (hct : c.argTypes = #[t, t]) (hg : o.guard = none) (hdst : o.dst = some d) (hp : putN st.gs X.nt (some d) = false)
    (ht : X.T t = some ti) (hd : ti.desc = .slice e) (hte : X.T e = some te) (hzs : te.zero.cells.size = te.size) (hpos : 0 < te.size) (hby : te.bytes ≤ 1000)
    (h1 : ev (findF st.F) [] s = some (.sl sid)) (h2 : ev (findF st.F) [] x = some (.sl xid)) (h3 : findH st.H sid = some (.vec e te.size n get)) (h4 : sliceOf te.size (findH st.H) xid = some (m, get2))
    (hnm : n + m ≤ 1000000) (hg' : ∀ i, i < n + m → get' i = if i < n then get i else get2 (i - n))
    (h : stK st fun F gs H nx D => natF (nx + 1) fun nx' => execL X ops Q Kn Kp (i + 1) r ⟨(d, ⟨[], .sl nx⟩) :: F, gs, (nx, .vec e te.size (n + m) get') :: (sid, .dead) :: H, nx', D⟩) : FbO X ops Q Kn Kp i o r st := by
  refine fb_sem hX hC hi (by rw [hc]; intro c h; cases h) hg fun ρ a w hm => ?_
  have hs : GPsat a [] := fun x hx => by cases hx
  have e1 := ev_ok hm.fm hs h1
  have e2 := ev_ok hm.fm hs h2
  obtain ⟨A, c2, news, s1, s2, s3, s4, s5, s6⟩ := slice_src hm.hm h4 e2
  have hself : sliceOf te.size (findH st.H) sid = some (n, get) := by unfold sliceOf; rw [h3]; simp
  obtain ⟨B, c1, xs, x1, x2, x3, x4, x5, x6⟩ := slice_src hm.hm hself e1
  obtain ⟨nm, hn, hok⟩ := hm.hm.ok _ _ h3
  have hA2 : A = none → m = 0 := by
    rintro rfl
    rcases Nat.eq_zero_or_pos m with h | h
    · exact h
    · obtain ⟨ad, h⟩ := s2 h; cases h
  have hown : w.ownsRow 0 e te.size (a.eval s) n xs ∧ ∀ g, (a.eval s).ownBlock = some g → nm.owner = some g := by
    cases nm <;> simp only [HBok] at hok
    · obtain ⟨rfl, rfl, rfl, rfl, rfl⟩ := hok
      simp only [den, hn, Option.some.injEq] at e1
      rw [← e1]
      have : xs = [] := List.eq_nil_of_length_eq_zero (by rw [x3]; simp)
      subst this
      exact ⟨World.ownsRow_nil w 0 e _, fun g hg => by simp [Value.ownBlock] at hg⟩
    · rename_i nb n2 cc s'
      obtain ⟨rfl, rfl, hle, cells, d5, d6, d7⟩ := hok
      simp only [den, hn, Option.some.injEq] at e1
      rw [← e1]
      refine ⟨⟨x3, .inr ⟨nb, cc, cells.toArray, rfl, Nat.zero_le _, d5, hle.1, hle.2, by simpa using d6, ?_⟩⟩, fun g hg => by simpa [Value.ownBlock, Nm.owner] using hg⟩
      simp only [List.toList_toArray]
      apply List.ext_getElem?
      intro j
      rw [List.getElem?_take]
      split
      · rename_i hj
        rw [← e1] at x1; cases x1
        obtain ⟨u, hu⟩ : ∃ u, xs[j]? = some u := ⟨_, List.getElem?_eq_getElem (by omega)⟩
        have := x6 _ rfl j u hu
        rw [add_zero_mk] at this
        simp only [World.cell?, d5, List.getElem?_toArray] at this
        rw [hu]; simpa using this
      · rename_i hj
        rw [List.getElem?_eq_none (by omega)]
  have hfree : ∀ g, (a.eval s).ownBlock = some g → ¬ Own ρ (findH ({ st with H := (sid, .dead) :: st.H } : St).H) g ∧ (∀ j size n get nm, findH ({ st with H := (sid, .dead) :: st.H } : St).H j = some (.ro size n get) → 0 < n → ρ j = some nm → roBlock nm ≠ some g) ∧ (X.G.M g ∨ X.G.w0.heap.size ≤ g) ∧ ¬ Fz (findH ({ st with H := (sid, .dead) :: st.H } : St).H) g := by
    intro g hgg
    have ho := hown.2 g hgg
    refine ⟨fun hO => ?_, fun j size n' get' nm' hj hn' hr hb => ?_, hm.kp.own g ⟨sid, _, nm, h3, rfl, hn, ho⟩, fun hz => hm.hm.fam g (hz.upd fun s C h => by cases h) ⟨sid, _, nm, h3, rfl, hn, ho⟩⟩
    · obtain ⟨i', x', nm', k0, k1, k2, k3, k4⟩ := Own.kill hO
      exact k0 (hm.hm.sep i' sid x' _ nm' nm g k1 h3 k2 rfl k3 hn k4 ho)
    · have hj' : findH st.H j = some (.ro size n' get') := by
        rw [findH_cons] at hj
        by_cases e : sid = j
        · subst e; rw [updL_self] at hj; cases hj
        · rw [updL_ne _ _ e] at hj; exact hj
      exact hm.hm.ro j size n' get' nm' g hj' hn' hr hb ⟨sid, _, nm, h3, rfl, hn, ho⟩
  obtain ⟨v', w', nm', q1, q2, q3⟩ := append_mod (ty := o.type) hX (hm.kill h3) ht hd hte hzs hpos hby hown.1 hnm x5 x4 hfree s2 s3 s4 s5 s6 hA2 hg'
  rw [← s1] at q1
  rw [stK_eq, natF_eq] at h
  exact ⟨v', w', _, _, .inl (run_builtin2 hc hcl hca hct (fun _ _ => rfl) q1), q3.put (d := o.dst) (s := .sl st.nx) (by rw [hdst]; exact hp) q2, by rw [hdst]; exact h⟩

theorem row_vec {ρ : Env} {w : World} {T s n : Nat} {xs : List SV} {get : Nat → List SV} {nm : Nm} (h : HBok ρ w (.row T s n xs) nm) (hg : ∀ i, i < n → (xs.drop (i * s)).take s = get i) : HBok ρ w (.vec T s n get) nm := by
  cases nm <;> simp only [HBok] at h ⊢
  obtain ⟨e1, e2, e3, vs, rest, d1, d2, d3, d4, d5⟩ := h
  refine ⟨e1, e2, e3, vs ++ rest, d5, ?_, fun i hi => ?_⟩
  · rw [List.length_append, d3, d4, ← Nat.add_mul]
    congr 1; omega
  · have hd := denL_getL d1 (i * s) s
    rw [hg i hi] at hd
    have hle : i * s + s ≤ n * s := by
      have : (i + 1) * s ≤ n * s := Nat.mul_le_mul_right _ hi
      rw [Nat.add_mul] at this; omega
    refine ⟨_, hd, ?_, by simp; omega, fun j v hv => ?_⟩
    · rw [List.all_eq_true] at d2 ⊢
      intro x hx'
      exact d2 x (List.mem_of_mem_drop (List.mem_of_mem_take hx'))
    · rw [List.getElem?_take] at hv
      split at hv
      · rw [List.getElem?_drop] at hv
        rw [List.getElem?_append_left (by have := lt_of_get hv; omega)]
        exact hv
      · cases hv

theorem repS_get {z : List SV} {s : Nat} (hz : z.length = s) : ∀ (n i : Nat), i < n → ((repS n z).drop (i * s)).take s = z
  | 0, i, hi => by omega
  | n + 1, 0, _ => by simp only [repS, Nat.zero_mul, List.drop_zero]; rw [← hz]; exact List.take_left
  | n + 1, i + 1, hi => by
    simp only [repS]
    subst hz
    rw [Nat.add_mul, Nat.one_mul, Nat.add_comm, List.drop_append]
    have := repS_get (z := z) rfl n i (by omega)
    simp only [Nat.add_sub_cancel_left]
    rw [List.drop_eq_nil_of_le (by omega), List.nil_append]
    exact this

/-- make of so many elements. -/
theorem fb_makeVec (n : Nat) {ops : List Oper} {i : Nat} {o : Oper} {r : List Oper} {Q : Exit → Act → World → Prop} {Kn : St → Prop} {Kp : List PanicEntry → St → Prop}
    {t e : TypeId} {ti te : TI} {x y : Operand} {d : Nat} {k k' : IntKind} {z : List SV} (hX : X.Ok) (hC : Cont X Q Kn Kp) (hi : ops.drop i = o :: r)
    (hc : o.op = .makeSlice t x y) (hg : o.guard = none) (hdst : o.dst = some d) (hp : putN st.gs X.nt (some d) = false)
    (ht : X.T t = some ti) (hd : ti.desc = .slice e) (hte : X.T e = some te) (hz : ofValues te.zero.cells.toList = some z) (hzl : z.length = te.size) (hby : te.bytes ≤ 1000) (hn : n ≤ 1000)
    (h1 : ev (findF st.F) [] x = some (.si k n)) (h2 : ev (findF st.F) [] y = some (.si k' n))
    (h : stK st fun F gs H nx D => natF (nx + 1) fun nx' => execL X ops Q Kn Kp (i + 1) r ⟨(d, ⟨[], .sl nx⟩) :: F, gs, (nx, .vec e te.size n (fun _ => z)) :: H, nx', D⟩) : FbO X ops Q Kn Kp i o r st := by
  refine fb_sem hX hC hi (by rw [hc]; intro c h; cases h) hg fun ρ a w hm => ?_
  have hs : GPsat a [] := fun x hx => by cases hx
  have e1 := ev_ok hm.fm hs h1
  have e2 := ev_ok hm.fm hs h2
  simp only [den, Option.some.injEq] at e1 e2
  obtain ⟨v, nm, ob, q1, q2, q3, q4, q5⟩ := makeSlice_ok (P := X.P) (T := X.T) (ρ := ρ) (H := findH st.H) (w := w) (fr := st.nx) hX.tab (hm.nx _ (Nat.le_refl _)) ht hd hte hz hzl hby hn (k := k) (k' := k')
  rw [stK_eq, natF_eq] at h
  refine ⟨v, _, _, _, .inl ?_, hm.new (d := o.dst) (s := .sl st.nx) (hb := .vec e te.size n (fun _ => z)) (by rw [hdst]; exact hp) q2 (row_vec q3 (fun i hi => repS_get hzl n i hi)) q4 q5.1, ?_⟩
  · simp only [execOp, hc, ← e1, ← e2]; exact q1
  · rw [hdst]; exact h

/-- copy into a slice of our own. -/
theorem fb_copy (did xid n m : Nat) (get get2 get' : Nat → List SV) {ops : List Oper} {i : Nat} {o : Oper} {r : List Oper} {Q : Exit → Act → World → Prop} {Kn : St → Prop} {Kp : List PanicEntry → St → Prop}
    {t u e : TypeId} {ti te : TI} {s x : Operand} {c : Call} {d : Nat} (hX : X.Ok) (hC : Cont X Q Kn Kp) (hi : ops.drop i = o :: r)
    (hc : o.op = .call c) (hcl : c.callee = .builtin .copy) (hca : c.args = #[s, x]) (hct : c.argTypes = #[t, u]) (hg : o.guard = none) (hdst : o.dst = some d) (hp : putN st.gs X.nt (some d) = false)
    (ht : X.T t = some ti) (hd : ti.desc = .slice e) (hte : X.T e = some te)
    (h1 : ev (findF st.F) [] s = some (.sl did)) (h2 : ev (findF st.F) [] x = some (.sl xid)) (h3 : findH st.H did = some (.vec e te.size n get)) (h4 : sliceOf te.size (findH st.H) xid = some (m, get2))
    (hne : did ≠ xid) (hg' : ∀ i, i < n → get' i = if i < m then get2 i else get i)
    (h : stK st fun F gs H nx D => execL X ops Q Kn Kp (i + 1) r ⟨(d, ⟨[], .si .i64 (min m n : Nat)⟩) :: F, gs, (did, .vec e te.size n get') :: H, nx, D⟩) : FbO X ops Q Kn Kp i o r st := by
  refine fb_sem hX hC hi (by rw [hc]; intro c h; cases h) hg fun ρ a w hm => ?_
  have hs : GPsat a [] := fun x hx => by cases hx
  have e1 := ev_ok hm.fm hs h1
  have e2 := ev_ok hm.fm hs h2
  obtain ⟨A, c2, news, s1, s2, s3, s4, s5, s6⟩ := slice_src hm.hm h4 e2
  obtain ⟨nm, hn, hok⟩ := hm.hm.ok _ _ h3
  obtain ⟨hu, _, _⟩ := hX.tab t ti ht
  rw [hd] at hu
  rw [stK_eq] at h
  have hmn : (min m n) * te.size ≤ m * te.size := Nat.mul_le_mul_right _ (Nat.min_le_left _ _)
  have hmn2 : (min m n) * te.size ≤ n * te.size := Nat.mul_le_mul_right _ (Nat.min_le_right _ _)
  have hcl' : (news.take ((min m n) * te.size)).length = (min m n) * te.size := by rw [List.length_take]; omega
  have hfc : (Builtin.firstCells te.size (min m n) (a.eval x)).run X.P w = .ok (news.take ((min m n) * te.size)).toArray w := by
    rw [s1]
    cases A with
    | some ad => exact run_firstCells_some (P := X.P) w te.size (min m n) ad m c2 _ hcl' (fun j v hj => s6 ad rfl j v (by rw [List.getElem?_take] at hj; split at hj; exact hj; cases hj))
    | none =>
      have hm0 : m = 0 := by
        rcases Nat.eq_zero_or_pos m with h | h
        · exact h
        · obtain ⟨ad, h⟩ := s2 h; cases h
      subst hm0
      have : news = [] := List.eq_nil_of_length_eq_zero (by rw [s3]; simp)
      subst this
      simp [Builtin.firstCells]
  have hlen : (Builtin.lenOf (a.eval x)).run X.P w = .ok m w := by rw [s1]; rfl
  have hmin : Nat.min m n = min m n := rfl
  cases nm <;> simp only [HBok] at hok
  · obtain ⟨rfl, rfl, rfl, rfl, rfl⟩ := hok
    simp only [den, hn, Option.some.injEq] at e1
    have hrun : (Builtin.copy_ #[t, u] o.type #[a.eval s, a.eval x]).run X.P w = .ok (goInt (min m 0 : Nat)) w := by
      rw [← e1]
      simp [Builtin.copy_, Sem.run_bind, run_underlying hu, hlen, run_size hX.tab hte, hfc, Result.andThen, hmin]
      have := hfc
      simp only [Nat.min_zero] at this
      simp [this, Result.andThen]
    exact ⟨_, w, ρ, _, .inl (run_builtin2 hc hcl hca hct (fun _ _ => rfl) hrun), (hm.swap (hb' := .vec e te.size 0 get') h3 rfl hn ⟨rfl, rfl, rfl, rfl, rfl⟩ (fun _ _ _ h => by cases h)).put (d := o.dst) (s := .si .i64 (min m 0 : Nat)) (by rw [hdst]; exact hp) rfl, by rw [hdst]; exact h⟩
  · rename_i nb n2 cc s'
    obtain ⟨rfl, rfl, hle, cells, d5, d6, d7⟩ := hok
    simp only [den, hn, Option.some.injEq] at e1
    have hfit : (min m n2) * te.size ≤ cells.length := by
      have : n2 * te.size ≤ cc * te.size := Nat.mul_le_mul_right _ hle.1
      omega
    have hst := run_storeCells_at X.P nb 0 e (news.take ((min m n2) * te.size)) 0 cells.toArray w d5 (by simp only [List.size_toArray]; omega) (fun v hv => s4 v (List.mem_of_mem_take hv))
    simp only [Nat.zero_add, Nat.add_zero, List.take_zero, List.nil_append, List.toList_toArray] at hst
    have hrun : (Builtin.copy_ #[t, u] o.type #[a.eval s, a.eval x]).run X.P w = .ok (goInt (min m n2 : Nat)) (w.setRow nb (news.take ((min m n2) * te.size) ++ cells.drop ((news.take ((min m n2) * te.size)).length)).toArray) := by
      rw [← e1]
      simp [Builtin.copy_, Sem.run_bind, run_underlying hu, hlen, run_size hX.tab hte, hfc, Result.andThen, hmin, hst]
    have hnb := setRow_heap w nb cells.toArray (news.take ((min m n2) * te.size) ++ cells.drop ((news.take ((min m n2) * te.size)).length)).toArray e (0, 0) d5
    refine ⟨_, _, ρ, _, .inl (run_builtin2 hc hcl hca hct (fun _ _ => rfl) hrun), (hm.turned (hb' := .vec e te.size n2 get') h3 rfl hn rfl (size_setRow _ _ _) (fun k hk => heap_setRow _ _ _ _ hk) ?_ rfl (fun _ _ _ h => by cases h)).put (d := o.dst) (s := .si .i64 (min m n2 : Nat)) (by rw [hdst]; exact hp) rfl, by rw [hdst]; exact h⟩
    refine ⟨rfl, rfl, hle, _, hnb, by rw [List.length_append, List.length_drop, hcl']; omega, fun i hi => ?_⟩
    rw [hg' i hi]
    split
    · rename_i him
      have hb1 : (i + 1) * te.size ≤ (min m n2) * te.size := Nat.mul_le_mul_right _ (by omega)
      rw [Nat.add_mul] at hb1
      refine ⟨_, s5 i him, ?_, by simp only [List.length_take, List.length_drop, s3]; omega, fun j v hv => ?_⟩
      · rw [List.all_eq_true]
        exact fun x hx => s4 x (List.mem_of_mem_drop (List.mem_of_mem_take hx))
      · rw [List.getElem?_take] at hv
        split at hv
        · rw [List.getElem?_drop] at hv
          rw [List.getElem?_append_left (by rw [hcl']; omega), List.getElem?_take, if_pos (by omega)]
          exact hv
        · cases hv
    · rename_i him
      obtain ⟨vs, c1, c2', c3, c4⟩ := d7 i hi
      have hb1 : (min m n2) * te.size ≤ i * te.size := Nat.mul_le_mul_right _ (by omega)
      refine ⟨vs, c1, c2', c3, fun j v hv => ?_⟩
      rw [List.getElem?_append_right (by rw [hcl']; omega), List.getElem?_drop, hcl', ← c4 j v hv]
      congr 1; omega
end
end Go.X
end

section
set_option linter.unusedVariables false
set_option linter.unusedSimpArgs false
set_option linter.unusedSectionVars false
/- Ranges over functions: the loop, its rounds. -/
set_option linter.unusedVariables false
set_option linter.unusedSimpArgs false
set_option maxRecDepth 10000
namespace Go.X
open Go
def MARK : Nat := 1000000

/-- The slots that a round begins with. -/
def fvOf : List (Nat × FE) → List (Nat × SV)
  | [] => []
  | (t, e) :: r => match nilGP e.gp with
    | true => (t, e.v) :: fvOf r
    | false => fvOf r
def feOf : List (Nat × SV) → List (Nat × FE)
  | [] => []
  | (t, v) :: r => (t, ⟨[], v⟩) :: feOf r
theorem feOf_find : ∀ {l : List (Nat × SV)} {t : Nat} {e : FE}, findF (feOf l) t = some e → e.gp = [] ∧ findV l t = some e.v
  | [], t, e, h => by cases h
  | (s, v) :: r, t, e, h => by
    simp only [feOf, findF, findV] at h ⊢
    split at h
    · rename_i e1
      cases h; rw [if_pos e1]; exact ⟨rfl, rfl⟩
    · rename_i e1
      rw [if_neg e1]; exact feOf_find h
def uniqF : List (Nat × FE) → List Nat → Bool
  | [], _ => true
  | (t, e) :: r, seen => match nilGP e.gp, memN seen t with
    | true, _ => uniqF r (t :: seen)
    | false, true => uniqF r seen
    | false, false => false
/-- A guarded slot is passed over: what lies behind it is not the slot's. -/
theorem fvOf_find {seen : List Nat} : ∀ {F : List (Nat × FE)} {seen : List Nat} {t : Nat} {v : SV}, uniqF F seen = true → t ∉ seen → findV (fvOf F) t = some v → findF F t = some ⟨[], v⟩
  | [], _, t, v, _, _, h => by cases h
  | (s, e) :: r, seen, t, v, hu, hs, h => by
    simp only [uniqF] at hu
    simp only [fvOf] at h
    cases hg : nilGP e.gp with
    | true =>
      rw [hg] at hu h
      simp only [findV] at h
      simp only [findF]
      split at h
      · rename_i e1
        cases h
        rw [if_pos e1]
        obtain ⟨gp, v⟩ := e
        rw [show gp = [] from nilGP_eq hg]
      · rename_i e1
        rw [if_neg e1]
        exact fvOf_find (seen := []) hu (by
          intro hm
          rcases List.mem_cons.1 hm with rfl | hm
          · simp at e1
          · exact hs hm) h
    | false =>
      rw [hg] at hu h
      cases hm : memN seen s with
      | false => rw [hm] at hu; cases hu
      | true =>
        rw [hm] at hu
        have hne : s ≠ t := by rintro rfl; exact hs (memN_iff.1 hm)
        rw [findF_cons_ne _ _ hne]
        exact fvOf_find (seen := []) hu hs h

section
variable {X : Cx} {st : St}

def jumpK (X : Cx) (pd : Option Code) (st : St) (K : Ex → St → Prop) : Prop :=
  match pd with
  | none => K .normal st
  | some c => exec X c st K
/-- What follows when the function that was ranged over has returned. -/
def afterRange (X : Cx) (lid : Nat) (F : List (Nat × FE)) (gs : List Nat) (D : List SDef) (K : Ex → St → Prop) (H' : List (Nat × HB)) (nx' : Nat) : Prop :=
  match findH H' lid with
  | some (.loop _ _ _ _ _ _ _ s pd) => (match s with
    | .busy => False
    | _ => jumpK X pd ⟨F, gs, (lid, .dead) :: H', nx', D⟩ K)
  | _ => False

theorem rangeFunc_ok (hX : X.Ok) (hr : X.r = none) {g : Operand} {ps : Array Tmp} {assign body : Code} {K : Ex → St → Prop}
    (hu : uniqF st.F [] = true) {n : Nat} {first caps : List SV} (hg : ev (findF st.F) [] g = some (.fn (.func n) first caps)) (hbody : Body X.P n)
    (h : stK st fun F gs H nx D => natF (nx + 1) fun n1 => natF (nx + 2) fun n2 => ∀ fn : Nat, CallS X.P n (first ++ (.fy n1 :: caps)) ((n1, .loop (fvOf F) X.nt fn ps.toList assign body nx .ready none) :: (nx, .dfr) :: H) n2
      (fun v H' nx' => afterRange X n1 F gs ((MARK, [.sp nx 0]) :: D) K H' nx') (fun ch H' nx' => K (.panic ch) ⟨F, gs, H', nx', (MARK, [.sp nx 0]) :: D⟩)) : SemC X (.rangeFunc g ps assign body) st K := by
  intro ρ a w hm
  rw [stK_eq] at h
  simp only [natF_eq] at h
  have hs : GPsat a [] := fun x hx => by cases hx
  have hf := ev_ok hm.fm hs hg
  simp only [den] at hf
  cases d1 : denL ρ first with
  | none => simp [d1] at hf
  | some x =>
    cases d2 : denL ρ caps with
    | none => simp [d1, d2] at hf
    | some y =>
      simp only [d1, d2, Option.some.injEq] at hf
      refine wpIn_rangeFunc fun fn _ => ?_
      let w₁ := (w.alloc (.deferred (some []))).alloc (.loop { state := .ready, pending := none, fn := fn, tmps := a.tmps, params := ps, assign := assign, body := body, defers := w.heap.size })
      let ρ₁ := upd ρ st.nx (.blk w.heap.size)
      let ρ₂ := upd ρ₁ (st.nx + 1) (.blk (w.heap.size + 1))
      have hfn : ρ st.nx = none := hm.nx _ (Nat.le_refl _)
      have hfn1 : ρ₁ (st.nx + 1) = none := by
        show upd ρ st.nx _ _ = none
        rw [upd_ne _ _ (by omega)]; exact hm.nx _ (by omega)
      -- the block for deferred calls
      have m1 := hm.new (d := none) (s := .sb true) (v := undef) (hb := .dfr) (nm := .blk w.heap.size) (o := .deferred (some [])) rfl
      have hm1 : Mod X ρ₁ { st with H := (st.nx, .dfr) :: st.H, nx := st.nx + 1 } a (w.alloc (.deferred (some []))) := {
        fm := hm.fm.ext (Ext.upd _ hfn)
        gs := hm.gs
        df := hm.df.ext (Ext.upd _ hfn)
        hm := hm.hm.push hfn _ (by exact heap_alloc_new w _) (by intro b hb; simpa [Nm.owner] using hb.symm) (by intro b hb; cases hb)
        kp := hm.kp.push hfn _ (by intro b hb; simpa [Nm.owner] using hb.symm)
        nx := fun j hj => by
          have : st.nx + 1 ≤ j := hj
          show upd ρ st.nx _ j = none
          rw [upd_ne _ _ (by omega)]; exact hm.nx j (by omega)
        sz := hm.sz }
      have hsz1 : (w.alloc (.deferred (some []))).heap.size = w.heap.size + 1 := size_alloc _ _
      have hm2 : Mod X ρ₂ { st with H := (st.nx + 1, .loop (fvOf st.F) X.nt fn ps.toList assign body st.nx .ready none) :: (st.nx, .dfr) :: st.H, nx := st.nx + 2 } a w₁ := {
        fm := hm1.fm.ext (Ext.upd _ hfn1)
        gs := hm.gs
        df := hm1.df.ext (Ext.upd _ hfn1)
        hm := by
          refine hm1.hm.push (id := st.nx + 1) hfn1 _ ?_ (by intro b hb; rw [hsz1]; simpa [Nm.owner] using hb.symm) (by intro b hb; cases hb)
          refine ⟨a.tmps, w.heap.size, ?_, ?_, hm.sz, fun t v hv => ?_⟩
          · show upd ρ₁ _ _ st.nx = _
            rw [upd_ne _ _ (by omega)]; exact upd_self _ _ _
          · have := heap_alloc_new (w.alloc (.deferred (some []))) (.loop { state := .ready, pending := none, fn := fn, tmps := a.tmps, params := ps, assign := assign, body := body, defers := w.heap.size })
            rw [hsz1] at this
            exact this
          · have hfv := fvOf_find (seen := []) hu (by simp) hv
            obtain ⟨u, u1, u2⟩ := (hm.fm t _ hfv).1 hs
            exact ⟨u, u1, den_ext (Ext.upd _ hfn1) _ _ (den_ext (Ext.upd _ hfn) _ _ u2)⟩
        kp := hm1.kp.push hfn1 _ (by intro b hb; rw [hsz1]; simpa [Nm.owner] using hb.symm)
        nx := fun j hj => by
          have : st.nx + 2 ≤ j := hj
          show upd ρ₁ _ _ j = none
          rw [upd_ne _ _ (by omega)]
          show upd ρ _ _ j = none
          rw [upd_ne _ _ (by omega)]; exact hm.nx j (by omega)
        sz := hm.sz }
      have hargs : denL ρ₂ (first ++ (.fy (st.nx + 1) :: caps)) = some (x ++ (.func (.yield (w.heap.size + 1)) #[] #[] :: y)) := by
        refine denL_append (denL_ext (Ext.upd _ hfn1) _ _ (denL_ext (Ext.upd _ hfn) _ _ d1)) (denL_mk ?_ (denL_ext (Ext.upd _ hfn1) _ _ (denL_ext (Ext.upd _ hfn) _ _ d2)))
        simp only [den, upd_self]
        show (match upd ρ₁ (st.nx + 1) _ (st.nx + 1) with | some (.blk nm) => _ | _ => none) = _
        rw [upd_self]
      have hcall := h fn ρ₂ w₁ _ hm2.hm hm2.nx hargs
      refine ⟨w.heap.size + 1, [{ target := .collected w.heap.size, args := #[] }], w₁, { target := .fn (.func n) y.toArray, args := x.toArray ++ #[.func (.yield (w.heap.size + 1)) #[] #[]] }, w₁, n,
        (x ++ (.func (.yield (w.heap.size + 1)) #[] #[] :: y)).toArray, w₁, ?_, ?_, fun _ _ => trivial, ?_, (fun h => by rw [FW_depth] at h; cases h), calls_fw (hcall.mono ?_)⟩
      · rw [FW_round, hr]
        exact run_enterLoop_outer (P := X.P) fn a.tmps ps assign body
      · have hmap : Array.map a.eval #[Operand.const (Value.func (Fn.yield (w.heap.size + 1)) #[] #[])] = #[Value.func (Fn.yield (w.heap.size + 1)) #[] #[]] := by
          simp only [List.map_toArray, List.map_cons, List.map_nil]; rfl
        simp only [resolve, ← hf, rangeCall]
        rw [hmap]; rfl
      · simp only [invoke]
        have he : (x.toArray ++ #[Value.func (.yield (w.heap.size + 1)) #[] #[]] ++ y.toArray) = (x ++ (.func (.yield (w.heap.size + 1)) #[] #[] :: y)).toArray := by
          apply Array.ext'; simp
        rw [he]
        exact hbody _ _
      · have hdf : ∀ ρ', Ext ρ₂ ρ' → DefOk ρ' ([{ target := .collected w.heap.size, args := #[] }] ++ a.defers) ((MARK, [.sp st.nx 0]) :: st.D) := by
          intro ρ' hx
          refine ⟨⟨[.pointer (some ⟨w.heap.size, 0, none⟩)], ?_, rfl⟩, hm2.df.ext hx⟩
          have h0 : ρ₂ st.nx = some (.blk w.heap.size) := by
            show upd ρ₁ _ _ st.nx = _
            rw [upd_ne _ _ (by omega)]; exact upd_self _ _ _
          simp [denL, den, hx _ _ h0]
        rintro e w' (⟨v, H', nx', ρ', u, rfl, h1, h2, h3, h4, h5⟩ | ⟨ch, H', nx', ρ', rfl, h2, h3, h4, h5⟩)
        · have hm3 := hm2.call h2 h3 h4
          unfold afterRange at h5
          split at h5
          · rename_i Fl ntl fnl psl al bl dbl s pd hfl
            obtain ⟨nml, k1, k2⟩ := h2.ok _ _ hfl
            cases nml <;> simp only [HBok] at k2
            rename_i lb
            have hlb : lb = w.heap.size + 1 := by
              have := h3.ext (st.nx + 1) (.blk (w.heap.size + 1)) (upd_self _ _ _)
              rw [this] at k1; cases k1; rfl
            subst hlb
            obtain ⟨tmps, dnm, k3, k4, k5, k6⟩ := k2
            have hbusy : s ≠ .busy := by rintro rfl; exact h5
            refine ⟨pd, _, run_endLoop (P := X.P) k4 (by simpa using hbusy), ?_⟩
            -- the record is dead
            have hk := hm3.kill hfl
            have hm4 : Mod X ρ' ⟨st.F, st.gs, (st.nx + 1, .dead) :: H', nx', (MARK, [.sp st.nx 0]) :: st.D⟩ { a with defers := [{ target := .collected w.heap.size, args := #[] }] ++ a.defers }
                (w'.putObj (w.heap.size + 1) (.loop { state := .exhausted, pending := pd, fn := fnl, tmps := tmps, params := psl.toArray, assign := al, body := bl, defers := dnm })) := by
              have hno : ¬ Own ρ' (findH ((st.nx + 1, .dead) :: H')) (w.heap.size + 1) := by
                intro ho
                obtain ⟨i', x', nm', q0, q1, q2, q3, q4⟩ := Own.kill ho
                exact q0 (h2.sep i' (st.nx + 1) x' _ nm' _ _ q1 hfl q2 rfl q3 k1 q4 rfl)
              have hnr : ∀ j size n get nm, findH ((st.nx + 1, .dead) :: H') j = some (.ro size n get) → 0 < n → ρ' j = some nm → roBlock nm ≠ some (w.heap.size + 1) := by
                intro j size n get nm hj hn hr' hb
                have hj' : findH H' j = some (.ro size n get) := by
                  rw [findH_cons] at hj
                  by_cases e : st.nx + 1 = j
                  · subst e; rw [updL_self] at hj; cases hj
                  · rw [updL_ne _ _ e] at hj; exact hj
                exact h2.ro j size n get nm _ hj' hn hr' hb ⟨_, _, _, hfl, rfl, k1, rfl⟩
              have hnz : ¬ Fz (findH ((st.nx + 1, .dead) :: H')) (w.heap.size + 1) := fun hz => h2.fam _ (hz.upd fun s C h => by cases h) ⟨_, _, _, hfl, rfl, k1, rfl⟩
              have hG : X.G.M (w.heap.size + 1) ∨ X.G.w0.heap.size ≤ w.heap.size + 1 := .inr (by have := hm.kp.size; omega)
              exact {
                fm := hk.fm
                gs := hm.gs
                df := hdf ρ' h3.ext
                hm := {
                  ok := fun j hb hj => by
                    obtain ⟨nm', g1, g2⟩ := hk.hm.ok j hb hj
                    refine ⟨nm', g1, HBok_world (by rw [World.putObj_size]; exact Nat.le_refl _) ?_ ?_ ?_ g2⟩
                    · intro hl c hc
                      exact World.putObj_heap_other (fun e => hno (e ▸ ⟨j, hb, nm', hj, hl, g1, hc⟩))
                    · intro size n get c ex hn0 hrb
                      subst ex
                      exact World.putObj_heap_other (fun e => hnr j size n get nm' hj hn0 g1 (e ▸ hrb))
                    · intro size C v n get c ex hc hn0 hrb
                      subst ex
                      exact World.putObj_heap_other (fun e => hnz (e ▸ ⟨j, size, C, v, n, get, hj, hc, hn0, hrb⟩))
                  sep := hk.hm.sep
                  ro := hk.hm.ro
                  fam := hk.hm.fam }
                kp := {
                  str := hk.kp.str.trans ⟨rfl, rfl⟩
                  size := by rw [World.putObj_size]; exact hk.kp.size
                  same := fun b hb hnM => by
                    rw [World.putObj_heap_other (fun e => by subst e; have := hm.kp.size; omega)]
                    exact hk.kp.same b hb hnM
                  own := hk.kp.own
                  ext := hk.kp.ext
                  fz := hk.kp.fz }
                nx := h4
                sz := hm.sz }
            cases pd with
            | none =>
              have h6 : K .normal ⟨st.F, st.gs, (st.nx + 1, .dead) :: H', nx', (MARK, [.sp st.nx 0]) :: st.D⟩ := by cases s <;> first | exact h5 | exact h5.elim
              exact ⟨.normal, _, ρ', rfl, hm4, h6⟩
            | some c =>
              have h6 : exec X c ⟨st.F, st.gs, (st.nx + 1, .dead) :: H', nx', (MARK, [.sp st.nx 0]) :: st.D⟩ K := by cases s <;> first | exact h5 | exact h5.elim
              exact exec_ok hX c _ _ h6 ρ' _ _ hm4
          · exact h5.elim
        · have hm3 := hm2.call h2 h3 h4
          refine ⟨.panic ch, ⟨st.F, st.gs, H', nx', (MARK, [.sp st.nx 0]) :: st.D⟩, ρ', rfl, ?_, h5⟩
          exact {
            fm := hm3.fm
            gs := hm.gs
            df := hdf ρ' h3.ext
            hm := hm3.hm
            kp := hm3.kp
            nx := h4
            sz := hm.sz }
end
end Go.X
end

section
set_option linter.unusedVariables false
set_option linter.unusedSimpArgs false
set_option linter.unusedSectionVars false
/- Ranges over functions: calls of yield; functions that hold such a range. -/
set_option linter.unusedVariables false
set_option linter.unusedSimpArgs false
set_option maxRecDepth 10000
namespace Go.X
open Go

/-- yield's arguments in their slots. -/
def putArgs : List Nat → List SV → List (Nat × SV) → Option (List (Nat × SV))
  | [], [], l => some l
  | p :: ps, x :: xs, l => putArgs ps xs ((p, x) :: l)
  | _, _, _ => none

def isLoopAt (H : LH) (lid : Nat) (s : LoopState) (K : (nt fn : Nat) → List Nat → Code → Code → Nat → List (Nat × SV) → Option Code → Prop) : Prop :=
  match H lid with
  | some (.loop F nt fn ps a b db s' pd) => (match s, s' with
    | .ready, .ready => K nt fn ps a b db F pd
    | .busy, .busy => K nt fn ps a b db F pd
    | _, _ => False)
  | _ => False

/-- The end of a round: back in the function that called yield. -/
def roundK (lid : Nat) (F : List (Nat × FE)) (gs : List Nat) (D : List SDef) (d : Option Nat) (K : St → Prop) : Ex → St → Prop
  | .normal, st => isLoopAt (findH st.H) lid .busy fun nt fn ps a b db Fl pd => putSt ⟨F, gs, st.H, st.nx, D⟩ d (.sb true) ((lid, .loop Fl nt fn ps a b db .ready none) :: st.H) st.nx K
  | .ret, st => isLoopAt (findH st.H) lid .busy fun nt fn ps a b db Fl pd => putSt ⟨F, gs, st.H, st.nx, D⟩ d (.sb false) ((lid, .loop Fl nt fn ps a b db .done (some .ret)) :: st.H) st.nx K
  | .exit n, st => isLoopAt (findH st.H) lid .busy fun nt fn ps a b db Fl pd => putSt ⟨F, gs, st.H, st.nx, D⟩ d (.sb false) ((lid, .loop Fl nt fn ps a b db .done (some (.exit n))) :: st.H) st.nx K
  | .panic _, _ => False

def bodyK (X : Cx) (lid : Nat) (body : Code) (K : Ex → St → Prop) : Ex → St → Prop
  | .normal, st => isLoopAt (findH st.H) lid .ready fun nt fn ps a b db Fl pd => exec X body ⟨st.F, st.gs, (lid, .loop Fl nt fn ps a b db .busy pd) :: st.H, st.nx, st.D⟩ K
  | _, _ => False

def roundX (X : Cx) (nt lid : Nat) (a b : Code) (l : List (Nat × SV)) (H : List (Nat × HB)) (nx n0 : Nat) (K : Ex → St → Prop) : Prop :=
  ∀ (G : Base) (r : Option Nat), (∀ j, n0 ≤ j → G.ρ j = none) → exec ⟨X.P, X.T, X.C, G, r, nt⟩ a ⟨feOf l, [], H, nx, []⟩ (bodyK ⟨X.P, X.T, X.C, G, r, nt⟩ lid b K)

section
variable {X : Cx} {st : St}

theorem putArgs_ok {ρ : Env} : ∀ {ps : List Nat} {xs : List SV} {vs : List Value} {l l' : List (Nat × SV)} {tmps : Array Value}, putArgs ps xs l = some l' → denL ρ xs = some vs → (∀ p ∈ ps, p < tmps.size) →
    (∀ t v, findV l t = some v → ∃ u, tmps[t]? = some u ∧ den ρ v = some u) →
    ((ps.zip vs).foldl (fun (t : Array Value) (x : Nat × Value) => t.setIfInBounds x.1 x.2) tmps).size = tmps.size ∧ ∀ t v, findV l' t = some v → ∃ u, ((ps.zip vs).foldl (fun (t : Array Value) (x : Nat × Value) => t.setIfInBounds x.1 x.2) tmps)[t]? = some u ∧ den ρ v = some u
  | [], [], vs, l, l', tmps, h, hd, _, hl => by
    simp only [putArgs] at h; cases h
    simp only [denL] at hd; cases hd
    exact ⟨rfl, hl⟩
  | p :: ps, x :: xs, vs, l, l', tmps, h, hd, hp, hl => by
    obtain ⟨v, us, d1, d2, rfl⟩ := denL_cons hd
    simp only [putArgs] at h
    have hlt := hp p List.mem_cons_self
    have := putArgs_ok (tmps := tmps.setIfInBounds p v) h d2 (fun q hq => by rw [Array.size_setIfInBounds]; exact hp q (List.mem_cons_of_mem _ hq)) (fun t u hu => by
      simp only [findV] at hu
      split at hu
      · rename_i e
        have : p = t := by simpa using e
        subst this; cases hu
        exact ⟨v, by simp [hlt], d1⟩
      · rename_i e
        have hne : p ≠ t := by rintro rfl; simp at e
        obtain ⟨u', h1, h2⟩ := hl t u hu
        exact ⟨u', by rw [Array.getElem?_setIfInBounds_ne hne]; exact h1, h2⟩)
    simp only [List.zip_cons_cons, List.foldl_cons]
    rw [Array.size_setIfInBounds] at this
    exact this
  | [], _ :: _, _, _, _, _, h, _, _, _ => by simp [putArgs] at h
  | _ :: _, [], _, _, _, _, h, _, _, _ => by simp [putArgs] at h

theorem isLoopAt_ok {H : LH} {lid : Nat} {s : LoopState} {K : (nt fn : Nat) → List Nat → Code → Code → Nat → List (Nat × SV) → Option Code → Prop} (h : isLoopAt H lid s K) :
    ∃ F nt fn ps a b db pd, H lid = some (.loop F nt fn ps a b db s pd) ∧ K nt fn ps a b db F pd := by
  unfold isLoopAt at h
  split at h
  · split at h
    · exact ⟨_, _, _, _, _, _, _, _, by assumption, h⟩
    · exact ⟨_, _, _, _, _, _, _, _, by assumption, h⟩
    · exact h.elim
  · exact h.elim

/-- The record is turned. -/
theorem Mod.reloop {ρ : Env} {a : Act} {w : World} (hm : Mod X ρ st a w) {lid lb : Nat} (hl : ρ lid = some (.blk lb)) {F : List (Nat × SV)} {nt fn db : Nat} {ps : List Nat} {asg bo : Code} {s : LoopState} {pd : Option Code}
    (hf : findH st.H lid = some (.loop F nt fn ps asg bo db s pd)) : ∃ r : Loop, w.heap[lb]? = some (.loop r) ∧ r.state = s ∧ ∀ (s' : LoopState) (pd' : Option Code),
      Mod X ρ ⟨st.F, st.gs, (lid, .loop F nt fn ps asg bo db s' pd') :: st.H, st.nx, st.D⟩ a (w.putObj lb (.loop { r with state := s', pending := pd' })) := by
  obtain ⟨nm, k1, k2⟩ := hm.hm.ok _ _ hf
  rw [hl] at k1; cases k1
  obtain ⟨tmps, dnm, k3, k4, k5, k6⟩ := k2
  have hlt : lb < w.heap.size := by
    rcases Nat.lt_or_ge lb w.heap.size with h | h
    · exact h
    · rw [Array.getElem?_eq_none h] at k4; cases k4
  refine ⟨_, k4, rfl, fun s' pd' => ?_⟩
  exact hm.turned (hb' := .loop F nt fn ps asg bo db s' pd') hf rfl hl rfl World.putObj_size (fun k hk => World.putObj_heap_other hk) ⟨tmps, dnm, k3, World.putObj_heap_same hlt, k5, k6⟩ rfl (fun _ _ _ h => by cases h)

theorem fb_yield (lid : Nat) {ops : List Oper} {i : Nat} {o : Oper} {r : List Oper} {Q : Exit → Act → World → Prop} {K : St → Prop} {Kp : List PanicEntry → St → Prop} {c : Call} {g : Operand} {args : List SV} {Fl l' : List (Nat × SV)} {nt fn db : Nat} {ps : List Nat} {asg bo : Code} {pd : Option Code}
    (hX : ∀ G r nt, (⟨X.P, X.T, X.C, G, r, nt⟩ : Cx).Ok) (hX0 : X.Ok)
    (hC : Cont X Q K Kp) (hi : ops.drop i = o :: r) (hc : o.op = .call c) (hcl : c.callee = .value g) (hg : o.guard = none) (hp : putN st.gs X.nt o.dst = false)
    (h1 : ev (findF st.F) [] g = some (.fy lid)) (h2 : argsOf (findF st.F) [] c.args.toList = some args) (h3 : findH st.H lid = some (.loop Fl nt fn ps asg bo db .ready pd)) (h4 : putArgs ps args Fl = some l') (hps : ∀ p ∈ ps, p < nt)
    (h : stK st fun F gs H nx D => roundX X nt lid asg bo l' H nx nx (roundK lid F gs D o.dst (execL X ops Q K Kp (i + 1) r))) : FbO X ops Q K Kp i o r st := by
  refine ⟨fun ρ a w hm => ?_⟩
  have hs : GPsat a [] := fun x hx => by cases hx
  have e1 := ev_ok hm.fm hs h1
  have e2 := argsOf_ok hm.fm hs h2
  obtain ⟨nm, hn, hok⟩ := hm.hm.ok _ _ h3
  cases nm <;> simp only [HBok] at hok
  rename_i lb
  obtain ⟨tmps, dnm, k3, k4, k5, k6⟩ := hok
  simp only [den, hn, Option.some.injEq] at e1
  obtain ⟨hsz, hfv⟩ := putArgs_ok (ρ := ρ) (tmps := tmps) h4 e2 (fun p hp' => by rw [k5]; exact hps p hp') k6
  have hlen : (c.args.toList.map a.eval).length = ps.length := by
    have : ∀ (ps : List Nat) (xs : List SV) (l l' : List (Nat × SV)), putArgs ps xs l = some l' → xs.length = ps.length := by
      intro ps
      induction ps with
      | nil => intro xs l l' h; cases xs with | nil => rfl | cons _ _ => simp [putArgs] at h
      | cons p ps ih => intro xs l l' h; cases xs with | nil => simp [putArgs] at h | cons x xs => simp only [putArgs] at h; simp [ih _ _ _ h]
    rw [denL_len e2, this _ _ _ _ h4]
  have hrun : (execOp a.eval o).run X.P w = .ok (.round lb fn ((ps.zip (c.args.toList.map a.eval)).foldl (fun (t : Array Value) (x : Nat × Value) => t.setIfInBounds x.1 x.2) tmps) asg bo) w := by
    have hres : (resolve a.eval c o.type).run X.P w = .ok { target := .fn (.yield lb) #[], args := c.args.map a.eval } w := by
      simp only [resolve, hcl, ← e1]
      simp [Deferred.ofValue]
    have hy := run_yield (P := X.P) (l := lb) (args := c.args.map a.eval) k4 (by simpa using hlen)
    simp only [execOp, hc, Sem.run_bind, hres, Result.andThen, invoke]
    rw [hy]
    congr 2
    simp only []
    rw [← Array.foldl_toList]
    simp [Array.toList_zip]
  have ho : ops[i]? = some o := by
    have := congrArg (fun l => l[0]?) hi
    simpa using this
  have hd' : ops.drop (i + 1) = r := by
    have := congrArg List.tail hi
    simpa using this
  rw [List.range'_succ]
  refine wpOps_cons (by simpa using ho) (fun _ => ?_) (fun hw => by rw [guard_none hg] at hw; cases hw)
  refine ⟨(fun f _ => FW_fn X.r f), ?_⟩
  have hsem : (o.semAt (FW X.r).round a.eval).run X.P w = (execOp a.eval o).run X.P w := by
    rw [FW_round]
    cases hr : X.r with
    | none => rw [Oper.semAt_none]
    | some l0 => simp only [Oper.semAt, hc]
  rw [hsem, hrun, Oper.uponIn_round]
  refine ⟨(fun h => by rw [FW_depth] at h; cases h), ?_⟩
  -- the round
  rw [stK_eq] at h
  have hex := h ⟨w, Own ρ (findH st.H), ρ, Fz (findH st.H)⟩ (some lb) hm.nx
  have hm0 : Mod ⟨X.P, X.T, X.C, ⟨w, Own ρ (findH st.H), ρ, Fz (findH st.H)⟩, some lb, nt⟩ ρ ⟨feOf l', [], st.H, st.nx, []⟩ { tmps := (ps.zip (c.args.toList.map a.eval)).foldl (fun (t : Array Value) (x : Nat × Value) => t.setIfInBounds x.1 x.2) tmps, defers := [] } w := {
    fm := fun t e hf => by
      obtain ⟨g1, g2⟩ := feOf_find hf
      refine ⟨fun _ => hfv t _ g2, fun hng => absurd (show GPsat _ e.gp by rw [g1]; intro x hx; cases hx) hng⟩
    gs := fun t e hf x hx => by rw [(feOf_find hf).1] at hx; cases hx
    df := trivial
    hm := hm.hm
    kp := ⟨Str.refl _, Nat.le_refl _, fun _ _ _ => rfl, fun b ho => .inl ho, Ext.refl _, fun b hz => .inr (.inr hz)⟩
    nx := hm.nx
    sz := by rw [hsz, k5] }
  have hw := exec_ok (hX _ _ _) asg _ _ hex ρ _ w hm0
  refine roundIn_of_wpIn (F := FW X.r) (FW_fn _ _) (wpIn_mono hw ?_)
  rintro e a₁ w₁ ⟨x, st1, ρ1, rfl, hm1, hk⟩
  cases x with
  | normal =>
    obtain ⟨Fl1, nt1, fn1, ps1, a1, b1, db1, pd1, hf1, hex1⟩ := isLoopAt_ok hk
    have hl1 : ρ1 lid = some (.blk lb) := hm1.kp.ext _ _ hn
    obtain ⟨r1, hr1, hst1, hmod1⟩ := hm1.reloop hl1 hf1
    refine ⟨_, run_beginRound (P := X.P) hr1 hst1, ?_⟩
    have hpd : r1.pending = pd1 := by
      obtain ⟨nm, j1, j2⟩ := hm1.hm.ok _ _ hf1
      rw [hl1] at j1; cases j1
      obtain ⟨tm, dn, _, j4, _⟩ := j2
      rw [hr1] at j4; cases j4; rfl
    have hm1b := hmod1 .busy pd1
    have he : ({ r1 with state := LoopState.busy, pending := pd1 } : Loop) = { r1 with state := LoopState.busy } := by rw [← hpd]
    rw [he] at hm1b
    refine wpIn_mono (exec_ok (hX _ _ _) bo _ _ hex1 ρ1 a₁ _ hm1b) ?_
    rintro e a₂ w₂ ⟨x, st2, ρ2, rfl, hm2, hk2⟩
    have fin : ∀ (jump : Option Code) (nt2 fn2 : Nat) (ps2 : List Nat) (a2 b2 : Code) (db2 : Nat) (Fl2 : List (Nat × SV)) (pd2 : Option Code), findH st2.H lid = some (.loop Fl2 nt2 fn2 ps2 a2 b2 db2 .busy pd2) →
        putSt ⟨st.F, st.gs, st2.H, st2.nx, st.D⟩ o.dst (.sb jump.isNone) ((lid, .loop Fl2 nt2 fn2 ps2 a2 b2 db2 (if jump.isNone then .ready else .done) jump) :: st2.H) st2.nx (execL X ops Q K Kp (i + 1) r) →
        ∃ v w', (Instr.endRound lb jump).run X.P w₂ = .ok v w' ∧ wpOpsIn (FW X.r) 0 X.P ops.toArray Q (List.range' (i + 1) r.length) (a.put o.dst v) w' := by
      intro jump nt2 fn2 ps2 a2 b2 db2 Fl2 pd2 hf2 hk3
      have hl2 : ρ2 lid = some (.blk lb) := hm2.kp.ext _ _ hn
      obtain ⟨r2, hr2, hst2, hmod2⟩ := hm2.reloop hl2 hf2
      have hm3 := hmod2 (if jump.isNone then .ready else .done) jump
      refine ⟨_, _, run_endRound (P := X.P) jump hr2, ?_⟩
      have hm4 := (hm.call (H' := (lid, .loop Fl2 nt2 fn2 ps2 a2 b2 db2 (if jump.isNone then .ready else .done) jump) :: st2.H) (nx' := st2.nx) hm3.hm hm3.kp hm3.nx).put (d := o.dst) (s := .sb jump.isNone) hp rfl
      cases hdst : o.dst with
      | none => rw [hdst] at hm4 hk3; exact execL_ok hX0 hC.k hC.p r (i + 1) ρ2 _ _ _ hd' hk3 hm4
      | some d => rw [hdst] at hm4 hk3; exact execL_ok hX0 hC.k hC.p r (i + 1) ρ2 _ _ _ hd' hk3 hm4
    cases x with
    | normal =>
      obtain ⟨Fl2, nt2, fn2, ps2, a2, b2, db2, pd2, hf2, hk3⟩ := isLoopAt_ok hk2
      exact fin none _ _ _ _ _ _ _ _ hf2 hk3
    | ret =>
      obtain ⟨Fl2, nt2, fn2, ps2, a2, b2, db2, pd2, hf2, hk3⟩ := isLoopAt_ok hk2
      exact fin (some .ret) _ _ _ _ _ _ _ _ hf2 hk3
    | exit n =>
      obtain ⟨Fl2, nt2, fn2, ps2, a2, b2, db2, pd2, hf2, hk3⟩ := isLoopAt_ok hk2
      exact fin (some (.exit n)) _ _ _ _ _ _ _ _ hf2 hk3
    | panic ch => exact hk2.elim
  | ret => exact hk.elim
  | exit n => exact hk.elim
  | panic ch => exact hk.elim
end
end Go.X
end

section
set_option linter.unusedVariables false
set_option linter.unusedSimpArgs false
set_option linter.unusedSectionVars false
/- Functions that hold a range over a function. -/
set_option linter.unusedVariables false
set_option linter.unusedSimpArgs false
set_option maxRecDepth 10000
namespace Go.X
open Go
section
variable {X : Cx} {st : St} {ρ : Env} {a : Act} {w : World}

/-- A piece dies, and its block is turned. -/
theorem Mod.killAt (hm : Mod X ρ st a w) {id b : Nat} {hb : HB} {nm : Nm} (hf : findH st.H id = some hb) (hl : hb.live = true) (hn : ρ id = some nm) (ho : nm.owner = some b) {w' : World}
    (hs : w'.heap.size = w.heap.size) (hk : ∀ k, k ≠ b → w'.heap[k]? = w.heap[k]?) (hst : Str w w' := by exact ⟨rfl, rfl⟩) : Mod X ρ { st with H := (id, .dead) :: st.H } a w' := by
  have hk' := hm.kill hf
  have hno : ¬ Own ρ (findH ((id, .dead) :: st.H)) b := by
    intro hO
    obtain ⟨i', x', nm', q0, q1, q2, q3, q4⟩ := Own.kill hO
    exact q0 (hm.hm.sep i' id x' _ nm' _ _ q1 hf q2 hl q3 hn q4 ho)
  have hnr : ∀ j size n get nm, findH ((id, .dead) :: st.H) j = some (.ro size n get) → 0 < n → ρ j = some nm → roBlock nm ≠ some b := by
    intro j size n get nm' hj hn' hr' hb'
    have hj' : findH st.H j = some (.ro size n get) := by
      rw [findH_cons] at hj
      by_cases e : id = j
      · subst e; rw [updL_self] at hj; cases hj
      · rw [updL_ne _ _ e] at hj; exact hj
    exact hm.hm.ro j size n get nm' _ hj' hn' hr' hb' ⟨_, _, _, hf, hl, hn, ho⟩
  have hnz : ¬ Fz (findH ((id, .dead) :: st.H)) b := fun hz => hm.hm.fam _ (hz.upd fun s C h => by cases h) ⟨_, _, _, hf, hl, hn, ho⟩
  exact {
    fm := hm.fm
    gs := hm.gs
    df := hm.df
    hm := {
      ok := fun j hb' hj => by
        obtain ⟨nm', g1, g2⟩ := hk'.hm.ok j hb' hj
        refine ⟨nm', g1, HBok_world (by omega) ?_ ?_ ?_ g2⟩
        · intro hl' c hc
          exact hk _ (fun e => hno (e ▸ ⟨j, hb', nm', hj, hl', g1, hc⟩))
        · intro size n get c ex hn0 hrb
          subst ex
          exact hk _ (fun e => hnr j size n get nm' hj hn0 g1 (e ▸ hrb))
        · intro size C v n get c ex hc hn0 hrb
          subst ex
          exact hk _ (fun e => hnz (e ▸ ⟨j, size, C, v, n, get, hj, hc, hn0, hrb⟩))
      sep := hk'.hm.sep
      ro := hk'.hm.ro
      fam := hk'.hm.fam }
    kp := {
      str := hm.kp.str.trans hst
      size := by rw [hs]; exact hm.kp.size
      same := fun c hc hnM => by
        rw [hk c (fun e => by
          subst e
          rcases hm.kp.own c ⟨id, hb, nm, hf, hl, hn, ho⟩ with h | h
          · exact hnM h
          · omega)]
        exact hm.kp.same c hc hnM
      own := hk'.kp.own
      ext := hm.kp.ext
      fz := hk'.kp.fz }
    nx := hm.nx
    sz := hm.sz }

/-- The marks are come to. -/
def killM : List SDef → List (Nat × HB) → Option (List (Nat × HB))
  | [], H => some H
  | (f, [.sp id 0]) :: r, H => match Nat.beq f 1000000, findH H id with
    | true, some .dfr => killM r ((id, .dead) :: H)
    | _, _ => none
  | _ :: _, _ => none

/-- What is asked at the ends of a body that holds a range over a function. -/
def FinM (X : Cx) (rs : List ResultVar) (Rv : SV → St → Prop) (Rp : List PanicEntry → St → Prop) : Ex → St → Prop
  | .normal, st => (match resAll X st rs, killM st.D st.H with
    | some l, some H' => fSVL l fun l' => Rv (resV l') ⟨st.F, st.gs, H', st.nx, []⟩
    | _, _ => False)
  | .ret, st => (match resAll X st rs, killM st.D st.H with
    | some l, some H' => fSVL l fun l' => Rv (resV l') ⟨st.F, st.gs, H', st.nx, []⟩
    | _, _ => False)
  | .panic ch, st => (match killM st.D st.H with
    | some H' => Rp ch ⟨st.F, st.gs, H', st.nx, []⟩
    | none => False)
  | .exit _, _ => False

theorem killM_cons {f : Nat} {args : List SV} {r : List SDef} {H H' : List (Nat × HB)} (h : killM ((f, args) :: r) H = some H') :
    ∃ id, args = [.sp id 0] ∧ Nat.beq f 1000000 = true ∧ findH H id = some .dfr ∧ killM r ((id, .dead) :: H) = some H' := by
  unfold killM at h
  split at h
  · rename_i heq; cases heq
  · rename_i heq
    cases heq
    split at h
    · exact ⟨_, rfl, by assumption, by assumption, h⟩
    · cases h
  · cases h

theorem leavesM {P : Program} {fn : Func} {R : Ending → World → Prop} {u : FrameMode} (hu : u ≠ .run) {F : List (Nat × FE)} {gs : List Nat} {nx : Nat} {H' : List (Nat × HB)} : ∀ {D : List SDef} {H : List (Nat × HB)} {a : Act} {w : World},
    killM D H = some H' → Mod X ρ ⟨F, gs, H, nx, D⟩ a w → (∀ w'', Mod X ρ ⟨F, gs, H', nx, []⟩ { a with defers := [] } w'' → LeavesIn Fence.wide 0 P fn a.tmps R [] u w'') →
    LeavesInM Fence.wide 0 P fn a.tmps R a.defers u w
  | [], H, a, w, hk, hm, hfin => by
    simp only [killM] at hk; cases hk
    have hd : a.defers = [] := DefOk_nil hm.df
    rw [hd]
    refine hfin w ?_
    have : ({ a with defers := [] } : Act) = a := by cases a; simp only at hd; subst hd; rfl
    rw [this]; exact hm
  | (f, args) :: r, H, a, w, hk, hm, hfin => by
    have hdf := hm.df
    cases hds : a.defers with
    | nil => rw [hds] at hdf; exact hdf.elim
    | cons d ds =>
      rw [hds] at hdf
      obtain ⟨⟨vals, h1, h2⟩, h3⟩ := hdf
      obtain ⟨id, rfl, e1, e2, hk⟩ := killM_cons hk
      obtain ⟨v, vs, g1, g2, rfl⟩ := denL_cons h1
      simp only [denL, Option.some.injEq] at g2
      subst g2
      obtain ⟨b, hb, rfl⟩ := den_sp g1
      have hd : d = { target := .collected b, args := #[] } := by rw [h2]; simp only [mkDef, e1]
      obtain ⟨nm, k1, k2⟩ := hm.hm.ok _ _ e2
      rw [hb] at k1; cases k1
      refine ⟨hu, .inl ⟨b, _, by rw [hd], run_takeDeferred (P := P) k2, ?_⟩⟩
      have hm1 := hm.killAt (w' := w.putObj b (.deferred none)) e2 rfl hb rfl World.putObj_size (fun k hk => World.putObj_heap_other hk)
      have hm2 : Mod X ρ ⟨F, gs, (id, .dead) :: H, nx, r⟩ { a with defers := ds } (w.putObj b (.deferred none)) := {
        fm := hm1.fm, gs := hm1.gs, df := h3, hm := hm1.hm, kp := hm1.kp, nx := hm1.nx, sz := hm1.sz }
      exact leavesM hu (a := { a with defers := ds }) hk hm2 (fun w'' q3 => hfin w'' q3)

theorem killM_cells : ∀ (D : List SDef) (H H' : List (Nat × HB)), killM D H = some H' → ∀ id T cs, findH H id = some (.cells T cs) → findH H' id = some (.cells T cs)
  | [], H, H', h, id, T, cs, hf => by simp only [killM] at h; cases h; exact hf
  | (f, args) :: r, H, H', h, id, T, cs, hf => by
    obtain ⟨id', _, _, e4, h⟩ := killM_cons h
    refine killM_cells r _ _ h id T cs ?_
    rw [findH_cons, updL_ne]
    · exact hf
    · rintro rfl; rw [hf] at e4; cases e4

theorem calls_of_execM (hX : X.Ok) (hr : X.r = none) {f : Nat} {fn : Func} {c : Code} (hf : X.P.funcs[f]? = some fn) (hb : fn.body = some c) (hnt : fn.ntmps = X.nt)
    {args : List SV} {vals : List Value} {H : List (Nat × HB)} {nx : Nat} (hd : denL ρ args = some vals) (hlen : args.length ≤ X.nt) (hH : HM ρ (findH H) w)
    (hG : X.G = ⟨w, Own ρ (findH H), ρ, Fz (findH H)⟩) (hnx : ∀ j, nx ≤ j → ρ j = none) {Rv : SV → St → Prop} {Rp : List PanicEntry → St → Prop}
    (hcells : ∀ x ∈ fn.results.toList, ∃ t, x = .tmp t ∨ ∃ ty, x = .cell t ty)
    (h : exec X c (start args H nx) (FinM X fn.results.toList Rv Rp)) : Calls X.P f vals.toArray w (CEnd X Rv Rp) := by
  refine (callsIn_wide (n := 0)).1 ?_
  have hm := start_mod (X := X) hd hlen hH hG hnx
  have hw := exec_ok hX c _ _ h ρ _ w hm
  rw [hr] at hw
  refine callsIn_of_wp_marks (F := Fence.wide) hf hb trivial (wpIn_mono (by rw [hnt]; exact hw) ?_)
  rintro e a' w' ⟨x, st', ρ', rfl, hm', hk⟩
  have hret : (match resAll X st' fn.results.toList, killM st'.D st'.H with
      | some l, some H' => fSVL l fun l' => Rv (resV l') ⟨st'.F, st'.gs, H', st'.nx, []⟩
      | _, _ => False) → LeavesInM Fence.wide 0 X.P fn a'.tmps (CEnd X Rv Rp) a'.defers .returning w' := by
    intro hk
    split at hk
    · rename_i l H' e1 e2
      rw [fSVL_eq] at hk
      refine leavesM (X := X) (ρ := ρ') (F := st'.F) (gs := st'.gs) (nx := st'.nx) (by intro h; cases h) (D := st'.D) (H := st'.H) e2 hm' (fun w'' q3 => ?_)
      have hres : resAll X ⟨st'.F, st'.gs, H', st'.nx, []⟩ fn.results.toList = some l := by
        have : ∀ (rs : List ResultVar) (l : List SV), resAll X st' rs = some l → resAll X ⟨st'.F, st'.gs, H', st'.nx, []⟩ rs = some l := by
          intro rs
          induction rs with
          | nil => intro l h; exact h
          | cons x r ih =>
            intro l h
            simp only [resAll] at h ⊢
            split at h
            · rename_i v l' h1 h2
              rw [ih _ h2]
              have : resOne X ⟨st'.F, st'.gs, H', st'.nx, []⟩ x = some v := by
                cases x with
                | tmp t => exact h1
                | cell t ty =>
                  simp only [resOne] at h1 ⊢
                  split at h1
                  · rename_i ti id off g1 g2
                    split at h1
                    · rename_i T cs g3
                      rw [killM_cells _ _ _ e2 id T cs g3]; exact h1
                    · cases h1
                  · cases h1
              rw [this]; exact h
            · cases h
        exact this _ _ e1
      obtain ⟨u, h1, h2⟩ := results_ok hX q3 hres
      exact ⟨u, h1, .inl ⟨_, _, ρ', u, rfl, h2, q3.mh, hk⟩⟩
    · exact hk.elim
  cases x with
  | normal => exact hret hk
  | ret => exact hret hk
  | panic ch =>
    simp only [FinM] at hk
    split at hk
    · rename_i H' e2
      exact leavesM (X := X) (ρ := ρ') (F := st'.F) (gs := st'.gs) (nx := st'.nx) (by intro h; cases h) (D := st'.D) (H := st'.H) e2 hm' (fun w'' q3 => .inr ⟨ch, _, ρ', rfl, q3.mh, hk⟩)
    · exact hk.elim
  | exit n => exact hk.elim

/-- What a contract rests on. -/
def WalkM (P : Program) (T : Tab) (C : Nat → Option Ct) (fn : Func) (c : Code) (H : LH) (args : List SV) (fr : Nat) (out : COut) : Prop :=
  ∃ (ps : List (Nat × HB)) (args₀ : List SV) (H₀ : List (Nat × HB)) (n₀ : Nat) (K : List Nat), args = renL (sigP ps) args₀ ∧ knL ps.length [] args₀ = true ∧ args₀.length ≤ fn.ntmps ∧ Hand H ps ∧ H₀ = numb 0 ps ∧ n₀ = ps.length ∧
    ∀ G : Base, (∀ j, n₀ ≤ j → G.ρ j = none) → exec ⟨P, T, C, G, none, fn.ntmps⟩ c (start args₀ H₀ n₀) (FinM ⟨P, T, C, G, none, fn.ntmps⟩ fn.results.toList
      (fun v st => (out.pan = none ∨ ∃ ch, out.pan = some (false, ch)) ∧ EndOk ps K fr out v st) (fun ch st => out.pan = some (true, ch) ∧ keepP st.H H₀))
theorem cokM {P : Program} {T : Tab} {C : Nat → Option Ct} (hX : ∀ G r nt, (⟨P, T, C, G, r, nt⟩ : Cx).Ok) {f : Nat} {fn : Func} {c : Code} (hf : P.funcs[f]? = some fn) (hb : fn.body = some c) {ct : Ct}
    (h : ∀ fr args H out, ct fr args H = some out → PreH out.pre → WalkM P T C fn c H args fr out) : COk P f ct :=
  cokC fun fr args H out h1 h2 => by
    obtain ⟨ps, args₀, H₀, n₀, K, h1, h2, h3, h4, h5, h6, hex⟩ := h fr args H out h1 h2
    refine ⟨ps, args₀, H₀, n₀, K, h1, h2, h3, h4, h5, h6, fun ρ w vals hd hm hnx => ?_⟩
    exact calls_of_execM (X := ⟨P, T, C, ⟨w, Own ρ (findH H₀), ρ, Fz (findH H₀)⟩, none, fn.ntmps⟩) (hX _ _ _) rfl hf hb rfl hd h3 hm rfl hnx (fun x _ => by cases x with | tmp t => exact ⟨t, .inl rfl⟩ | cell t ty => exact ⟨t, .inr ⟨ty, rfl⟩⟩) (hex _ hnx)
end
end Go.X
end

section
set_option linter.unusedVariables false
set_option linter.unusedSimpArgs false
set_option linter.unusedSectionVars false
/- Calls through an interface; calls by a contract, in place. -/
set_option linter.unusedVariables false
set_option linter.unusedSimpArgs false
set_option maxRecDepth 10000
namespace Go.X
open Go
/-- The method of a type by a name: function f, on the value. -/
def MethOk (P : Program) (t : TypeId) (name : String) (f : Nat) : Prop := ∀ v w, (method (P.types.size + Made.depth) t v name).run P w = .ok (f, v) w
theorem meth_of {P : Program} {t : TypeId} {name : String} {f : Nat} {i : TypeInfo} {d : TypeDesc} (hi : P.info? t = some i) (hd : P.underlying t = some d) (hp : ∀ e, d ≠ .pointer e)
    (hm : ∃ m, i.methods.find? (·.name == name) = some m ∧ m.path = #[] ∧ m.func = some (f, false)) : MethOk P t name f := by
  intro v w
  obtain ⟨m, h1, h2, h3⟩ := hm
  have hpos : 0 < Made.depth := by decide
  obtain ⟨k, hk⟩ : ∃ k, P.types.size + Made.depth = k + 1 := ⟨P.types.size + Made.depth - 1, by omega⟩
  rw [hk]
  have hr : (receiverAt t (.val v) false (if m.path.isEmpty = true then some ((name.splitOn ".").getLastD name) else none)).run P w = .ok v w := by
    unfold receiverAt
    simp only [Sem.run_bind, run_underlying hd, Result.andThen]
    cases d <;> first | (exact absurd rfl (hp _)) | rfl
  have ht : (typeInfo t).run P w = .ok i w := by simp [typeInfo, hi]
  have hemp : m.path.toList = [] := by rw [h2]
  simp only [method, Sem.run_bind, ht, Result.andThen, h1, hemp, follow, Sem.run_pure, h3, hr]

theorem meth_of' {P : Program} {t : TypeId} {name : String} {f : Nat} (h : (match P.info? t, P.underlying t with
    | some i, some d => (match d with
      | .pointer _ => false
      | _ => (match i.methods.find? (·.name == name) with
        | some m => m.path.isEmpty && (match m.func with
          | some (g, false) => Nat.beq g f
          | _ => false)
        | none => false))
    | _, _ => false) = true) : MethOk P t name f := by
  split at h
  · rename_i i d e1 e2
    refine meth_of (i := i) (d := d) e1 e2 ?_ ?_
    · rintro e rfl; cases h
    · split at h
      · cases h
      · split at h
        · rename_i m e3
          simp only [Bool.and_eq_true] at h
          obtain ⟨h1, h2⟩ := h
          refine ⟨m, e3, by simpa using h1, ?_⟩
          split at h2
          · rename_i g e4
            rw [e4]
            have : g = f := by simpa using h2
            rw [this]
          · cases h2
        · cases h
  · cases h

section
variable {X : Cx} {st : St}
theorem fb_invoke (n : Nat) {ops : List Oper} {i : Nat} {o : Oper} {r : List Oper} {Q : Exit → Act → World → Prop} {K : St → Prop} {Kp : List PanicEntry → St → Prop} {c : Call} {x : Operand} {name : String} {t : TypeId} {v : SV} {args : List SV} (hX : X.Ok)
    (hC : Cont X Q K Kp) (hi : ops.drop i = o :: r) (hc : o.op = .call c) (hcl : c.callee = .invoke x name) (hg : o.guard = none) (hp : putN st.gs X.nt o.dst = false)
    (h1 : ev (findF st.F) [] x = some (.ifc t v)) (h2 : argsOf (findF st.F) [] c.args.toList = some args) (hm : MethOk X.P t name n) (hbody : Body X.P n)
    (h : CallS X.P n (v :: args) st.H st.nx (fun v H' nx' => putSt st o.dst v H' nx' (execL X ops Q K Kp (i + 1) r)) (fun ch H' nx' => Kp ch ⟨st.F, st.gs, H', nx', st.D⟩)) : FbO X ops Q K Kp i o r st := by
  refine ⟨fun ρ a w hmod => ?_⟩
  have hs : GPsat a [] := fun x hx => by cases hx
  have e1 := ev_ok hmod.fm hs h1
  have hl := argsOf_ok hmod.fm hs h2
  simp only [den] at e1
  split at e1
  · rename_i u hu
    simp only [Option.some.injEq] at e1
    have hd := denL_mk hu hl
    have hrun : (do let d ← resolve a.eval c o.type; invoke d.target d.args : Sem Next).run X.P w = .ok (.enter n (u :: c.args.toList.map a.eval).toArray) w := by
      have hres : (resolve a.eval c o.type).run X.P w = .ok { target := .fn (.method name) #[], args := #[a.eval x] ++ c.args.map a.eval } w := by
        simp only [resolve, hcl]; rfl
      rw [Sem.run_bind, hres]
      have h0 : (#[a.eval x] ++ c.args.map a.eval)[0]? = some (a.eval x) := by rw [Array.getElem?_append_left (Nat.zero_lt_one)]; rfl
      have h3 : ((#[a.eval x] ++ c.args.map a.eval).extract 1 (#[a.eval x] ++ c.args.map a.eval).size) = c.args.map a.eval := by
        apply Array.ext'
        rw [Array.toList_extract]
        simp only [List.extract, Array.toList_append, Array.toList_map]
        simp only [List.cons_append, List.nil_append, List.drop_succ_cons, List.drop_zero, Array.size_append]
        exact List.take_of_length_le (by simp)
      have hmm := hm u w
      have he : (#[u] ++ c.args.map a.eval) = (u :: c.args.toList.map a.eval).toArray := by apply Array.ext'; simp
      have hb2 := hbody (u :: c.args.toList.map a.eval).toArray w
      rw [← he] at hb2 ⊢
      have hcm : (callMethod (.iface t u) name (c.args.map a.eval)).run X.P w = .ok (.enter n (#[u] ++ c.args.map a.eval)) w := by
        have hpg : (program).run X.P w = .ok X.P w := rfl
        simp only [callMethod, Sem.run_bind, hpg, Result.andThen, hmm]
        exact hb2
      simp only [Result.andThen, invoke, h0, h3]
      rw [← e1]
      exact hcm
    have ho : ops[i]? = some o := by
      have := congrArg (fun l => l[0]?) hi
      simpa using this
    have hd' : ops.drop (i + 1) = r := by
      have := congrArg List.tail hi
      simpa using this
    rw [List.range'_succ]
    refine wpOps_cons (by simpa using ho) (fun _ => ?_) (fun hw => by rw [guard_none hg] at hw; cases hw)
    refine wpIn_call (by rw [hc]; intro c' hc'; cases hc') (by simp only [execOp, hc]; exact hrun) (h ρ w _ hmod.hm hmod.nx hd) ?_
    rintro e w' (⟨v, H', nx', ρ', u, rfl, h1, h2, h3, h4, h5⟩ | ⟨ch, H', nx', ρ', rfl, h2, h3, h4, h5⟩)
    · have hm' := (hmod.call h2 h3 h4).put (d := o.dst) hp h1
      refine execL_ok hX hC.k hC.p r (i + 1) ρ' _ _ w' hd' ?_ hm'
      cases hdst : o.dst with
      | none => rw [hdst] at h5; cases st; exact h5
      | some d => rw [hdst] at h5; cases st; exact h5
    · exact hC.p ch ρ' _ _ w' (hmod.call h2 h3 h4) h5
  · cases e1

/-- A call by a contract. -/
theorem callS_ct {P : Program} {n : Nat} {ct : Ct} (hct : COk P n ct) {l : List SV} {H : List (Nat × HB)} {nx : Nat} {Rv : SV → List (Nat × HB) → Nat → Prop} {Rp : List PanicEntry → List (Nat × HB) → Nat → Prop} {out : COut}
    (h : ct nx l (findH H) = some out) (hp : PreH out.pre) (hv : (out.pan = none ∨ ∃ ch, out.pan = some (false, ch)) → Rv out.v (out.news ++ H) (nx + 4)) (hpan : ∀ ch, out.pan = some (true, ch) → Rp ch H nx) : CallS P n l H nx Rv Rp := by
  intro ρ w vals hm hnx hd
  refine (hct ρ (findH H) w nx l vals out hm (fun j h1 _ => hnx j h1) hd h hp).mono ?_
  intro e w' hpost
  have hret : ∀ {v ρ'}, CallEnd ρ (findH H) nx w out v w' ρ' → (out.pan = none ∨ ∃ ch, out.pan = some (false, ch)) → e = .returned v →
      (∃ v H' nx' ρ' u, e = .returned u ∧ den ρ' v = some u ∧ HM ρ' (findH H') w' ∧ Keep ⟨w, Own ρ (findH H), ρ, Fz (findH H)⟩ ρ' (findH H') w' ∧ (∀ j, nx' ≤ j → ρ' j = none) ∧ Rv v H' nx') := by
    intro v ρ' hE hpn he
    refine ⟨out.v, out.news ++ H, nx + 4, ρ', v, he, hE.den, by rw [newsL_append]; exact hE.hm, ⟨hE.str, hE.size, fun b hb _ => hE.same b hb, fun b ho => by rw [newsL_append] at ho; exact hE.own b ho, hE.ext, fun b hz => by rw [newsL_append] at hz; exact .inr (.inr (hE.fz b hz))⟩, fun j hj => ?_, hv hpn⟩
    rcases Classical.em (ρ' j = ρ j) with e | e
    · rw [e]; exact hnx j (by omega)
    · obtain ⟨_, h2, _⟩ := hE.fresh j e
      omega
  unfold CPost at hpost
  split at hpost
  · rename_i hpn
    obtain ⟨ρ', v, rfl, hE⟩ := hpost
    exact .inl (hret hE (.inl hpn) rfl)
  · rename_i c ch hpn
    rcases hpost with ⟨rfl, rfl, hs, hk, hst⟩ | ⟨rfl, ρ', v, rfl, hE⟩
    · exact .inr ⟨ch, H, nx, ρ, rfl, hm.world hs hk, ⟨hst, hs, fun b hb _ => hk b hb, fun b ho => .inl ho, Ext.refl _, fun b hz => .inr (.inr hz)⟩, hnx, hpan ch hpn⟩
    · exact .inl (hret hE (.inr ⟨ch, hpn⟩) rfl)
end
end Go.X
end

section
set_option linter.unusedVariables false
set_option linter.unusedSimpArgs false
set_option linter.unusedSectionVars false
/- Calls run through in place, that come to one state. -/
set_option linter.unusedVariables false
set_option linter.unusedSimpArgs false
set_option maxRecDepth 10000
namespace Go.X
open Go
/-- What a call comes to, up to what it has laid and left. -/
structure EndR (nx : Nat) (v : SV) (H : List (Nat × HB)) (nx1 : Nat) (v' : SV) (H' : List (Nat × HB)) (nx' : Nat) (s : Nat → Nat) : Prop where
  H : weakRH s nx' H H'
  v : SVeq v (renSV s v')
  vi : idsSV nx' v' = true
  inj : injI s H' = true
  fix : fixI s nx = true
  ge : Nat.ble nx nx' = true
theorem callS_to {P : Program} {T : Tab} {C : Nat → Option Ct} (hX : ∀ G r nt, (⟨P, T, C, G, r, nt⟩ : Cx).Ok) {n : Nat} {fn : Func} {c : Code} (hf : P.funcs[n]? = some fn) (hb : fn.body = some c) {l : List SV} (hlen : l.length ≤ fn.ntmps)
    {H : List (Nat × HB)} {nx : Nat} {Rv : SV → List (Nat × HB) → Nat → Prop} {Rp : List PanicEntry → List (Nat × HB) → Nat → Prop} (v' : SV) (H' : List (Nat × HB)) (nx' : Nat)
    (h : ∀ G : Base, (∀ j, nx ≤ j → G.ρ j = none) → exec ⟨P, T, C, G, none, fn.ntmps⟩ c (start l H nx) (Fin ⟨P, T, C, G, none, fn.ntmps⟩ fn.results.toList (fun v st => ∃ s, EndR nx v st.H st.nx v' H' nx' s) (fun _ _ => False)))
    (hk : Rv v' H' nx') : CallS P n l H nx Rv Rp := by
  intro ρ w vals hm hnx hd
  refine (callS_exec hX hf hb hlen (Rv := fun v H₁ nx₁ => ∃ s, EndR nx v H₁ nx₁ v' H' nx' s) (Rp := fun _ _ _ => False) h ρ w vals hm hnx hd).mono ?_
  rintro e w' (⟨v, H₁, nx₁, ρ₁, u, rfl, h1, h2, h3, h4, s, hs⟩ | ⟨_, _, _, _, _, _, _, _, hF⟩)
  · have hm1 : Mod ⟨P, T, C, ⟨w, Own ρ (findH H), ρ, Fz (findH H)⟩, none, 0⟩ ρ₁ ⟨[], [], H₁, nx₁, []⟩ { tmps := #[], defers := [] } w' := {
      fm := fun t e hf => by cases hf
      gs := fun t e hf => by cases hf
      df := trivial
      hm := h2
      kp := h3
      nx := h4
      sz := rfl }
    have hm2 := hm1.ren (n0 := nx) (s := s) (st' := ⟨[], [], H', nx', []⟩) ⟨trivial, hs.H, hs.inj, hs.fix, hs.ge, rfl, trivial⟩ hnx
    exact .inl ⟨v', H', nx', _, u, rfl, by rw [den_envR _ hs.vi, ← SVeq_eq _ _ hs.v]; exact h1, hm2.hm, hm2.kp, hm2.nx, hk⟩
  · exact hF.elim
end Go.X
end

section
set_option linter.unusedVariables false
set_option linter.unusedSimpArgs false
set_option linter.unusedSectionVars false
/- A nil slice that is called an empty slice of our own. -/
set_option linter.unusedVariables false
set_option linter.unusedSimpArgs false
set_option maxRecDepth 10000
namespace Go.X
open Go
section
variable {X : Cx} {ρ : Env} {st : St} {a : Act} {w : World}
/-- A new id for nil. -/
theorem Mod.nilNew (hm : Mod X ρ st a w) (T s : Nat) (get : Nat → List SV) : Mod X (upd ρ st.nx (.sl none 0 0 s)) { st with H := (st.nx, .vec T s 0 get) :: st.H, nx := st.nx + 1 } a w := by
  have hf : ρ st.nx = none := hm.nx _ (Nat.le_refl _)
  exact {
    fm := hm.fm.ext (Ext.upd _ hf)
    gs := hm.gs
    df := hm.df.ext (Ext.upd _ hf)
    hm := {
      ok := fun j hb hj => by
        rw [findH_cons] at hj
        by_cases e : st.nx = j
        · subst e; rw [updL_self] at hj; cases hj
          exact ⟨_, upd_self _ _ _, rfl, rfl, rfl, rfl, rfl⟩
        · rw [updL_ne _ _ e] at hj
          obtain ⟨nm, h1, h2⟩ := hm.hm.ok j hb hj
          exact ⟨nm, by rw [upd_ne _ _ (Ne.symm e)]; exact h1, HBok_ext (Ext.upd _ hf) h2⟩
      sep := fun i j x y n₁ n₂ b h1 h2 l1 l2 r1 r2 o1 o2 => by
        rw [findH_cons] at h1 h2
        by_cases e1 : st.nx = i
        · subst e1; rw [upd_self] at r1; cases r1; cases o1
        · by_cases e2 : st.nx = j
          · subst e2; rw [upd_self] at r2; cases r2; cases o2
          · rw [updL_ne _ _ e1] at h1; rw [updL_ne _ _ e2] at h2
            rw [upd_ne _ _ (Ne.symm e1)] at r1; rw [upd_ne _ _ (Ne.symm e2)] at r2
            exact hm.hm.sep i j x y n₁ n₂ b h1 h2 l1 l2 r1 r2 o1 o2
      ro := fun j size n get' nm b hj hn hr hb ho => by
        rw [findH_cons] at hj
        by_cases e : st.nx = j
        · subst e; rw [updL_self] at hj; cases hj
        · rw [updL_ne _ _ e] at hj
          rw [upd_ne _ _ (Ne.symm e)] at hr
          rcases Own.cons hf ho with h | h
          · cases h
          · exact hm.hm.ro j size n get' nm b hj hn hr hb h
      fam := fun b hz ho => by
        rw [findH_cons] at hz
        rcases Own.cons hf ho with h | h
        · cases h
        · exact hm.hm.fam b (hz.upd fun s C h => by cases h) h }
    kp := {
      str := hm.kp.str
      size := hm.kp.size
      same := hm.kp.same
      own := fun b ho => by
        rcases Own.cons hf ho with h | h
        · cases h
        · exact hm.kp.own b h
      ext := hm.kp.ext.trans (Ext.upd _ hf)
      fz := fun b hz => hm.kp.fz b (by rw [findH_cons] at hz; exact hz.upd fun s C h => by cases h) }
    nx := fun j hj => by
      have : st.nx + 1 ≤ j := hj
      rw [upd_ne _ _ (by omega)]; exact hm.nx j (by omega)
    sz := hm.sz }

/-- A cell that holds nil. -/
theorem nil_cell {c : Code} {K : Ex → St → Prop} (id Tc T s : Nat) (get : Nat → List SV) (h1 : findH st.H id = some (.cells Tc [.sv (.slice none 0 0)]))
    (h : stK st fun F gs H nx D => natF (nx + 1) fun nx' => SemC X c ⟨F, gs, (id, .cells Tc [.sl nx]) :: (nx, .vec T s 0 get) :: H, nx', D⟩ K) : SemC X c st K := by
  intro ρ a w hm
  rw [stK_eq, natF_eq] at h
  have hid : id ≠ st.nx := fun e => by
    obtain ⟨nm, h2, _⟩ := hm.hm.ok _ _ h1
    rw [hm.nx id (by omega)] at h2; cases h2
  have h2 := hm.nilNew T s get
  obtain ⟨nm, h3, h4⟩ := hm.hm.ok _ _ h1
  have h5 : findH ((st.nx, .vec T s 0 get) :: st.H) id = some (.cells Tc [.sv (.slice none 0 0)]) := by
    rw [findH_cons, updL_ne _ _ (Ne.symm hid)]; exact h1
  refine h _ a w (h2.swap (hb' := .cells Tc [.sl st.nx]) h5 rfl (nm := nm) (by rw [upd_ne _ _ hid]; exact h3) ?_ (fun _ _ _ h => by cases h))
  cases nm <;> simp only [HBok] at h4 ⊢
  obtain ⟨vs, d1, d2, d3⟩ := h4
  simp [denL, den, Value.oneCell'] at d1
  subst d1
  exact ⟨_, by simp [denL, den, upd_self], d2, d3⟩

/-- A slot that holds nil. -/
theorem nil_slot {c : Code} {K : Ex → St → Prop} (t T s : Nat) (get : Nat → List SV) (h1 : findF st.F t = some ⟨[], .sv (.slice none 0 0)⟩)
    (h : stK st fun F gs H nx D => natF (nx + 1) fun nx' => SemC X c ⟨(t, ⟨[], .sl nx⟩) :: F, gs, (nx, .vec T s 0 get) :: H, nx', D⟩ K) : SemC X c st K := by
  intro ρ a w hm
  rw [stK_eq, natF_eq] at h
  have h2 := hm.nilNew T s get
  refine h _ a w {
    fm := fun t' e hf => ?_
    gs := fun t' e hf x hx => ?_
    df := h2.df
    hm := h2.hm
    kp := h2.kp
    nx := h2.nx
    sz := h2.sz }
  · by_cases e : t = t'
    · subst e
      rw [findF_cons_self] at hf; cases hf
      have := (h2.fm t _ h1).1 (fun x hx => by cases hx)
      obtain ⟨v, hv1, hv2⟩ := this
      simp [den, Value.oneCell'] at hv2
      subst hv2
      exact ⟨fun _ => ⟨_, hv1, by simp [den, upd_self]⟩, fun hn => absurd (show GPsat a [] from fun x hx => by cases hx) hn⟩
    · rw [findF_cons_ne _ _ e] at hf; exact h2.fm t' _ hf
  · by_cases e : t = t'
    · subst e; rw [findF_cons_self] at hf; cases hf; cases hx
    · rw [findF_cons_ne _ _ e] at hf; exact hm.gs t' _ hf x hx
end
/-- The first range over a function in a code: its slots, its assignments, its body. -/
def rfOf : Code → Option (List Nat × Code × Code)
  | .rangeFunc _ ps a b => some (ps.toList, a, b)
  | .seq x y => match rfOf x with
    | some r => some r
    | none => rfOf y
  | .cond _ x y => match rfOf x with
    | some r => some r
    | none => rfOf y
  | .block _ x => rfOf x
  | .loop x => rfOf x
  | .scope x => rfOf x
  | _ => none
def rfA (c : Code) : Code := match rfOf c with
  | some (_, a, _) => a
  | none => .skip
def rfB (c : Code) : Code := match rfOf c with
  | some (_, _, b) => b
  | none => .skip
end Go.X
end

section
set_option linter.unusedVariables false
set_option linter.unusedSimpArgs false
set_option linter.unusedSectionVars false
/- Maps: an order of a map's entries is chosen once, before it is handed on. -/
set_option linter.unusedVariables false
set_option linter.unusedSimpArgs false
set_option maxRecDepth 10000
namespace Go.X
open Go
section
variable {X : Cx} {st : St} {κ ν : Type} [DecidableEq κ]

end
end Go.X
end

section
set_option linter.unusedVariables false
set_option linter.unusedSimpArgs false
set_option linter.unusedSectionVars false
/- From a contract to the row: arguments that came in, read as data. -/
set_option linter.unusedVariables false
set_option linter.unusedSimpArgs false
set_option linter.unusedSectionVars false
namespace Go.X
open Go Go.ChangeShapes Go.WideShapes Go.ChangeAt Go.RowKit

/-- All pieces are slices that came in. -/
def RoH (ρ : Env) (H : LH) (w : World) : Prop := ∀ id hb, H id = some hb → ∃ nm, ρ id = some nm ∧ HBok ρ w hb nm ∧ nm.owner = none
theorem RoH.own {ρ : Env} {H : LH} {w : World} (h : RoH ρ H w) {b : Nat} : ¬ Own ρ H b := by
  rintro ⟨id, hb, nm, h1, h2, h3, h4⟩
  obtain ⟨nm', h5, _, h6⟩ := h id hb h1
  rw [h3] at h5; cases h5
  rw [h6] at h4; cases h4
theorem RoH.hm {ρ : Env} {H : LH} {w : World} (h : RoH ρ H w) : HM ρ H w where
  ok id hb hf := by
    obtain ⟨nm, h1, h2, _⟩ := h id hb hf
    exact ⟨nm, h1, h2⟩
  sep id id' hb hb' nm nm' b h1 h2 l1 l2 r1 r2 o1 o2 := absurd ⟨id, hb, nm, h1, l1, r1, o1⟩ h.own
  ro id size n get nm b h1 hn r1 hb := h.own
  fam b hz := h.own

section
variable {H : Type} {enc : TypeId × Value → H} {P : Program} {w : World} {sp : Nat → Bool}

/-! ### Types whose cells are all integers -/

def layF (P : Program) (g : TypeId → Option (List IntKind)) : List Field → Nat → Option (List IntKind)
  | [], _ => some []
  | f :: r, off => (match g f.type, layF P g r (off + P.cellsOf f.type) with
    | some ks, some l => if f.offset = off ∧ P.cellsOf f.type = ks.length then some (ks ++ l) else none
    | _, _ => none)
def lay (P : Program) : Nat → TypeId → Option (List IntKind)
  | 0, _ => none
  | n + 1, t => match P.underlying t with
    | some (.int k) => some [k]
    | some (.struct fs) => (match layF P (lay P n) fs.toList 0 with
      | some ks => if P.cellsOf t = ks.length then some ks else none
      | none => none)
    | _ => none

def intV (ks : List IntKind) (ns : List Int) : List Value := List.zipWith Value.int ks ns
def intS (ks : List IntKind) (ns : List Int) : List SV := List.zipWith SV.si ks ns
theorem intV_append {ks l : List IntKind} {ns m : List Int} (h : ns.length = ks.length) : intV (ks ++ l) (ns ++ m) = intV ks ns ++ intV l m := by
  unfold intV; rw [List.zipWith_append (by omega)]
theorem intV_len {ks : List IntKind} {ns : List Int} (h : ns.length = ks.length) : (intV ks ns).length = ks.length := by simp [intV, h]
theorem intS_den {ρ : Env} : ∀ (ks : List IntKind) (ns : List Int), denL ρ (intS ks ns) = some (intV ks ns)
  | [], ns => by simp [intS, intV, denL]
  | k :: ks, [] => by simp [intS, intV, denL]
  | k :: ks, n :: ns => by
    show denL ρ (.si k n :: intS ks ns) = some (.int k n :: intV ks ns)
    exact denL_mk rfl (intS_den ks ns)
theorem intV_one : ∀ (ks : List IntKind) (ns : List Int), (intV ks ns).all (·.oneCell') = true
  | [], ns => by simp [intV]
  | k :: ks, [] => by simp [intV]
  | k :: ks, n :: ns => by
    show (Value.oneCell' (.int k n) && (intV ks ns).all (·.oneCell')) = true
    rw [intV_one ks ns]; rfl

theorem trod_lay : ∀ (n : Nat), (∀ (t : TypeId) (ks : List IntKind) (fuel : Nat) (cs : List Value) (x : DataW H × List MemPlace), lay P n t = some ks → DataW.trod enc P w 0 sp true fuel t cs = some x →
      ∃ ns : List Int, ns.length = ks.length ∧ cs = intV ks ns ∧ ∀ p ∈ List.zip ks ns, (Lit.int p.1 p.2).wf = true) := by
  intro n
  induction n with
  | zero => intro t ks fuel cs x h; simp [lay] at h
  | succ n ih =>
    have hF : ∀ (fs : List Field) (off : Nat) (ks : List IntKind) (cs : List Value) (m : Nat), layF P (lay P n) fs off = some ks →
        (∀ f ∈ fs, ∃ y, DataW.trod enc P w 0 sp true m f.type ((cs.drop f.offset).take (P.cellsOf f.type)) = some y) →
        ∃ ns : List Int, ns.length = ks.length ∧ (cs.drop off).take ks.length = intV ks ns ∧ ∀ p ∈ List.zip ks ns, (Lit.int p.1 p.2).wf = true := by
      intro fs
      induction fs with
      | nil =>
        intro off ks cs m h _
        simp only [layF, Option.some.injEq] at h
        subst h
        exact ⟨[], rfl, by simp [intV], by simp⟩
      | cons f r ihr =>
        intro off ks cs m h hf
        simp only [layF] at h
        split at h
        · rename_i k1 k2 e1 e2
          split at h
          · rename_i hoff
            cases h
            obtain ⟨y, hy⟩ := hf f List.mem_cons_self
            obtain ⟨n1, q1, q2, q3⟩ := ih f.type k1 m _ y e1 hy
            obtain ⟨n2, q4, q5, q6⟩ := ihr _ k2 cs m e2 (fun g hg => hf g (List.mem_cons_of_mem _ hg))
            refine ⟨n1 ++ n2, by simp [q1, q4], ?_, ?_⟩
            · rw [intV_append q1, ← q2, ← q5, hoff.1, hoff.2, List.length_append, List.take_add]
              rw [List.drop_drop]
            · intro p hp
              rw [List.zip_append (by omega)] at hp
              rcases List.mem_append.1 hp with hp | hp
              · exact q3 p hp
              · exact q6 p hp
          · cases h
        · cases h
    intro t ks fuel cs x h ht
    simp only [lay] at h
    split at h
    · rename_i k hu
      cases h
      obtain ⟨z, rfl, _, hw⟩ := DataW.trod_int hu ht
      exact ⟨[z], rfl, rfl, by simpa using hw⟩
    · rename_i fs hu
      split at h
      · rename_i ks' e1
        split at h
        · rename_i hc
          cases h
          obtain ⟨xs, m, _, _, hlen, hxs, hg⟩ := DataW.trod_struct hu ht
          obtain ⟨ns, q1, q2, q3⟩ := hF fs.toList 0 ks cs m e1 (fun f hf => by
            obtain ⟨i, hi⟩ := List.getElem?_of_mem hf
            have hi' : fs[i]? = some f := by simpa using hi
            have hlt : i < xs.length := by
              have := (Array.getElem?_eq_some_iff.1 hi').1
              omega
            exact ⟨_, (hg i f hi').trans (List.getElem?_eq_getElem hlt)⟩)
          refine ⟨ns, q1, ?_, q3⟩
          rw [← q2]
          simp [← hc, ← hlen]
        · cases h
      · cases h
    · cases h

/-! ### Slices of such -/

theorem open_ro {t e : TypeId} {n fuel : Nat} {ks : List IntKind} {cs : List Value} {x : DataW H × List MemPlace} (ht : P.underlying t = some (.slice e)) (hl : lay P n e = some ks) (hC : P.cellsOf e = ks.length) (hz : ks.length ≠ 0)
    (h : DataW.trod enc P w 0 sp true fuel t cs = some x) : ∃ (a : Option Addr) (len cap : Nat) (N : Nat → List Int), cs = [.slice a len cap] ∧ len ≤ maxLen ∧ (∀ i, (N i).length = ks.length) ∧
      (∀ i, i < len → ∀ p ∈ List.zip ks (N i), (Lit.int p.1 p.2).wf = true) ∧ ∀ ρ : Env, HBok ρ w (.ro ks.length len fun i => intS ks (N i)) (.sl a len cap ks.length) := by
  rcases DataW.trod_slice ht h with ⟨rfl, _⟩ | ⟨a, len, cap, elems, rest, m, _, rfl, _, _, hle, hm, hlen, hel, _⟩
  · exact ⟨none, 0, 0, fun _ => List.replicate ks.length 0, rfl, Nat.zero_le _, fun i => by simp, fun i hi => by omega, fun ρ => ⟨rfl, rfl, Nat.le_refl _, fun h => by omega⟩⟩
  · have key : ∀ i, i < len → ∃ ns : List Int, ns.length = ks.length ∧ (∀ p ∈ List.zip ks ns, (Lit.int p.1 p.2).wf = true) ∧ ∀ j v, (intV ks ns)[j]? = some v → w.cell? (a.add (i * ks.length + j)) = some v := by
      intro i hi
      have h1 := hel i hi
      rw [List.getElem?_eq_getElem (by omega)] at h1
      simp only [Option.bind_eq_some_iff] at h1
      obtain ⟨c1, h2, h3⟩ := h1
      obtain ⟨ns, q1, q2, q3⟩ := trod_lay n e ks m c1 _ hl h3
      obtain ⟨_, h4, h5⟩ := World.cells?_some h2
      refine ⟨ns, q1, q3, fun j v hv => ?_⟩
      rw [← q2] at hv
      have hj : j < c1.length := (List.getElem?_eq_some_iff.1 hv).1
      rw [← add_add, ← hC, h5 j (by omega)]
      exact hv
    have hN : ∃ N : Nat → List Int, ∀ i, (N i).length = ks.length ∧ (i < len → (∀ p ∈ List.zip ks (N i), (Lit.int p.1 p.2).wf = true) ∧ ∀ j v, (intV ks (N i))[j]? = some v → w.cell? (a.add (i * ks.length + j)) = some v) := by
      refine ⟨fun i => if hi : i < len then (key i hi).choose else List.replicate ks.length 0, fun i => ?_⟩
      by_cases hi : i < len
      · simp only [hi, dif_pos]
        have := (key i hi).choose_spec
        exact ⟨this.1, fun _ => this.2⟩
      · simp [hi]
    obtain ⟨N, hN⟩ := hN
    refine ⟨some a, len, cap, N, rfl, by omega, fun i => (hN i).1, fun i hi => ((hN i).2 hi).1, fun ρ => ⟨rfl, rfl, hle, fun hpos => ⟨a, rfl, ?_, fun i hi => ⟨_, intS_den ks (N i), intV_one _ _, intV_len (hN i).1, ((hN i).2 hi).2⟩⟩⟩⟩
    obtain ⟨v, hv⟩ : ∃ v, (intV ks (N 0))[0]? = some v := ⟨_, List.getElem?_eq_getElem (by rw [intV_len (hN 0).1]; omega)⟩
    have := ((hN 0).2 hpos).2 0 v hv
    rw [Nat.zero_mul, Nat.zero_add, addr_zero] at this
    rcases Nat.lt_or_ge a.block w.heap.size with hlt | hge
    · exact hlt
    · simp [World.cell?, Array.getElem?_eq_none hge] at this

/-! ### The row -/

theorem trodAll_carry (hl : laidOutB P = true) {W W' : World} {sp' : Nat → Bool} : ∀ {ts : List TypeId} {vs : List Value} {ds : List (DataW H)} {ps : List MemPlace}, (∀ t ∈ ts, P.readableRec t = true ∧ t < P.types.size) →
    DataW.TrodAll enc P W 0 (fun _ => true) true ts vs ds ps → (∀ p ∈ ps, W.sameAt W' p) → (∀ p ∈ ps, sp' p.block = true) → DataW.TrodAll enc P W' 0 sp' true ts vs ds ps
  | [], vs, ds, ps, hr, h, _, _ => by
    obtain ⟨rfl, rfl, rfl⟩ := trodAll_nil h
    exact trodAll_mk0
  | t :: ts, vs, ds, ps, hr, h, hs, hp => by
    obtain ⟨v, vs', d, ds', p, q, rfl, rfl, rfl, h1, h2⟩ := trodAll_cons h
    exact trodAll_cons_mk (WideElems.Trod_stays hl (hr t List.mem_cons_self).1 (hr t List.mem_cons_self).2 h1 (fun x hx => hs x (List.mem_append_left _ hx)) (fun x hx => hp x (List.mem_append_left _ hx)))
      (trodAll_carry hl (fun t ht => hr t (List.mem_cons_of_mem _ ht)) h2 (fun x hx => hs x (List.mem_append_right _ hx)) (fun x hx => hp x (List.mem_append_right _ hx)))

theorem trodAll_lt {W : World} {b : Nat} {sp : Nat → Bool} {held : Bool} : ∀ {ts : List TypeId} {vs : List Value} {ds : List (DataW H)} {ps : List MemPlace}, DataW.TrodAll enc P W b sp held ts vs ds ps → ∀ p ∈ ps, p.block < W.heap.size
  | [], vs, ds, ps, h, x, hx => by
    obtain ⟨rfl, rfl, rfl⟩ := trodAll_nil h
    cases hx
  | t :: ts, vs, ds, ps, h, x, hx => by
    obtain ⟨v, vs', d, ds', p, q, rfl, rfl, rfl, h1, h2⟩ := trodAll_cons h
    rcases List.mem_append.1 hx with hx | hx
    · obtain ⟨m, hm⟩ := h1
      exact DataW.trod_lt m _ _ _ hm x hx
    · exact trodAll_lt h2 x hx

theorem trodAll_length {W : World} {b : Nat} {sp : Nat → Bool} {held : Bool} : ∀ {ts : List TypeId} {vs : List Value} {ds : List (DataW H)} {ps : List MemPlace}, DataW.TrodAll enc P W b sp held ts vs ds ps → ds.length = ts.length
  | [], vs, ds, ps, h => by
    obtain ⟨rfl, rfl, rfl⟩ := trodAll_nil h
    rfl
  | t :: ts, vs, ds, ps, h => by
    obtain ⟨v, vs', d, ds', p, q, rfl, rfl, rfl, h1, h2⟩ := trodAll_cons h
    simp [trodAll_length h2]

end
end Go.X
end

section
set_option linter.unusedVariables false
set_option linter.unusedSimpArgs false
set_option linter.unusedSectionVars false
/- Regions whose order Go leaves open, run through in each order. -/
set_option linter.unusedVariables false
set_option linter.unusedSimpArgs false
set_option linter.unusedSectionVars false
namespace Go.X
open Go

/-! ### The row, from a run through -/
open Go.ChangeShapes Go.WideShapes Go.ChangeAt Go.RowKit

/-! ### Several slices that came in -/
end Go.X
end

section
set_option linter.unusedVariables false
set_option linter.unusedSimpArgs false
set_option linter.unusedSectionVars false
/- Slices: an element's cells stored into; a row is called a slice of our own. -/
set_option linter.unusedVariables false
set_option linter.unusedSimpArgs false
set_option linter.unusedSectionVars false
set_option maxRecDepth 10000
namespace Go.X
open Go

section
variable {X : Cx} {st : St}

theorem chunk_ne {i j s k off m : Nat} (h : i ≠ k) (hj : j < s) (hf : off + m ≤ s) : i * s + j < k * s + off ∨ k * s + off + m ≤ i * s + j := by
  rcases Nat.lt_or_gt_of_ne h with h1 | h1
  · left
    have : (i + 1) * s ≤ k * s := Nat.mul_le_mul_right _ h1
    rw [Nat.add_mul] at this; omega
  · right
    have : (k + 1) * s ≤ i * s := Nat.mul_le_mul_right _ h1
    rw [Nat.add_mul] at this; omega

/-- An element of a slice of our own is stored into. -/
theorem fb_storeV (id Tr s n : Nat) (k : Int) (off : Nat) (get get' : Nat → List SV) (cs : List SV) {v : SV} {ops : List Oper} {i : Nat} {o : Oper} {r : List Oper} {Q : Exit → Act → World → Prop} {Kn : St → Prop} {Kp : List PanicEntry → St → Prop}
    {t : TypeId} {ti : TI} {x y : Operand} (hX : X.Ok) (hC : Cont X Q Kn Kp) (hi : ops.drop i = o :: r) (hc : o.op = .store t x y) (hg : o.guard = none) (hdst : o.dst = none) (ht : X.T t = some ti)
    (h1 : ev (findF st.F) [] x = some (.se id k off)) (h2 : ev (findF st.F) [] y = some v) (h3 : findH st.H id = some (.vec Tr s n get)) (h4 : cellsS v = some cs) (h5 : cs.length = ti.size)
    (hk : 0 ≤ k ∧ k < (n : Int)) (hfit : off + cs.length ≤ s) (hg' : ∀ j, j < n → get' j = if j = k.toNat then setL (get j) off cs else get j)
    (h : stK st fun F gs H nx D => execL X ops Q Kn Kp (i + 1) r ⟨F, gs, (id, .vec Tr s n get') :: H, nx, D⟩) : FbO X ops Q Kn Kp i o r st := by
  rw [stK_eq] at h
  refine fb_sem hX hC hi (by rw [hc]; intro c h; cases h) hg fun ρ a w hm => ?_
  have hs : GPsat a [] := fun x hx => by cases hx
  have e1 := ev_ok hm.fm hs h1
  have e2 := ev_ok hm.fm hs h2
  obtain ⟨nm, hn, hok⟩ := hm.hm.ok _ _ h3
  obtain ⟨us, u1, u2, u3⟩ := cellsS_ok h4 e2
  have hul := denL_len u1
  cases nm <;> simp only [HBok] at hok
  · obtain ⟨rfl, rfl, rfl, rfl, rfl⟩ := hok
    omega
  rename_i b n' c s'
  obtain ⟨rfl, rfl, hcap, cells, c1, c2, c3⟩ := hok
  have hkn : k.toNat < n' := by omega
  have e1' : a.eval x = .pointer (some ⟨b, k.toNat * s' + off, none⟩) := by
    simp only [den, hn, if_pos hkn, Option.some.injEq] at e1
    exact e1.symm
  have hle : k.toNat * s' + s' ≤ n' * s' := by
    have : (k.toNat + 1) * s' ≤ n' * s' := Nat.mul_le_mul_right _ hkn
    rw [Nat.add_mul] at this; omega
  have hle2 : n' * s' ≤ c * s' := Nat.mul_le_mul_right _ hcap.1
  have hsv := storeVar_ok hX.tab ht (w := w) (nm := b) (off := k.toNat * s' + off) u3 (by omega) u2 c1 (by omega)
  have hrun : (execOp a.eval o).run X.P w = .ok .skip (w.setRow b (cells.take (k.toNat * s' + off) ++ us ++ cells.drop (k.toNat * s' + off + us.length)).toArray) := by
    simp only [execOp, hc, e1', Instr.storeAt, Instr.sureAddr, Sem.run_bind, Sem.run_pure, Result.andThen, hsv]
  have hheap := setRow_heap w b cells.toArray (cells.take (k.toNat * s' + off) ++ us ++ cells.drop (k.toNat * s' + off + us.length)).toArray Tr (0, 0) c1
  refine ⟨undef, _, ρ, { st with H := (id, .vec Tr s' n' get') :: st.H }, .inr ⟨hrun, rfl⟩, ?_, h⟩
  have hput : a.put o.dst undef = a := by rw [hdst]; rfl
  rw [hput]
  refine hm.turned (b := b) h3 rfl hn rfl (size_setRow _ _ _) (fun k' hk' => heap_setRow _ _ _ _ hk') ?_ rfl (fun _ _ _ h => by cases h)
  refine ⟨rfl, rfl, hcap, _, hheap, ?_, fun j hj => ?_⟩
  · simp only [List.length_append, List.length_take, List.length_drop]; omega
  · obtain ⟨vs, d1, d2, d3, d4⟩ := c3 j hj
    have hjle : j * s' + s' ≤ n' * s' := by
      have : (j + 1) * s' ≤ n' * s' := Nat.mul_le_mul_right _ hj
      rw [Nat.add_mul] at this; omega
    have hgl := denL_len d1
    rw [hg' j hj]
    by_cases hjk : j = k.toNat
    · rw [if_pos hjk]
      refine ⟨_, denL_set d1 u1 off (by omega), ?_, ?_, fun q v' hv' => ?_⟩
      · rw [List.all_eq_true] at d2 u2 ⊢
        intro z hz
        simp only [List.mem_append] at hz
        rcases hz with (hz | hz) | hz
        · exact d2 z (List.mem_of_mem_take hz)
        · exact u2 z hz
        · exact d2 z (List.mem_of_mem_drop hz)
      · simp only [List.length_append, List.length_take, List.length_drop]; omega
      · have hql : q < s' := by
          have := lt_of_get hv'
          simp only [List.length_append, List.length_take, List.length_drop] at this; omega
        rw [← hjk]
        rcases Nat.lt_or_ge q off with hq | hq
        · rw [List.append_assoc, List.getElem?_append_left (by simp; omega), List.getElem?_take, if_pos hq] at hv'
          rw [List.append_assoc, List.getElem?_append_left (by simp; omega), List.getElem?_take, if_pos (by omega)]
          exact d4 q v' hv'
        · rcases Nat.lt_or_ge q (off + us.length) with hq2 | hq2
          · rw [List.getElem?_append_left (by simp; omega), List.getElem?_append_right (by simp; omega)] at hv'
            rw [List.getElem?_append_left (by simp; omega), List.getElem?_append_right (by simp; omega)]
            simp only [List.length_take] at hv' ⊢
            rw [← hv']
            congr 1
            omega
          · rw [List.getElem?_append_right (by simp; omega), List.getElem?_drop] at hv'
            rw [List.getElem?_append_right (by simp; omega), List.getElem?_drop]
            simp only [List.length_append, List.length_take] at hv' ⊢
            have := d4 q v' (by rw [← hv']; congr 1; omega)
            rw [← this]
            congr 1
            omega
    · rw [if_neg hjk]
      refine ⟨vs, d1, d2, d3, fun q v' hv' => ?_⟩
      have hq := lt_of_get hv'
      have := d4 q v' hv'
      rcases chunk_ne (i := j) (j := q) (s := s') (k := k.toNat) (off := off) (m := us.length) hjk (by omega) (by omega) with h6 | h6
      · rw [List.append_assoc, List.getElem?_append_left (by simp; omega), List.getElem?_take, if_pos h6]
        exact this
      · rw [List.getElem?_append_right (by simp; omega), List.getElem?_drop]
        simp only [List.length_append, List.length_take]
        rw [← this]
        congr 1
        omega
end
end Go.X
end

section
set_option linter.unusedVariables false
set_option linter.unusedSimpArgs false
set_option linter.unusedSectionVars false
/- Guarded operations that the executor has no arm for: run as if unguarded, or passed over. -/
set_option linter.unusedVariables false
set_option linter.unusedSimpArgs false
set_option maxRecDepth 10000
namespace Go.X
open Go

def subG : GP → GP → Bool
  | [], _ => true
  | (s, w) :: r, π => (match memGP π s w with
    | true => subG r π
    | false => false)
where memGP : GP → Nat → Bool → Bool
  | [], _, _ => false
  | (t, v) :: r, s, w => match Nat.beq t s, v == w with
    | true, true => true
    | _, _ => memGP r s w
theorem memGP_ok : ∀ {π : GP} {s : Nat} {w : Bool}, subG.memGP π s w = true → (s, w) ∈ π
  | (t, v) :: r, s, w, h => by
    simp only [subG.memGP] at h
    split at h
    · rename_i h1 h2
      have h1 : t = s := by simpa using h1
      have h2 : v = w := by simpa using h2
      subst h1; subst h2
      exact List.mem_cons_self
    · exact List.mem_cons_of_mem _ (memGP_ok h)
theorem subG_ok : ∀ {σ π : GP}, subG σ π = true → ∀ x ∈ σ, x ∈ π
  | (s, w) :: r, π, h, x, hx => by
    simp only [subG] at h
    split at h
    · rename_i h1
      rcases List.mem_cons.1 hx with rfl | hx
      · exact memGP_ok h1
      · exact subG_ok h x hx
    · cases h
/-- Do the guards hold, as far as the state tells? -/
def satGP (F : LF) : GP → Prop
  | [] => True
  | (s, w) :: r => satGP F r ∧ match F s with
    | some ⟨gp, .sb q⟩ => subG gp r = true ∧ q = w
    | _ => False
theorem satGP_ok {ρ : Env} {F : LF} {a : Act} (hF : FM ρ F a) : ∀ {π : GP}, satGP F π → GPsat a π
  | [], _ => fun x hx => by cases hx
  | (s, w) :: r, h => by
    obtain ⟨h1, h2⟩ := h
    have hr := satGP_ok hF h1
    split at h2
    · rename_i gp q e
      obtain ⟨h3, rfl⟩ := h2
      obtain ⟨v, h4, h5⟩ := (hF s _ e).1 (fun x hx => hr x (subG_ok h3 x hx))
      simp only [den, Option.some.injEq] at h5
      subst h5
      intro x hx
      rcases List.mem_cons.1 hx with rfl | hx
      · exact h4
      · exact hr x hx
    · exact h2.elim

section
variable {X : Cx} {st : St} {F : Fence} {n : Nat} {P : Program} {Q : Exit → Act → World → Prop}

theorem yielded_set {ops : List Oper} {i : Nat} {o o' : Oper} (ho : ops[i]? = some o) (hd : o'.dst = o.dst) (tmps : Array Value) : yielded (ops.set i o').toArray tmps = yielded ops.toArray tmps := by
  funext j
  simp only [yielded, List.getElem?_toArray, List.getElem?_set]
  by_cases h : i = j
  · subst h
    have hlt : i < ops.length := by
      rcases Nat.lt_or_ge i ops.length with h | h
      · exact h
      · rw [List.getElem?_eq_none h] at ho; cases ho
    simp only [if_true, hlt, ho, Option.bind_some, hd]
  · simp only [h, if_false]

theorem wpOps_set {ops : List Oper} {i : Nat} {o o' : Oper} (ho : ops[i]? = some o) (hd : o'.dst = o.dst) : ∀ (l : List Nat) (a : Act) (w : World), (∀ k ∈ l, k ≠ i) →
    wpOpsIn F n P (ops.set i o').toArray Q l a w → wpOpsIn F n P ops.toArray Q l a w
  | [], a, w, _, h => h
  | k :: l, a, w, hk, h => by
    have hne : ¬ i = k := fun e => hk k List.mem_cons_self e.symm
    have ih := fun a w => wpOps_set ho hd l a w (fun k hk' => hk k (List.mem_cons_of_mem _ hk'))
    have e1 : (ops.set i o').toArray[k]? = ops.toArray[k]? := by simp only [List.getElem?_toArray, List.getElem?_set, hne, if_false]
    simp only [wpOpsIn] at h ⊢
    rw [e1] at h
    split at h
    · exact ih _ _ h
    · rename_i o₁ e
      rw [yielded_set ho hd] at h
      split at h
      · rename_i hw
        rw [if_pos hw]
        exact Oper.wpIn_mono (fun a w h => ih a w h) h
      · rename_i hw
        rw [if_neg hw]
        exact ⟨h.1, ih _ _ h.2⟩

/-- What was laid under guards that hold needs them no more. -/
def stripF (π : GP) : List (Nat × FE) → List (Nat × FE)
  | [] => []
  | (t, ⟨gp, v⟩) :: r => match subG gp π with
    | true => (t, ⟨[], v⟩) :: stripF π r
    | false => (t, ⟨gp, v⟩) :: stripF π r
def fStrip (π : GP) : List (Nat × FE) → (List (Nat × FE) → Prop) → Prop
  | [], K => K []
  | (t, ⟨gp, v⟩) :: r, K => match subG gp π with
    | true => fStrip π r fun r' => K ((t, ⟨[], v⟩) :: r')
    | false => fStrip π r fun r' => K ((t, ⟨gp, v⟩) :: r')
theorem fStrip_eq (π : GP) : ∀ (F : List (Nat × FE)) (K : List (Nat × FE) → Prop), fStrip π F K = K (stripF π F)
  | [], K => rfl
  | (t, ⟨gp, v⟩) :: r, K => by
    simp only [fStrip, stripF]
    cases subG gp π <;> simp only [fStrip_eq π r]
theorem stripF_find {π : GP} : ∀ {F : List (Nat × FE)} {t : Nat} {e : FE}, findF (stripF π F) t = some e → ∃ gp, findF F t = some ⟨gp, e.v⟩ ∧ (e.gp = gp ∨ e.gp = [] ∧ subG gp π = true)
  | (s, ⟨gp, v⟩) :: r, t, e, h => by
    simp only [stripF] at h
    cases hs : subG gp π with
    | true =>
      rw [hs] at h
      simp only [findF] at h ⊢
      split at h
      · rename_i e1
        cases h
        rw [if_pos e1]
        exact ⟨gp, rfl, .inr ⟨rfl, hs⟩⟩
      · rename_i e1
        rw [if_neg e1]
        exact stripF_find h
    | false =>
      rw [hs] at h
      simp only [findF] at h ⊢
      split at h
      · rename_i e1
        cases h
        rw [if_pos e1]
        exact ⟨gp, rfl, .inl rfl⟩
      · rename_i e1
        rw [if_neg e1]
        exact stripF_find h
theorem Mod.strip {X : Cx} {st : St} {ρ : Env} {a : Act} {w : World} {π : GP} (hm : Mod X ρ st a w) (hs : GPsat a π) : Mod X ρ { st with F := stripF π st.F } a w where
  fm t e hf := by
    obtain ⟨gp, h1, h2⟩ := stripF_find hf
    have h3 := hm.fm t _ h1
    rcases h2 with h2 | ⟨h2, h4⟩
    · rw [h2]; exact h3
    · rw [h2]
      exact ⟨fun _ => h3.1 (fun x hx => hs x (subG_ok h4 x hx)), fun h => absurd (fun x hx => by cases hx) h⟩
  gs t e hf x hx := by
    obtain ⟨gp, h1, h2⟩ := stripF_find hf
    rcases h2 with h2 | ⟨h2, h4⟩
    · rw [h2] at hx; exact hm.gs t _ h1 x hx
    · rw [h2] at hx; cases hx
  df := hm.df
  hm := hm.hm
  kp := hm.kp
  nx := hm.nx
  sz := hm.sz

/-- The guards hold: the operation runs as if it had none. -/
theorem fb_run {X : Cx} {st : St} {π : GP} {ops : List Oper} {i : Nat} {o : Oper} {r : List Oper} {Q : Exit → Act → World → Prop} {K : St → Prop} {Kp : List PanicEntry → St → Prop} (hi : ops.drop i = o :: r)
    (hg : guardOf ops (findF st.F) o.guard = some π) (hs : satGP (findF st.F) π)
    (h : stK st fun F gs H nx D => fStrip π F fun F' => FbO X (ops.set i { o with guard := none }) Q K Kp i { o with guard := none } r ⟨F', gs, H, nx, D⟩) : FbO X ops Q K Kp i o r st := by
  rw [stK_eq, fStrip_eq] at h
  refine ⟨fun ρ a w hm => ?_⟩
  have ho : ops[i]? = some o := by
    have := congrArg (fun l => l[0]?) hi
    simpa using this
  have hlt : i < ops.length := by
    rcases Nat.lt_or_ge i ops.length with h | h
    · exact h
    · rw [List.getElem?_eq_none h] at ho; cases ho
  have h1 := h.h ρ a w (hm.strip (satGP_ok hm.fm hs))
  have hw := (guardOf_ok hm.fm hg).2 (satGP_ok hm.fm hs)
  rw [List.range'_succ] at h1 ⊢
  have e1 : (ops.set i { o with guard := none }).toArray[i]? = some { o with guard := none } := by
    simp only [List.getElem?_toArray, List.getElem?_set, if_true, hlt]
  simp only [wpOpsIn, e1] at h1
  rw [if_pos (guard_none rfl _)] at h1
  refine wpOps_cons (by simpa using ho) (fun _ => ?_) (fun hf => by rw [hw] at hf; cases hf)
  have h2 : Oper.wpIn (FW X.r) 0 X.P o a w (wpOpsIn (FW X.r) 0 X.P (ops.set i { o with guard := none }).toArray Q (List.range' (i + 1) r.length)) Q := h1
  exact Oper.wpIn_mono (fun a w h => wpOps_set (o' := { o with guard := none }) ho rfl _ a w (fun k hk => by have := (List.mem_range'_1.1 hk).1; omega) h) h2

/-- A guard does not hold: the operation is passed over. -/
theorem fb_skip (s : Nat) (w : Bool) {X : Cx} {st : St} {π gp : GP} {q : Bool} {d : Nat} {ops : List Oper} {i : Nat} {o : Oper} {r : List Oper} {Q : Exit → Act → World → Prop} {K : St → Prop} {Kp : List PanicEntry → St → Prop} (hX : X.Ok)
    (hC : Cont X Q K Kp) (hi : ops.drop i = o :: r) (hg : guardOf ops (findF st.F) o.guard = some π) (hdst : o.dst = some d) (hp : putN st.gs X.nt (some d) = false) (hfree : findF st.F d = none)
    (hm : subG [(s, w)] π = true) (hf : findF st.F s = some ⟨gp, .sb q⟩) (hs : satGP (findF st.F) gp) (hq : q = !w)
    (h : stK st fun F gs H nx D => fGP π fun π' => fNs (gpSlots π gs) fun gs' => execL X ops Q K Kp (i + 1) r ⟨(d, ⟨π', .sb false⟩) :: F, gs', H, nx, D⟩) : FbO X ops Q K Kp i o r st := by
  refine ⟨fun ρ a w' hmod => ?_⟩
  have ho : ops[i]? = some o := by
    have := congrArg (fun l => l[0]?) hi
    simpa using this
  have hd' : ops.drop (i + 1) = r := by
    have := congrArg List.tail hi
    simpa using this
  have hns : ¬ GPsat a π := by
    intro hsat
    have h1 := hsat (s, w) (subG_ok hm _ List.mem_cons_self)
    obtain ⟨v, h2, h3⟩ := (hmod.fm s _ hf).1 (satGP_ok hmod.fm hs)
    simp only [den, Option.some.injEq] at h3
    subst h3
    rw [h2, hq] at h1
    cases w <;> cases h1
  have hw : Region.wanted o (yielded ops.toArray a.tmps) = false := by
    cases e : Region.wanted o (yielded ops.toArray a.tmps) with
    | false => rfl
    | true => exact absurd ((guardOf_ok hmod.fm hg).1 e) hns
  obtain ⟨hp1, hp2⟩ := putN_ok hp
  have hne := guard_ne hg hmod.gs hfree hp2
  rw [stK_eq, fGP_eq, fNs_eq] at h
  rw [List.range'_succ]
  refine wpOps_cons (by simpa using ho) (fun hf => by rw [hw] at hf; cases hf) (fun _ => ?_)
  rw [hdst]
  exact execL_ok hX hC.k hC.p r (i + 1) ρ _ _ w' hd' h (hmod.putG hp hne (fun h => absurd h hns) (fun _ => rfl))
end
end Go.X
end

section
set_option linter.unusedVariables false
set_option linter.unusedSimpArgs false
set_option linter.unusedSectionVars false
/- Functions with a deferred answer that hold a range over a function. -/
set_option linter.unusedVariables false
set_option linter.unusedSimpArgs false
set_option maxRecDepth 10000
namespace Go.X
open Go
section
variable {X : Cx} {st : St} {ρ : Env} {a : Act} {w : World}

/-- The marks of ranges over functions that lie before a deferred call are taken away. -/
def killD : List SDef → List (Nat × HB) → Option (List (Nat × HB) × List SDef)
  | [], H => some (H, [])
  | (f, args) :: r, H => match Nat.beq f 1000000 with
    | false => some (H, (f, args) :: r)
    | true => (match args with
      | [.sp id 0] => (match findH H id with
        | some .dfr => killD r ((id, .dead) :: H)
        | _ => none)
      | _ => none)

theorem leavesD {P : Program} {fn : Func} {R : Ending → World → Prop} {u : FrameMode} (hu : u ≠ .run) {F : List (Nat × FE)} {gs : List Nat} {nx : Nat} {H' : List (Nat × HB)} {D' : List SDef} : ∀ {D : List SDef} {H : List (Nat × HB)} {a : Act} {w : World},
    killD D H = some (H', D') → Mod X ρ ⟨F, gs, H, nx, D⟩ a w → (∀ a' w'', a'.tmps = a.tmps → Mod X ρ ⟨F, gs, H', nx, D'⟩ a' w'' → LeavesInM Fence.wide 0 P fn a.tmps R a'.defers u w'') →
    LeavesInM Fence.wide 0 P fn a.tmps R a.defers u w
  | [], H, a, w, hk, hm, hfin => by
    simp only [killD] at hk; cases hk
    exact hfin a w rfl hm
  | (f, args) :: r, H, a, w, hk, hm, hfin => by
    simp only [killD] at hk
    split at hk
    · cases hk
      exact hfin a w rfl hm
    · rename_i e1
      split at hk
      · rename_i id
        split at hk
        · rename_i e2
          have hdf := hm.df
          cases hds : a.defers with
          | nil => rw [hds] at hdf; exact hdf.elim
          | cons d ds =>
            rw [hds] at hdf
            obtain ⟨⟨vals, h1, h2⟩, h3⟩ := hdf
            obtain ⟨v, vs, g1, g2, rfl⟩ := denL_cons h1
            simp only [denL, Option.some.injEq] at g2
            subst g2
            obtain ⟨b, hb, rfl⟩ := den_sp g1
            have hd : d = { target := .collected b, args := #[] } := by rw [h2]; simp only [mkDef, e1]
            obtain ⟨nm, k1, k2⟩ := hm.hm.ok _ _ e2
            rw [hb] at k1; cases k1
            refine ⟨hu, .inl ⟨b, _, by rw [hd], run_takeDeferred (P := P) k2, ?_⟩⟩
            have hm1 := hm.killAt (w' := w.putObj b (.deferred none)) e2 rfl hb rfl World.putObj_size (fun k hk => World.putObj_heap_other hk)
            have hm2 : Mod X ρ ⟨F, gs, (id, .dead) :: H, nx, r⟩ { a with defers := ds } (w.putObj b (.deferred none)) := {
              fm := hm1.fm, gs := hm1.gs, df := h3, hm := hm1.hm, kp := hm1.kp, nx := hm1.nx, sz := hm1.sz }
            exact leavesD hu (a := { a with defers := ds }) hk hm2 (fun a' w'' q1 q3 => hfin a' w'' q1 q3)
        · cases hk
      · cases hk

def FinDM (X : Cx) (n tRef tErr : Nat) (rs : List ResultVar) (Rv : SV → St → Prop) (e : Ex) (st : St) : Prop :=
  match killD st.D st.H with
  | some (H', D') => FinD X n tRef tErr rs Rv e ⟨st.F, st.gs, H', st.nx, D'⟩
  | none => False

/-- From a body with a deferred answer to its call. -/
theorem calls_of_execDM (hX : X.Ok) (hr : X.r = none) {n tRef tErr : Nat} (hA : AnswerOk X.P n tRef tErr) {f : Nat} {fn : Func} {c : Code} (hf : X.P.funcs[f]? = some fn) (hb : fn.body = some c) (hnt : fn.ntmps = X.nt)
    {args : List SV} {vals : List Value} {H : List (Nat × HB)} {nx : Nat} (hd : denL ρ args = some vals) (hlen : args.length ≤ X.nt) (hH : HM ρ (findH H) w)
    (hG : X.G = ⟨w, Own ρ (findH H), ρ, Fz (findH H)⟩) (hnx : ∀ j, nx ≤ j → ρ j = none) {Rv : SV → St → Prop}
    (h : exec X c (start args H nx) (FinDM X n tRef tErr fn.results.toList Rv)) : Calls X.P f vals.toArray w (CEnd X Rv fun _ _ => False) := by
  refine (callsIn_wide (n := 0)).1 ?_
  have hm := start_mod (X := X) hd hlen hH hG hnx
  have hw := exec_ok hX c _ _ h ρ _ w hm
  rw [hr] at hw
  refine callsIn_of_wp_marks (F := Fence.wide) hf hb trivial (wpIn_mono (by rw [hnt]; exact hw) ?_)
  rintro e a₀ w₀ ⟨x, st₀, ρ', rfl, hm₀, hk₀⟩
  unfold FinDM at hk₀
  split at hk₀
  case h_2 => exact hk₀.elim
  rename_i H' D' hkD
  have hgo : ∀ u, u ≠ FrameMode.run → (∀ a' w'', a'.tmps = a₀.tmps → Mod X ρ' ⟨st₀.F, st₀.gs, H', st₀.nx, D'⟩ a' w'' → LeavesInM Fence.wide 0 X.P fn a₀.tmps (CEnd X Rv fun _ _ => False) a'.defers u w'') →
      LeavesInM Fence.wide 0 X.P fn a₀.tmps (CEnd X Rv fun _ _ => False) a₀.defers u w₀ := fun u hu hf => leavesD (X := X) (F := st₀.F) (gs := st₀.gs) (nx := st₀.nx) hu hkD (by cases st₀; exact hm₀) hf
  obtain ⟨st', hst₀⟩ : ∃ st' : St, (⟨st₀.F, st₀.gs, H', st₀.nx, D'⟩ : St) = st' := ⟨_, rfl⟩
  rw [hst₀] at hk₀
  have hk := hk₀
  have hret : (errOf n tErr st' fun _ => (match resAll X st' fn.results.toList with
      | some l => fSVL l fun l' => Rv (resV l') st'
      | none => False)) → LeavesInM Fence.wide 0 X.P fn a₀.tmps (CEnd X Rv fun _ _ => False) a₀.defers .returning w₀ := by
    intro hk
    refine hgo _ (by intro h; cases h) fun a' w' hat hm' => ?_
    rw [hst₀] at hm'
    rw [← hat]
    obtain ⟨id, y, hD, hfi, hmk, hk⟩ := errOf_ok hk
    obtain ⟨b, u, g1, g2, g0, g3⟩ := def_arg hm' hD hfi hmk
    rw [g1]
    refine ⟨(by intro h; cases h), .inr ⟨(by intro h; cases h), _, _, _, _, rfl, hA.body _ _, (fun g _ => trivial), ?_⟩⟩
    refine (hA.ret w' b u g0 g3).mono ?_
    rintro e u' w₂ ⟨⟨v, rfl⟩, rfl, hs, hk2, hst⟩
    have hm₂ : Mod X ρ' st' a' w₂ := { hm' with hm := hm'.hm.world hs hk2, kp := hm'.kp.world hs hk2 hst }
    split at hk
    · rename_i l e1
      rw [fSVL_eq] at hk
      obtain ⟨u, h1, h2⟩ := results_ok hX hm₂ e1
      exact ⟨u, h1, .inl ⟨_, st', ρ', u, rfl, h2, hm₂.mh, hk⟩⟩
    · exact hk.elim
  cases x with
  | normal => exact hret hk
  | ret => exact hret hk
  | panic ch =>
    obtain ⟨id, y, hD, hfi, hmk, hk⟩ := errOf_ok hk
    obtain ⟨k, m, rfl, hkk⟩ := isRef_ok hk
    refine hgo _ (by intro h; cases h) fun a' w' hat hm' => ?_
    rw [hst₀] at hm'
    rw [← hat]
    obtain ⟨b, u, g1, g2, g0, g3⟩ := def_arg hm' hD hfi hmk
    rw [g1]
    refine ⟨(by intro h; cases h), .inr ⟨(by intro h; cases h), _, _, _, _, rfl, hA.body _ _, (fun g _ => trivial), ?_⟩⟩
    refine (hA.pan w' b u k m g0 g3).mono ?_
    rintro e u' w₂ ⟨⟨v, rfl⟩, rfl, hs, hk2, hk3, hst⟩
    obtain ⟨F, gs, H, nx, D⟩ := st'
    have hm₂ : Mod X ρ' ⟨F, gs, (id, .cells tErr [.si k m]) :: H, nx, D⟩ a' w₂ := {
      fm := hm'.fm
      gs := hm'.gs
      df := hm'.df
      hm := hm'.hm.put hfi rfl g2 rfl hs hk2 (by exact ⟨[.int k m], by simp [denL, den], by simp [Value.oneCell'], hk3⟩) rfl (fun _ _ _ h => by cases h)
      kp := hm'.kp.put hfi rfl g2 rfl hs hk2 hst
      nx := hm'.nx
      sz := hm'.sz }
    simp only at hkk
    split at hkk
    · rename_i l e1
      rw [fSVL_eq] at hkk
      obtain ⟨u, h1, h2⟩ := results_ok hX hm₂ e1
      exact ⟨u, h1, .inl ⟨_, _, ρ', u, rfl, h2, hm₂.mh, hkk⟩⟩
    · exact hkk.elim
  | exit n => exact hk.elim

/-- What a contract of a function with a deferred answer rests on. -/
def WalkDM (P : Program) (T : Tab) (C : Nat → Option Ct) (n tRef tErr : Nat) (fn : Func) (c : Code) (H : LH) (args : List SV) (fr : Nat) (out : COut) : Prop :=
  ∃ (ps : List (Nat × HB)) (args₀ : List SV) (H₀ : List (Nat × HB)) (n₀ : Nat) (K : List Nat), args = renL (sigP ps) args₀ ∧ knL ps.length [] args₀ = true ∧ args₀.length ≤ fn.ntmps ∧ Hand H ps ∧ H₀ = numb 0 ps ∧ n₀ = ps.length ∧
    ∀ G : Base, (∀ j, n₀ ≤ j → G.ρ j = none) → exec ⟨P, T, C, G, none, fn.ntmps⟩ c (start args₀ H₀ n₀) (FinDM ⟨P, T, C, G, none, fn.ntmps⟩ n tRef tErr fn.results.toList
      (fun v st => (out.pan = none ∨ ∃ ch, out.pan = some (false, ch)) ∧ EndOk ps K fr out v st))

theorem cokDM {P : Program} {T : Tab} {C : Nat → Option Ct} (hX : ∀ G r nt, (⟨P, T, C, G, r, nt⟩ : Cx).Ok) {n tRef tErr : Nat} (hA : AnswerOk P n tRef tErr) {f : Nat} {fn : Func} {c : Code} (hf : P.funcs[f]? = some fn) (hb : fn.body = some c) {ct : Ct}
    (h : ∀ fr args H out, ct fr args H = some out → PreH out.pre → WalkDM P T C n tRef tErr fn c H args fr out) : COk P f ct :=
  cokC (nt := fn.ntmps) fun fr args H out h1 h2 => by
    obtain ⟨ps, args₀, H₀, n₀, K, h1, h2, h3, h4, h5, h6, hex⟩ := h fr args H out h1 h2
    refine ⟨ps, args₀, H₀, n₀, K, h1, h2, h3, h4, h5, h6, fun ρ w vals hd hm hnx => ?_⟩
    exact (calls_of_execDM (X := ⟨P, T, C, ⟨w, Own ρ (findH H₀), ρ, Fz (findH H₀)⟩, none, fn.ntmps⟩) (hX _ _ _) rfl hA hf hb rfl hd h3 hm rfl hnx (hex _ hnx)).mono fun e w' he => he.mono (fun _ _ h => h) (fun _ _ h => h.elim)
end
end Go.X
end

section
set_option linter.unusedVariables false
set_option linter.unusedSimpArgs false
set_option linter.unusedSectionVars false
/- Functions that hold a range over a function, run through in place. -/
set_option linter.unusedVariables false
set_option linter.unusedSimpArgs false
set_option maxRecDepth 10000
namespace Go.X
open Go

theorem callS_execM {P : Program} {T : Tab} {C : Nat → Option Ct} (hX : ∀ G r nt, (⟨P, T, C, G, r, nt⟩ : Cx).Ok) {n : Nat} {fn : Func} {c : Code} (hf : P.funcs[n]? = some fn) (hb : fn.body = some c)
    {l : List SV} (hlen : l.length ≤ fn.ntmps) {H : List (Nat × HB)} {nx : Nat} {Rv : SV → List (Nat × HB) → Nat → Prop} {Rp : List PanicEntry → List (Nat × HB) → Nat → Prop}
    (h : ∀ G : Base, (∀ j, nx ≤ j → G.ρ j = none) → exec ⟨P, T, C, G, none, fn.ntmps⟩ c (start l H nx) (FinM ⟨P, T, C, G, none, fn.ntmps⟩ fn.results.toList (fun v st => Rv v st.H st.nx) (fun ch st => Rp ch st.H st.nx))) :
    CallS P n l H nx Rv Rp := by
  intro ρ w vals hm hnx hd
  have hcall := calls_of_execM (X := ⟨P, T, C, ⟨w, Own ρ (findH H), ρ, Fz (findH H)⟩, none, fn.ntmps⟩) (hX _ _ _) rfl hf hb rfl hd hlen hm rfl hnx (fun x _ => by cases x with | tmp t => exact ⟨t, .inl rfl⟩ | cell t ty => exact ⟨t, .inr ⟨ty, rfl⟩⟩) (h _ hnx)
  refine hcall.mono ?_
  rintro e w' (⟨v, st, ρ', u, rfl, hv, hmh, hr⟩ | ⟨ch, st, ρ', rfl, hmh, hr⟩)
  · exact .inl ⟨v, st.H, st.nx, ρ', u, rfl, hv, hmh.hm, hmh.kp, hmh.nx, hr⟩
  · exact .inr ⟨ch, st.H, st.nx, ρ', rfl, hmh.hm, hmh.kp, hmh.nx, hr⟩

/-- So of each slot. -/
def allV (p : Nat → SV → Prop) : List (Nat × SV) → Prop
  | [] => True
  | (t, v) :: r => p t v ∧ allV p r
theorem allV_find {p : Nat → SV → Prop} : ∀ {l : List (Nat × SV)}, allV p l → ∀ t v, findV l t = some v → p t v
  | [], _, t, v, h => by cases h
  | (s, u) :: r, ha, t, v, h => by
    simp only [findV] at h
    split at h
    · rename_i e
      have e : s = t := by simpa using e
      subst e; cases h
      exact ha.1
    · exact allV_find ha.2 t v h

/-! ### Pieces that are handed on -/
def allP (p : Nat → HB → Prop) : List (Nat × HB) → Prop
  | [] => True
  | (c, h) :: r => p c h ∧ allP p r
theorem allP_get {p : Nat → HB → Prop} : ∀ {l : List (Nat × HB)}, allP p l → ∀ (j c : Nat) (h : HB), l[j]? = some (c, h) → p c h
  | (c', h') :: r, ha, 0, c, h, hj => by simp at hj; obtain ⟨rfl, rfl⟩ := hj; exact ha.1
  | (c', h') :: r, ha, j + 1, c, h, hj => allP_get ha.2 j c h (by simpa using hj)
def ownT : HB → Option Nat
  | .cells T _ => some T
  | .map _ _ => some 1000000
  | _ => none
def noT (T : Nat) : List (Nat × HB) → Bool
  | [] => true
  | (_, h) :: r => (match ownT h with
    | some U => (match Nat.beq T U with
      | true => false
      | false => noT T r)
    | none => noT T r)
def distT : List (Nat × HB) → Bool
  | [] => true
  | (_, h) :: r => (match ownT h with
    | some T => (match noT T r with
      | true => distT r
      | false => false)
    | none => distT r)
theorem noT_get : ∀ {T : Nat} {l : List (Nat × HB)}, noT T l = true → ∀ (j c : Nat) (h : HB), l[j]? = some (c, h) → ownT h ≠ some T
  | T, (c', h') :: r, hn, j, c, h, hj => by
    simp only [noT] at hn
    have key : noT T r = true ∧ ownT h' ≠ some T := by
      split at hn
      · rename_i U e
        split at hn
        · cases hn
        · rename_i e2
          refine ⟨hn, fun e3 => ?_⟩
          rw [e] at e3; cases e3
          simp at e2
      · rename_i e
        exact ⟨hn, by rw [e]; intro h; cases h⟩
    cases j with
    | zero => simp at hj; obtain ⟨rfl, rfl⟩ := hj; exact key.2
    | succ j => exact noT_get key.1 j c h (by simpa using hj)
theorem distT_get : ∀ {l : List (Nat × HB)}, distT l = true → ∀ (i j c c' : Nat) (h h' : HB) (T : Nat), i < j → l[i]? = some (c, h) → l[j]? = some (c', h') → ownT h = some T → ownT h' ≠ some T
  | (c₀, h₀) :: r, hd, i, j, c, c', h, h', T, hij, hi, hj, ho => by
    simp only [distT] at hd
    cases j with
    | zero => omega
    | succ j =>
      have hj : r[j]? = some (c', h') := by simpa using hj
      cases i with
      | zero =>
        simp at hi; obtain ⟨rfl, rfl⟩ := hi
        rw [ho] at hd
        dsimp only at hd
        split at hd
        · rename_i e; exact noT_get e j c' h' hj
        · cases hd
      | succ i =>
        have hi : r[i]? = some (c, h) := by simpa using hi
        have hd' : distT r = true := by
          split at hd
          · split at hd
            · exact hd
            · cases hd
          · exact hd
        exact distT_get hd' i j c c' h h' T (by omega) hi hj ho
theorem ownT_of {H : LH} {s : Nat → Nat} {c : Nat} {h h' : HB} (k : PieceOk H s c h) (k' : PieceOk H s c h') (o : ownP h = true) (o' : ownP h' = true) : ∃ T, ownT h = some T ∧ ownT h' = some T := by
  cases h <;> cases o <;> cases h' <;> cases o'
  · rename_i T cs T' cs'
    have k : H c = some (.cells T (renL s cs)) := k
    have k' : H c = some (.cells T' (renL s cs')) := k'
    rw [k] at k'
    simp only [Option.some.injEq, HB.cells.injEq] at k'
    exact ⟨T, rfl, by rw [k'.1]; rfl⟩
  · have k : H c = _ := k
    have k' : H c = _ := k'
    rw [k] at k'
    cases k'
  · have k : H c = _ := k
    have k' : H c = _ := k'
    rw [k] at k'
    cases k'
  · exact ⟨_, rfl, rfl⟩
theorem hand_mk {H : LH} {ps : List (Nat × HB)} (h1 : allP (fun c h => PieceOk H (sigP ps) c h) ps) (h2 : allP (fun _ h => InHB (fun i => i < ps.length) h) ps) (h3 : distT ps = true) : Hand H ps where
  ok := allP_get h1
  ids := allP_get h2
  inj i j c hb hb' e1 e2 o1 o2 := by
    obtain ⟨T, t1, t2⟩ := ownT_of (allP_get h1 i c hb e1) (allP_get h1 j c hb' e2) o1 o2
    rcases Nat.lt_trichotomy i j with h | h | h
    · exact absurd t2 (distT_get h3 i j c c hb hb' T h e1 e2 t1)
    · exact h
    · exact absurd t1 (distT_get h3 j i c c hb' hb T h e2 e1 t2)
end Go.X
end

section
set_option linter.unusedVariables false
set_option linter.unusedSimpArgs false
set_option linter.unusedSectionVars false
/- Loops in each round of which a function is ranged over: the marks that they leave. -/
set_option linter.unusedVariables false
set_option linter.unusedSimpArgs false
set_option maxRecDepth 10000
namespace Go.X
open Go

theorem findH_skip {a : Nat} {x : HB} {l : List (Nat × HB)} {t : Nat} (h : a ≠ t) : findH ((a, x) :: l) t = findH l t := by
  rw [findH_cons, updL_ne _ _ h]
theorem findH_app {A B : List (Nat × HB)} {t : Nat} : findH (A ++ B) t = match findH A t with
    | some x => some x
    | none => findH B t := by
  induction A with
  | nil => rfl
  | cons p r ih =>
    obtain ⟨a, x⟩ := p
    rw [List.cons_append]
    by_cases h : a = t
    · subst h; rw [findH_cons, updL_self, findH_cons, updL_self]
    · rw [findH_skip h, findH_skip h]; exact ih

section
variable {s s' : Nat → Nat} {n n' : Nat}
end

/-! ### Functions whose loops leave marks -/
section
variable {X : Cx} {st : St} {ρ : Env} {a : Act} {w : World}
end
end Go.X
end

section
set_option linter.unusedVariables false
set_option linter.unusedSimpArgs false
set_option linter.unusedSectionVars false
/- Calls that are run through without the marks that lie beside. -/
set_option linter.unusedVariables false
set_option linter.unusedSimpArgs false
set_option maxRecDepth 10000
namespace Go.X
open Go

end Go.X
end

section
set_option linter.unusedVariables false
set_option linter.unusedSimpArgs false
set_option linter.unusedSectionVars false
/- Regions whose order Go leaves open: operations that look at slots only are taken first, the rest step by step. -/
set_option linter.unusedVariables false
set_option linter.unusedSimpArgs false
set_option maxRecDepth 10000
namespace Go.X
open Go

def Qnp (X : Cx) (K : Ex → St → Prop) : Exit → Act → World → Prop := fun e a w => match e with
  | .panic _ => False
  | e => Qof X K e a w
/-- What is left to do, from a state, when some operations have run. -/
structure AnyS (X : Cx) (ops : Array Oper) (fuel : Nat) (listed : Array Bool) (st : St) (K : Ex → St → Prop) : Prop where
  h : ∀ ρ a w, Mod X ρ st a w → wpAnyIn (FW X.r) 0 X.P .any ops (Qnp X K) fuel listed a w

theorem any_region {X : Cx} {st : St} {K : Ex → St → Prop} {id : Nat} {ops : Array Oper} (hm : X.P.follows .mixedOrders = true) (h : AnyS X ops ops.size (Array.replicate ops.size false) st K) : SemC X (.region id ops true) st K := by
  intro ρ a w hmod
  have hmod' : Mod X ρ st a { w with drawn := w.drawn + 1 } := {
    fm := hmod.fm, gs := hmod.gs, df := hmod.df, hm := hmod.hm.world (Nat.le_refl _) (fun _ _ => rfl), kp := hmod.kp.world (Nat.le_refl _) (fun _ _ => rfl), nx := hmod.nx, sz := hmod.sz }
  refine wpIn_mono (Q := Qnp X K) (wpIn_region_any hm (h.h ρ a _ hmod')) ?_
  intro e a' w' hq
  cases e <;> first | exact hq | exact hq.elim

theorem any_done {X : Cx} {st : St} {K : Ex → St → Prop} {ops : Array Oper} {fuel : Nat} {listed : Array Bool} (hr : Region.ready .any ops listed = []) (h : K .normal st) : AnyS X ops fuel listed st K :=
  ⟨fun ρ a w hm => wpAnyIn_done hr ⟨.normal, st, ρ, rfl, hm, h⟩ fuel⟩

theorem any_take {X : Cx} {st : St} {K : Ex → St → Prop} (i : Nat) {d : Nat} {o : Oper} {pre : Option Prop} {v : SV} {ops : Array Oper} {fuel : Nat} {listed : Array Bool} (hX : X.Ok) (hr : X.r = none) (ho : ops[i]? = some o) (hd : o.dst = some d) (hg : o.guard = none)
    (hc : core X.T (findF st.F) [] (fun _ => none) st.nx o.op = some ⟨pre, v, .no⟩) (hnc : isCall o.op = none) (hp : putN st.gs X.nt (some d) = false) (hs : Region.noSelect ops = true) (hf : Region.free .any ops listed i = true)
    (hrd : (Region.ready .any ops listed).contains i = true)
    (h : ChkO pre (stK st fun F gs H nx D => fSV v fun v' => AnyS X ops fuel (listed.setIfInBounds i true) ⟨(d, ⟨[], v'⟩) :: F, gs, H, nx, D⟩ K)) : AnyS X ops (fuel + 1) listed st K := by
  refine ⟨fun ρ a w hm => ?_⟩
  have hsat : GPsat a [] := fun x hx => by cases hx
  have hHρ : ∀ w : World, HM ρ (fun _ => none) w := fun w => {
    ok := fun _ _ h => by cases h
    sep := fun _ _ _ _ _ _ _ h => by cases h
    ro := fun _ _ _ _ _ _ h => by cases h
    fam := fun _ ⟨_, _, _, _, _, _, h, _⟩ => by cases h }
  have hk := ChkO_k h
  rw [stK_eq, fSV_eq] at hk
  -- core's word in whatever world
  have hall : ∀ w : World, ∃ u, (execOp a.eval o).run X.P w = .ok (.value u) w ∧ den ρ v = some u := fun w => by
    exact core_ok hX.tab hm.fm hsat (hHρ w) (hm.nx _ (Nat.le_refl _)) hc (ChkO_pre h)
  obtain ⟨u, _, hu⟩ := hall w
  have hy : YieldsFenced X.P ops o u a := by
    refine ⟨.inl ⟨guard_none hg _, fun w => ?_⟩, fun w => ?_⟩
    · obtain ⟨u', h1, h2⟩ := hall w
      rw [hu] at h2; cases h2
      exact h1
    · unfold Oper.about
      cases hop : o.op <;> first | rfl | (rw [hop] at hnc; cases hnc)
  refine wpAnyIn_take (by rw [FW_round, hr]) ho hs hf hrd (fun c a w h => h) hy ?_
  rw [hd]
  exact hk.h ρ _ w (hm.put hp hu)

/-- One operation, whichever is ready. -/
def Qst (X : Cx) (ops : Array Oper) (fuel : Nat) (listed : Array Bool) (K : Ex → St → Prop) : Exit → Act → World → Prop := fun e a w => match e with
  | .normal => wpAnyIn (FW X.r) 0 X.P .any ops (Qnp X K) fuel listed a w
  | e => Qnp X K e a w
theorem cont_any {X : Cx} {ops : Array Oper} {fuel : Nat} {listed : Array Bool} {K : Ex → St → Prop} : Cont X (Qst X ops fuel listed K) (fun st => AnyS X ops fuel listed st K) (fun _ _ => False) where
  k ρ' st' a' w' hm' hk := hk.h ρ' a' w' hm'
  p ch ρ' st' a' w' hm' hk := hk.elim
def stepsK (X : Cx) (ops : Array Oper) (fuel : Nat) (listed : Array Bool) (st : St) (K : Ex → St → Prop) : List Nat → Prop
  | [] => True
  | i :: r => (match nth ops.toList i with
    | some o => (match o.guard with
      | none => execL X [o] (Qst X ops fuel (listed.setIfInBounds i true) K) (fun st' => AnyS X ops fuel (listed.setIfInBounds i true) st' K) (fun _ _ => False) 0 [o] st
      | some _ => False)
    | none => False) ∧ stepsK X ops fuel listed st K r
theorem stepsK_ok {X : Cx} {ops : Array Oper} {fuel : Nat} {listed : Array Bool} {st : St} {K : Ex → St → Prop} (hX : X.Ok) : ∀ {l : List Nat}, stepsK X ops fuel listed st K l → ∀ i ∈ l, ∀ ρ a w, Mod X ρ st a w →
    wpOpIn (FW X.r) 0 X.P ops (Qnp X K) i (wpAnyIn (FW X.r) 0 X.P .any ops (Qnp X K) fuel (listed.setIfInBounds i true)) a w
  | j :: r, h, i, hi, ρ, a, w, hm => by
    rcases List.mem_cons.1 hi with rfl | hi
    · have h1 := h.1
      split at h1
      · rename_i o e
        rw [nth_eq] at e
        have e : ops[i]? = some o := by simpa [Array.getElem?_toList] using e
        split at h1
        · rename_i hg
          have h2 := execL_ok hX (cont_any (X := X) (ops := ops) (fuel := fuel) (listed := listed.setIfInBounds i true) (K := K)).k cont_any.p [o] 0 ρ st a w rfl h1 hm
          have h2 : wpOpsIn (FW X.r) 0 X.P #[o] (Qst X ops fuel (listed.setIfInBounds i true) K) [0] a w := h2
          simp only [wpOpsIn] at h2
          have hw0 : ∀ y, Region.wanted o y = true := fun y => guard_none hg y
          simp only [List.getElem?_toArray, List.getElem?_cons_zero, hw0, if_true] at h2
          unfold wpOpIn
          simp only [e, hw0, if_true]
          have h3 : Oper.wpIn (FW X.r) 0 X.P o a w (wpAnyIn (FW X.r) 0 X.P .any ops (Qnp X K) fuel (listed.setIfInBounds i true)) (Qst X ops fuel (listed.setIfInBounds i true) K) := h2
          unfold Oper.wpIn at h3 ⊢
          refine ⟨h3.1, ?_⟩
          have h4 := h3.2
          generalize (o.semAt (FW X.r).round a.eval).run X.P w = res at h4 ⊢
          cases res with
          | ok x w' => cases x <;> exact h4
          | halt x w' => cases x <;> exact h4
        · exact h1.elim
      · exact h1.elim
    · exact stepsK_ok hX h.2 i hi ρ a w hm
theorem any_step {X : Cx} {st : St} {K : Ex → St → Prop} {ops : Array Oper} {fuel : Nat} {listed : Array Bool} (rs : List Nat) (hX : X.Ok) (hr : Region.ready .any ops listed = rs) (hne : rs ≠ []) (h : stepsK X ops fuel listed st K rs) : AnyS X ops (fuel + 1) listed st K :=
  ⟨fun ρ a w hm => wpAnyIn_all hr hne fun i hi => stepsK_ok hX h i hi ρ a w hm⟩
end Go.X
end

section
set_option linter.unusedVariables false
set_option linter.unusedSimpArgs false
set_option linter.unusedSectionVars false
/- A part of a slice is copied into a part of a slice of our own. -/
set_option linter.unusedVariables false
set_option linter.unusedSimpArgs false
set_option maxRecDepth 10000
namespace Go.X
open Go
section
variable {X : Cx} {st : St}

end
end Go.X
end

section
set_option linter.unusedVariables false
set_option linter.unusedSimpArgs false
set_option linter.unusedSectionVars false
/- Calls: from a part of the heap, and with an empty slice as a piece. -/
set_option linter.unusedVariables false
set_option linter.unusedSimpArgs false
set_option maxRecDepth 10000
namespace Go.X
open Go

end Go.X
end

section
set_option linter.unusedVariables false
set_option linter.unusedSimpArgs false
set_option linter.unusedSectionVars false
/- Branches, and orders of a region, that come together again. -/
set_option linter.unusedVariables false
set_option linter.unusedSimpArgs false
set_option maxRecDepth 10000
namespace Go.X
open Go

theorem any_weaken {X : Cx} {st st' : St} {K : Ex → St → Prop} {ops : Array Oper} {fuel : Nat} {listed : Array Bool} (n0 : Nat) (s : Nat → Nat) (hn : ∀ j, n0 ≤ j → X.G.ρ j = none) (h : WeakR n0 s st st') (hk : AnyS X ops fuel listed st' K) : AnyS X ops fuel listed st K :=
  ⟨fun ρ a w hm => hk.h _ a w (hm.ren h hn)⟩
end Go.X
end

section
set_option linter.unusedVariables false
set_option linter.unusedSimpArgs false
set_option linter.unusedSectionVars false
/- Branches that come together at an operation. -/
set_option linter.unusedVariables false
set_option linter.unusedSimpArgs false
set_option maxRecDepth 10000
namespace Go.X
open Go

end Go.X
end

section
set_option linter.unusedVariables false
set_option linter.unusedSimpArgs false
set_option linter.unusedSectionVars false
/- Deferred closures that call recover, and hand what it gives to a function. -/
set_option linter.unusedVariables false
set_option linter.unusedSimpArgs false
set_option maxRecDepth 10000
namespace Go.X
open Go

section
variable {P : Program} {T : Tab} {C : Nat → Option Ct}
end
end Go.X
end

section
set_option linter.unusedVariables false
set_option linter.unusedSimpArgs false
set_option linter.unusedSectionVars false
/- Functions whose answer is a deferred closure; they may hold ranges over functions. -/
set_option linter.unusedVariables false
set_option linter.unusedSimpArgs false
set_option maxRecDepth 10000
namespace Go.X
open Go
section
variable {X : Cx} {st : St} {ρ : Env} {a : Act} {w : World}

end
end Go.X
end

section
set_option linter.unusedVariables false
set_option linter.unusedSimpArgs false
set_option linter.unusedSectionVars false
/- Fields without size; calls that end in one of several states. -/
set_option linter.unusedVariables false
set_option linter.unusedSimpArgs false
set_option maxRecDepth 10000
namespace Go.X
open Go
section
variable {X : Cx} {st : St}

end

/-- A call that comes to one of several states. -/
theorem callS_toE {ι : Type} {P : Program} {T : Tab} {C : Nat → Option Ct} (hX : ∀ G r nt, (⟨P, T, C, G, r, nt⟩ : Cx).Ok) {n : Nat} {fn : Func} {c : Code} (hf : P.funcs[n]? = some fn) (hb : fn.body = some c) {l : List SV} (hlen : l.length ≤ fn.ntmps)
    {H : List (Nat × HB)} {nx : Nat} {Rv : SV → List (Nat × HB) → Nat → Prop} {Rp : List PanicEntry → List (Nat × HB) → Nat → Prop} (v' : ι → SV) (H' : ι → List (Nat × HB)) (nx' : Nat)
    (h : ∀ G : Base, (∀ j, nx ≤ j → G.ρ j = none) → exec ⟨P, T, C, G, none, fn.ntmps⟩ c (start l H nx) (Fin ⟨P, T, C, G, none, fn.ntmps⟩ fn.results.toList (fun v st => ∃ x s, EndR nx v st.H st.nx (v' x) (H' x) nx' s) (fun _ _ => False)))
    (hk : ∀ x, Rv (v' x) (H' x) nx') : CallS P n l H nx Rv Rp := by
  intro ρ w vals hm hnx hd
  refine (callS_exec hX hf hb hlen (Rv := fun v H₁ nx₁ => ∃ x s, EndR nx v H₁ nx₁ (v' x) (H' x) nx' s) (Rp := fun _ _ _ => False) h ρ w vals hm hnx hd).mono ?_
  rintro e w' (⟨v, H₁, nx₁, ρ₁, u, rfl, h1, h2, h3, h4, x, s, hs⟩ | ⟨_, _, _, _, _, _, _, _, hF⟩)
  · have hm1 : Mod ⟨P, T, C, ⟨w, Own ρ (findH H), ρ, Fz (findH H)⟩, none, 0⟩ ρ₁ ⟨[], [], H₁, nx₁, []⟩ { tmps := #[], defers := [] } w' := {
      fm := fun t e hf => by cases hf
      gs := fun t e hf => by cases hf
      df := trivial
      hm := h2
      kp := h3
      nx := h4
      sz := rfl }
    have hm2 := hm1.ren (n0 := nx) (s := s) (st' := ⟨[], [], H' x, nx', []⟩) ⟨trivial, hs.H, hs.inj, hs.fix, hs.ge, rfl, trivial⟩ hnx
    exact .inl ⟨v' x, H' x, nx', _, u, rfl, by rw [den_envR _ hs.vi, ← SVeq_eq _ _ hs.v]; exact h1, hm2.hm, hm2.kp, hm2.nx, hk x⟩
  · exact hF.elim

end Go.X
end

section
set_option linter.unusedVariables false
set_option linter.unusedSimpArgs false
set_option linter.unusedSectionVars false
/- Calls that are run through with some pieces of the heap alone. -/
set_option linter.unusedVariables false
set_option linter.unusedSimpArgs false
set_option maxRecDepth 10000
namespace Go.X
open Go

/-- Each piece of A has one in H' that stands for it. -/
def coverL (H' : List (Nat × HB)) : List (Nat × HB) → Bool
  | [] => true
  | (t, _) :: r => match findH H' t with
    | some _ => coverL H' r
    | none => false
theorem coverL_find {H' : List (Nat × HB)} : ∀ {A : List (Nat × HB)}, coverL H' A = true → ∀ t x, findH A t = some x → ∃ y, findH H' t = some y
  | (a, y) :: r, h, t, x, hf => by
    simp only [coverL] at h
    split at h
    · rename_i z hz
      by_cases e : a = t
      · subst e; exact ⟨z, hz⟩
      · rw [findH_skip e] at hf
        exact coverL_find h t x hf
    · cases h
/-- What is read only was so before. -/
def roSame (A : List (Nat × HB)) : List (Nat × HB) → Prop
  | [] => True
  | (t, .ro s n g) :: r => (match findH A t with
    | some (.ro _ m _) => n = m
    | _ => False) ∧ roSame A r
  | _ :: r => roSame A r
theorem roSame_find {A : List (Nat × HB)} : ∀ {H' : List (Nat × HB)}, roSame A H' → ∀ t s n g, findH H' t = some (.ro s n g) → ∃ s' g', findH A t = some (.ro s' n g')
  | (a, y) :: r, h, t, s, n, g, hf => by
    by_cases e : a = t
    · subst e
      rw [findH_cons, updL_self] at hf
      cases hf
      simp only [roSame] at h
      obtain ⟨h, _⟩ := h
      split at h
      · rename_i s2 m g2 hz
        subst h
        exact ⟨_, _, hz⟩
      · exact h.elim
    · rw [findH_skip e] at hf
      refine roSame_find (H' := r) ?_ t s n g hf
      cases y with
      | ro s2 n2 g2 => exact h.2
      | _ => exact h
end Go.X
end

section
set_option linter.unusedVariables false
set_option linter.unusedSimpArgs false
set_option linter.unusedSectionVars false
/- The greatest of three numbers; orders that come to what is not known. -/
set_option linter.unusedVariables false
set_option linter.unusedSimpArgs false
set_option maxRecDepth 10000
namespace Go.X
open Go
end Go.X
end

section
set_option linter.unusedVariables false
set_option linter.unusedSimpArgs false
set_option linter.unusedSectionVars false
/- Many branches that come to one loop, with what they have found. -/
set_option linter.unusedVariables false
set_option linter.unusedSimpArgs false
set_option maxRecDepth 10000
namespace Go.X
open Go
theorem sem_weaken {X : Cx} {c : Code} {K : Ex → St → Prop} {st st' : St} (n0 : Nat) (s : Nat → Nat) (hn : ∀ j, n0 ≤ j → X.G.ρ j = none) (hw : WeakR n0 s st st') (h : SemC X c st' K) : SemC X c st K :=
  fun ρ a w hm => h _ a w (hm.ren hw hn)
end Go.X
end
