/- Loops in each round of which a function is ranged over: the marks that they leave; Stack: what is found of all lengths is what is found of all stacks (plain law). -/
import Derived.Test.YtipjgdkaocfapaaTWC
import Derived.OrdersIn
import Derived.Test.YtipjgdkaocfapaaTWB

section
set_option linter.unusedVariables false
set_option linter.unusedSimpArgs false
set_option linter.unusedSectionVars false
/- Loops in each round of which a function is ranged over: the marks that they leave. -/
set_option linter.unusedVariables false
set_option linter.unusedSimpArgs false
set_option maxRecDepth 10000
namespace Go.X
open Go

/-- The marks' blocks, and the marks: their ids go from 1000 on. -/
def dfrL : Nat → List (Nat × HB)
  | 0 => []
  | k + 1 => (1000 + k, .dfr) :: dfrL k
def markL : Nat → List SDef
  | 0 => []
  | k + 1 => (MARK, [.sp (1000 + k) 0]) :: markL k
def withM (st : St) (k : Nat) : St := match st with | ⟨F, gs, H, nx, D⟩ => ⟨F, gs, H ++ dfrL k, 2000, markL k⟩
theorem dfrL_find : ∀ {k t : Nat}, findH (dfrL k) t = if 1000 ≤ t ∧ t < 1000 + k then some .dfr else none
  | 0, t => by
    rw [if_neg (by omega)]; rfl
  | k + 1, t => by
    simp only [dfrL]
    by_cases h : 1000 + k = t
    · subst h
      rw [findH_cons, updL_self, if_pos (by omega)]
    · rw [findH_cons, updL_ne _ _ h, dfrL_find]
      by_cases h2 : 1000 ≤ t ∧ t < 1000 + k
      · rw [if_pos h2, if_pos (by omega)]
      · rw [if_neg h2, if_neg (by omega)]
theorem findH_skip {a : Nat} {x : HB} {l : List (Nat × HB)} {t : Nat} (h : a ≠ t) : findH ((a, x) :: l) t = findH l t := by
  rw [findH_cons, updL_ne _ _ h]
theorem findH_app {A B : List (Nat × HB)} {t : Nat} : findH (A ++ B) t = match findH A t with
    | some x => some x
    | none => findH B t := by
  induction A with
  | nil => rfl
  | cons p r ih =>
    obtain ⟨a, x⟩ := p
    rw [List.cons_append]
    by_cases h : a = t
    · subst h; rw [findH_cons, updL_self, findH_cons, updL_self]
    · rw [findH_skip h, findH_skip h]; exact ih

/-- The ids of marks apart, and one mark more. -/
def sMark (s : Nat → Nat) (id k : Nat) (j : Nat) : Nat := if j < 1000 then s j else if j = 1000 + k then id else j
/-- The ids' new numbers are none of a mark's. -/
def outI (s : Nat → Nat) (id : Nat) : List (Nat × HB) → Bool
  | [] => true
  | (t, _) :: r => match Nat.ble 1000 (s t), Nat.ble 2000 (s t), Nat.beq (s t) id with
    | false, _, false => outI s id r
    | true, true, false => outI s id r
    | _, _, _ => false
theorem outI_ok {s : Nat → Nat} {id : Nat} : ∀ {H : List (Nat × HB)}, outI s id H = true → ∀ t x, findH H t = some x → (s t < 1000 ∨ 2000 ≤ s t) ∧ s t ≠ id
  | (a, y) :: r, h, t, x, hf => by
    simp only [outI] at h
    have key : ((s a < 1000 ∨ 2000 ≤ s a) ∧ s a ≠ id) ∧ outI s id r = true := by
      split at h
      · rename_i h1 h2
        refine ⟨⟨.inl ?_, fun e => by rw [e, Nat.beq_refl] at h2; cases h2⟩, h⟩
        have : ¬ 1000 ≤ s a := fun hle => by rw [Nat.ble_eq_true_of_le hle] at h1; cases h1
        omega
      · rename_i h1 h2 h3
        exact ⟨⟨.inr (Nat.le_of_ble_eq_true h2), fun e => by rw [e, Nat.beq_refl] at h3; cases h3⟩, h⟩
      · cases h
    by_cases e : a = t
    · subst e; exact key.1
    · rw [findH_skip e] at hf
      exact outI_ok key.2 t x hf

/-- What a round has to come to, if it leaves a mark more. -/
def RoundM {α : Type} (n0 : Nat) (J : α → St) (kk : α → Nat) (μ : α → Nat) (x : α) (K : Ex → St → Prop) : Ex → St → Prop
  | .normal, st => ∃ (x' : α) (s : Nat → Nat) (id : Nat), WeakR n0 s ⟨st.F, st.gs, st.H, st.nx, []⟩ (J x') ∧ (J x').nx ≤ 1000 ∧ kk x' = kk x + 1 ∧ kk x < 900 ∧ st.D = (MARK, [.sp id 0]) :: markL (kk x) ∧ Nat.ble 2000 id = true ∧ findH st.H id = some .dfr ∧
      (∀ t, 1000 ≤ t → t < 2000 → findH st.H t = findH (dfrL (kk x)) t) ∧ outI s id (J x').H = true ∧ μ x' < μ x
  | e, st => K e st

section
variable {s s' : Nat → Nat} {n n' : Nat}
theorem Mod.ren2 {X : Cx} {ρ : Env} {st st' : St} {a : Act} {w : World} (n0 : Nat) (s : Nat → Nat) (hm : Mod X ρ st a w) (hn : ∀ j, n0 ≤ j → X.G.ρ j = none)
    (hF : ∀ t e, findF st'.F t = some e → e.gp = [] ∧ idsSV st'.nx e.v = true ∧ findF st.F t = some ⟨[], renSV s e.v⟩)
    (hH : ∀ id hb, findH st'.H id = some hb → id < st'.nx ∧ ∃ hc, findH st.H (s id) = some hc ∧ lessHB s st'.nx hc hb)
    (hinj : ∀ i j hb hb', findH st'.H i = some hb → findH st'.H j = some hb' → s i = s j → i = j) (hfix : ∀ j, j < n0 → s j = j) (hge : n0 ≤ st'.nx) (hD : weakRD s st'.nx st.D st'.D) : Mod X (envR ρ s st'.nx) st' a w where
  fm t e hf := by
    obtain ⟨h1, h2, h3⟩ := hF t e hf
    rw [den_envR _ h2, h1]
    exact hm.fm t _ h3
  gs t e hf x hx := by
    obtain ⟨h1, _⟩ := hF t e hf
    rw [h1] at hx; cases hx
  df := weakRD_ok hD hm.df
  hm := {
    ok := fun id hb hf => by
      obtain ⟨h1, hc, h2, h3⟩ := hH id hb hf
      obtain ⟨nm, h4, h5⟩ := hm.hm.ok _ _ h2
      exact ⟨nm, by rw [envR_lt h1]; exact h4, lessHB_ok h3 h5⟩
    sep := fun i j x y n₁ n₂ b h1 h2 l1 l2 r1 r2 o1 o2 => by
      obtain ⟨a1, c1, a2, a3⟩ := hH i x h1
      obtain ⟨b1, c2, b2, b3⟩ := hH j y h2
      have := hm.hm.sep _ _ c1 c2 n₁ n₂ b a2 b2 (lessHB_live a3 l1) (lessHB_live b3 l2) (envR_some r1).2 (envR_some r2).2 o1 o2
      exact hinj i j x y h1 h2 this
    ro := fun j size m get nm b hf hm' hr hb ho => by
      obtain ⟨a1, c1, a2, a3⟩ := hH j _ hf
      obtain ⟨g', rfl⟩ := lessHB_ro a3
      refine hm.hm.ro _ size m g' nm b a2 hm' (envR_some hr).2 hb ?_
      obtain ⟨id, x, nm', h1, h2, h3, h4⟩ := ho
      obtain ⟨b1, c2, b2, b3⟩ := hH id x h1
      exact ⟨_, c2, nm', b2, lessHB_live b3 h2, (envR_some h3).2, h4⟩
    fam := fun b hz ho => by
      refine hm.hm.fam b (hz.mono fun id size C hf => by
        obtain ⟨a1, c1, a2, a3⟩ := hH id _ hf
        obtain ⟨C', rfl, hc⟩ := lessHB_fam a3
        exact ⟨_, C', a2, hc⟩) ?_
      obtain ⟨id, x, nm', h1, h2, h3, h4⟩ := ho
      obtain ⟨b1, c2, b2, b3⟩ := hH id x h1
      exact ⟨_, c2, nm', b2, lessHB_live b3 h2, (envR_some h3).2, h4⟩ }
  kp := {
    str := hm.kp.str
    size := hm.kp.size
    same := hm.kp.same
    own := fun b ho => by
      obtain ⟨id, x, nm', h1, h2, h3, h4⟩ := ho
      obtain ⟨b1, c2, b2, b3⟩ := hH id x h1
      exact hm.kp.own b ⟨_, c2, nm', b2, lessHB_live b3 h2, (envR_some h3).2, h4⟩
    ext := fun j nm hj => by
      have hlt : j < n0 := by
        rcases Nat.lt_or_ge j n0 with h | h
        · exact h
        · rw [hn j h] at hj; cases hj
      rw [envR_lt (by omega), hfix j hlt]; exact hm.kp.ext j nm hj
    fz := fun b hz => hm.kp.fz b (hz.mono fun id size C hf => by
        obtain ⟨a1, c1, a2, a3⟩ := hH id _ hf
        obtain ⟨C', rfl, hc⟩ := lessHB_fam a3
        exact ⟨_, C', a2, hc⟩) }
  nx := fun j hj => by unfold envR; rw [if_neg (by omega)]
  sz := hm.sz

mutual
theorem idsSV_up (h : n ≤ n') : ∀ (x : SV), idsSV n x = true → idsSV n' x = true
  | .sv _, _ => by simp [idsSV]
  | .si _ _, _ => by simp [idsSV]
  | .sb _, _ => by simp [idsSV]
  | .sp i _, k => by simp only [idsSV, ltN_iff] at k ⊢; omega
  | .se i _ _, k => by simp only [idsSV, ltN_iff] at k ⊢; omega
  | .sl i, k => by simp only [idsSV, ltN_iff] at k ⊢; omega
  | .sm i, k => by simp only [idsSV, ltN_iff] at k ⊢; omega
  | .fy i, k => by simp only [idsSV, ltN_iff] at k ⊢; omega
  | .ss i _ _ _, k => by simp only [idsSV, ltN_iff] at k ⊢; omega
  | .agg l, k => by simp only [idsSV] at k ⊢; exact idsL_up h l k
  | .tup l, k => by simp only [idsSV] at k ⊢; exact idsL_up h l k
  | .fn _ a b, k => by
    simp only [idsSV] at k ⊢
    split at k
    · rename_i e; rw [idsL_up h a e]; exact idsL_up h b k
    · cases k
  | .ifc _ x, k => by simp only [idsSV] at k ⊢; exact idsSV_up h x k
theorem idsL_up (h : n ≤ n') : ∀ (x : List SV), idsL n x = true → idsL n' x = true
  | [], _ => by simp [idsL]
  | x :: r, k => by
    simp only [idsL] at k ⊢
    split at k
    · rename_i e; rw [idsSV_up h x e]; exact idsL_up h r k
    · cases k
end
mutual
theorem renSV_congr (h : ∀ j, j < n → s j = s' j) : ∀ (x : SV), idsSV n x = true → renSV s x = renSV s' x
  | .sv _, _ => rfl
  | .si _ _, _ => rfl
  | .sb _, _ => rfl
  | .sp i _, k => by simp only [idsSV, ltN_iff] at k; simp only [renSV, h i k]
  | .se i _ _, k => by simp only [idsSV, ltN_iff] at k; simp only [renSV, h i k]
  | .sl i, k => by simp only [idsSV, ltN_iff] at k; simp only [renSV, h i k]
  | .sm i, k => by simp only [idsSV, ltN_iff] at k; simp only [renSV, h i k]
  | .fy i, k => by simp only [idsSV, ltN_iff] at k; simp only [renSV, h i k]
  | .ss i _ _ _, k => by simp only [idsSV, ltN_iff] at k; simp only [renSV, h i k]
  | .agg l, k => by simp only [idsSV] at k; simp only [renSV, renL_congr h l k]
  | .tup l, k => by simp only [idsSV] at k; simp only [renSV, renL_congr h l k]
  | .fn _ a b, k => by
    simp only [idsSV] at k
    split at k
    · rename_i e; simp only [renSV, renL_congr h a e, renL_congr h b k]
    · cases k
  | .ifc _ x, k => by simp only [idsSV] at k; simp only [renSV, renSV_congr h x k]
theorem renL_congr (h : ∀ j, j < n → s j = s' j) : ∀ (x : List SV), idsL n x = true → renL s x = renL s' x
  | [], _ => rfl
  | x :: r, k => by
    simp only [idsL] at k
    split at k
    · rename_i e; simp only [renL, renSV_congr h x e, renL_congr h r k]
    · cases k
end
theorem lessHB_up (h : ∀ j, j < n → s j = s' j) (hn : n ≤ n') {x y : HB} (k : lessHB s n x y) : lessHB s' n' x y := by
  cases y with
  | dead => cases x <;> exact trivial
  | dfr => cases x <;> simp only [lessHB] at k ⊢
  | fam y C => cases x <;> simp only [lessHB] at k ⊢; exact k
  | cells U ds =>
    cases x <;> simp only [lessHB] at k ⊢
    obtain ⟨h1, h2, h3⟩ := k
    exact ⟨h1, by rw [← renL_congr h ds h3]; exact h2, idsL_up hn _ h3⟩
  | row U y k' ys =>
    cases x <;> simp only [lessHB] at k ⊢
    obtain ⟨h1, h2, h3, h4, h5⟩ := k
    exact ⟨h1, h2, h3, by rw [← renL_congr h ys h5]; exact h4, idsL_up hn _ h5⟩
  | vec U y k' g =>
    cases x <;> simp only [lessHB] at k ⊢
    · obtain ⟨h1, h2, h3, h4⟩ := k
      exact ⟨h1, h2, h3, fun i hi => ⟨by rw [← renL_congr h _ (h4 i hi).2]; exact (h4 i hi).1, idsL_up hn _ (h4 i hi).2⟩⟩
    · obtain ⟨h1, h2, h3, h4⟩ := k
      exact ⟨h1, h2, h3, fun i hi => ⟨by rw [← renL_congr h _ (h4 i hi).2]; exact (h4 i hi).1, idsL_up hn _ (h4 i hi).2⟩⟩
  | ro y k' g =>
    cases x <;> simp only [lessHB] at k ⊢
    obtain ⟨h1, h2, h4⟩ := k
    exact ⟨h1, h2, fun i hi => ⟨by rw [← renL_congr h _ (h4 i hi).2]; exact (h4 i hi).1, idsL_up hn _ (h4 i hi).2⟩⟩
  | map fs d => cases x <;> simp only [lessHB] at k ⊢; exact k
  | mp l => cases x <;> simp only [lessHB] at k ⊢ <;> exact k
  | it a b c d =>
    cases x <;> simp only [lessHB] at k ⊢
    obtain ⟨h1, h2, h3, h4, h5⟩ := k
    rw [ltN_iff] at h5
    exact ⟨by rw [← h a h5]; exact h1, h2, h3, h4, by rw [ltN_iff]; omega⟩
  | loop F nt fn ps a b db st pd =>
    cases x <;> simp only [lessHB] at k ⊢
    obtain ⟨h1, h2, h3, h4, h5, h6, h7, h8, h9, h10⟩ := k
    rw [ltN_iff] at h7
    exact ⟨h1, h2, h3, h4, h5, by rw [← h db h7]; exact h6, by rw [ltN_iff]; omega, h8, h9, fun t v hv => ⟨by rw [← renSV_congr h v (h10 t v hv).2]; exact (h10 t v hv).1, idsSV_up hn _ (h10 t v hv).2⟩⟩
end

theorem markL_weak {s : Nat → Nat} : ∀ {k : Nat}, k ≤ 1000 → (∀ i, i < k → s (1000 + i) = 1000 + i) → weakRD s 2000 (markL k) (markL k)
  | 0, _, _ => trivial
  | k + 1, h, hs => ⟨rfl, ⟨⟨(hs k (by omega)).symm, rfl⟩, trivial⟩, by simp only [idsL, idsSV, show ltN (1000 + k) 2000 = true from ltN_iff.2 (by omega)], markL_weak (by omega) fun i hi => hs i (by omega)⟩

theorem loop_okM {X : Cx} (hX : X.Ok) {body : Code} {st : St} {K : Ex → St → Prop} {α : Type} (n0 : Nat) (J : α → St) (kk : α → Nat) (μ : α → Nat) (hn : ∀ j, n0 ≤ j → X.G.ρ j = none) (x0 : α) (s0 : Nat → Nat)
    (h0 : WeakR n0 s0 st (J x0)) (hk0 : kk x0 = 0) (hnx : (J x0).nx ≤ 1000) (hD : st.D = []) (hr : ∀ x, exec X body (withM (J x) (kk x)) (RoundM n0 J kk μ x K)) : SemC X (.loop body) st K := by
  intro ρ a w hm
  have hstart : ∃ ρ, Mod X ρ (withM (J x0) (kk x0)) a w := by
    have h1 := hm.ren h0 hn
    have h2 : Mod X (envR ρ s0 (J x0).nx) { J x0 with nx := 2000 } a w := {
      fm := h1.fm, gs := h1.gs, df := h1.df, hm := h1.hm, kp := h1.kp, nx := fun j hj => h1.nx j (by have : 2000 ≤ j := hj; omega), sz := h1.sz }
    have e : withM (J x0) (kk x0) = { J x0 with nx := 2000 } := by
      have hDD : (J x0).D = [] := by
        have := h0.D
        rw [hD] at this
        cases e : (J x0).D with
        | nil => rfl
        | cons a r => rw [e] at this; exact this.elim
      rw [hk0]
      cases hj : J x0 with
      | mk F gs H nx D =>
        rw [hj] at hDD
        simp only at hDD
        subst hDD
        simp [withM, dfrL, markL]
    exact ⟨_, by rw [e]; exact h2⟩
  refine wpIn_loop_rel (fun j a w => ∃ x ρ, μ x = j ∧ Mod X ρ (withM (J x) (kk x)) a w) ⟨x0, hstart.choose, rfl, hstart.choose_spec⟩ ?_
  rintro j a' w' ⟨x, ρ', rfl, hm'⟩
  refine wpIn_mono (exec_ok hX body _ _ (hr x) ρ' a' w' hm') ?_
  rintro e a₂ w₂ ⟨y, st₂, ρ₂, rfl, hm₂, hk⟩
  cases y with
  | normal =>
    obtain ⟨x', s, id, hw, hnx', hkk, hlt, hD₂, hid, hfd, hmk, hout, hμ⟩ := hk
    have hid := Nat.le_of_ble_eq_true hid
    have hnx2 : (withM (J x') (kk x')).nx = 2000 := by cases J x'; rfl
    have hF2 : (withM (J x') (kk x')).F = (J x').F := by cases J x'; rfl
    have hH2 : (withM (J x') (kk x')).H = (J x').H ++ dfrL (kk x + 1) := by rw [← hkk]; cases J x'; rfl
    have hD2 : (withM (J x') (kk x')).D = markL (kk x + 1) := by rw [← hkk]; cases J x'; rfl
    have hag : ∀ j, j < (J x').nx → s j = sMark s id (kk x) j := fun j hj => by unfold sMark; rw [if_pos (by omega)]
    have hdec : ∀ t hb, findH (withM (J x') (kk x')).H t = some hb → (t < 1000 ∧ t < (J x').nx ∧ findH (J x').H t = some hb) ∨ (1000 ≤ t ∧ t < 1000 + (kk x + 1) ∧ hb = .dfr) := by
      intro t hb hf
      rw [hH2, findH_app] at hf
      split at hf
      · rename_i y e
        cases hf
        have := (weakRH_ok hw.H t hb e).1
        exact .inl ⟨by omega, this, e⟩
      · rw [dfrL_find] at hf
        split at hf
        · rename_i h; cases hf; exact .inr ⟨h.1, h.2, rfl⟩
        · cases hf
    refine ⟨_, hμ, x', _, rfl, Mod.ren2 n0 (sMark s id (kk x)) hm₂ hn ?_ ?_ ?_ ?_ ?_ ?_⟩
    · intro t e hf
      rw [hF2] at hf
      obtain ⟨h1, h2, h3⟩ := weakRF_ok hw.F t e hf
      rw [hnx2]
      exact ⟨h1, idsSV_up (by omega) _ h2, by rw [← renSV_congr hag _ h2]; exact h3⟩
    · intro t hb hf
      rw [hnx2]
      rcases hdec t hb hf with ⟨h1, h2, h3⟩ | ⟨h1, h2, rfl⟩
      · obtain ⟨_, hc, q1, q2⟩ := weakRH_ok hw.H t hb h3
        exact ⟨by omega, hc, by rw [← hag t h2]; exact q1, lessHB_up hag (by omega) q2⟩
      · refine ⟨by omega, .dfr, ?_, trivial⟩
        unfold sMark
        rw [if_neg (by omega)]
        split
        · exact hfd
        · rw [hmk t h1 (by omega), dfrL_find, if_pos (by omega)]
    · intro i j x1 x2 h1 h2 he
      have hs1 : ∀ t hb, findH (J x').H t = some hb → (s t < 1000 ∨ 2000 ≤ s t) ∧ s t ≠ id := fun t hb h => outI_ok hout t hb h
      have cold : ∀ t hb, t < 1000 → t < (J x').nx → findH (J x').H t = some hb → ∀ u, 1000 ≤ u → u < 1000 + (kk x + 1) → sMark s id (kk x) t ≠ sMark s id (kk x) u := by
        intro t hb q1 q2 q3 u u1 u2 heq
        have := hs1 t hb q3
        unfold sMark at heq
        rw [if_pos q1, if_neg (by omega)] at heq
        split at heq
        · exact this.2 heq
        · omega
      rcases hdec i x1 h1 with ⟨p1, p2, p3⟩ | ⟨p1, p2, rfl⟩ <;> rcases hdec j x2 h2 with ⟨r1, r2, r3⟩ | ⟨r1, r2, rfl⟩
      · rw [← hag i p2, ← hag j r2] at he
        exact injI_ok hw.inj i j x1 x2 p3 r3 he
      · exact absurd he (cold i x1 p1 p2 p3 j r1 r2)
      · exact absurd he.symm (cold j x2 r1 r2 r3 i p1 p2)
      · have e1 : ∀ u, 1000 ≤ u → sMark s id (kk x) u = if u = 1000 + kk x then id else u := fun u hu => by unfold sMark; rw [if_neg (by omega)]
        rw [e1 i p1, e1 j r1] at he
        split at he <;> split at he <;> omega
    · intro j hj
      have hge := Nat.le_of_ble_eq_true hw.ge
      rw [← hag j (by omega)]
      exact fixI_ok hw.fix j hj
    · have hge := Nat.le_of_ble_eq_true hw.ge
      rw [hnx2]; omega
    · rw [hnx2, hD2, hD₂]
      refine ⟨rfl, ⟨⟨?_, rfl⟩, trivial⟩, by simp only [idsL, idsSV, show ltN (1000 + kk x) 2000 = true from ltN_iff.2 (by omega)], markL_weak (by omega) fun i hi => ?_⟩
      · unfold sMark
        rw [if_neg (by omega), if_pos rfl]
      · unfold sMark
        rw [if_neg (by omega), if_neg (by omega)]
  | ret => exact ⟨.ret, st₂, ρ₂, rfl, hm₂, hk⟩
  | exit n => exact ⟨.exit n, st₂, ρ₂, rfl, hm₂, hk⟩
  | panic ch => exact ⟨.panic ch, st₂, ρ₂, rfl, hm₂, hk⟩

/-- The marks are taken away. -/
theorem killM_marks : ∀ {k : Nat} {H : List (Nat × HB)}, k ≤ 1000 → (∀ t, 1000 ≤ t → t < 1000 + k → findH H t = some .dfr) → ∃ H', killM (markL k) H = some H' ∧ ∀ t, t < 1000 ∨ 2000 ≤ t → findH H' t = findH H t
  | 0, H, _, _ => ⟨H, rfl, fun _ _ => rfl⟩
  | k + 1, H, hk, h => by
    have h1 := h (1000 + k) (by omega) (by omega)
    obtain ⟨H', h2, h3⟩ := killM_marks (k := k) (H := (1000 + k, .dead) :: H) (by omega) (fun t t1 t2 => by
      rw [findH_skip (by omega)]; exact h t t1 (by omega))
    refine ⟨H', ?_, fun t ht => by rw [h3 t ht, findH_skip (by omega)]⟩
    simp only [markL, killM]
    rw [h1]
    exact h2
theorem finM_ret {X : Cx} {rs : List ResultVar} {Rv : SV → St → Prop} {Rp : List PanicEntry → St → Prop} {st : St} (k : Nat) {l : List SV} (hD : st.D = markL k) (hk : k ≤ 1000)
    (hm : ∀ t, 1000 ≤ t → t < 2000 → findH st.H t = findH (dfrL k) t) (hl : resAll X st rs = some l)
    (h : ∀ H', (∀ t, t < 1000 ∨ 2000 ≤ t → findH H' t = findH st.H t) → Rv (resV l) ⟨st.F, st.gs, H', st.nx, []⟩) : FinM X rs Rv Rp .ret st := by
  obtain ⟨H', h1, h2⟩ := killM_marks (k := k) (H := st.H) hk (fun t t1 t2 => by rw [hm t t1 (by omega), dfrL_find, if_pos ⟨t1, t2⟩])
  simp only [FinM, hD, hl, h1, fSVL_eq]
  exact h H' h2
theorem keepP_same {H H' : List (Nat × HB)} (h : ∀ t, t < 1000 ∨ 2000 ≤ t → findH H' t = findH H t) : ∀ {l : List (Nat × HB)}, (l.all fun x => Nat.ble x.1 999) = true → keepP H l → keepP H' l
  | [], _, _ => trivial
  | (i, x) :: r, hl, hk => by
    simp only [List.all_cons, Bool.and_eq_true] at hl
    have hi := Nat.le_of_ble_eq_true hl.1
    simp only [keepP] at hk ⊢
    rw [h i (.inl (by omega))]
    exact ⟨hk.1, keepP_same h hl.2 hk.2⟩
theorem apartI_id {t : Nat} : ∀ (H : List (Nat × HB)), apartI (fun j => j) t H = true
  | [] => rfl
  | (j, _) :: r => by
    simp only [apartI]
    cases Nat.beq t j <;> simp only [apartI_id r]
theorem injI_id : ∀ (H : List (Nat × HB)), injI (fun j => j) H = true
  | [] => rfl
  | (t, _) :: r => by simp only [injI, apartI_id, injI_id r]
theorem fixI_id : ∀ (n : Nat), fixI (fun j => j) n = true
  | 0 => rfl
  | n + 1 => by simp only [fixI, Nat.beq_refl, fixI_id n]
theorem dfrL_some {k t : Nat} (h1 : 1000 ≤ t) (h2 : t < 1000 + k) : findH (dfrL k) t = some .dfr := by rw [dfrL_find, if_pos ⟨h1, h2⟩]
theorem weakRH_tail {n : Nat} {H : List (Nat × HB)} : ∀ {k : Nat}, k ≤ 1000 → 2000 ≤ n → (∀ t, 1000 ≤ t → t < 1000 + k → findH H t = some .dfr) → weakRH (fun j => j) n H (dfrL k)
  | 0, _, _, _ => trivial
  | k + 1, hk, hn, h => by
    simp only [dfrL, weakRH, h (1000 + k) (by omega) (by omega)]
    exact ⟨⟨trivial, ltN_iff.2 (by omega)⟩, weakRH_tail (by omega) hn fun t t1 t2 => h t t1 (by omega)⟩
def outN (a : Nat) : Bool := match Nat.ble 1000 a with
  | false => true
  | true => Nat.ble 2000 a
theorem findH_out {a : Nat} {x : HB} {l : List (Nat × HB)} {t : Nat} (h : outN a = true) (t1 : 1000 ≤ t) (t2 : t < 2000) : findH ((a, x) :: l) t = findH l t := by
  refine findH_skip fun e => ?_
  subst e
  unfold outN at h
  rw [Nat.ble_eq_true_of_le t1] at h
  have := Nat.le_of_ble_eq_true h
  omega

/-! ### Functions whose loops leave marks -/
/-- The ends of a body, not looked into. -/
structure FinB (X : Cx) (rs : List ResultVar) (Rv : SV → St → Prop) (Rp : List PanicEntry → St → Prop) (e : Ex) (st : St) : Prop where
  h : FinM X rs Rv Rp e st
section
variable {X : Cx} {st : St} {ρ : Env} {a : Act} {w : World}
theorem calls_of_execB (hX : X.Ok) (hr : X.r = none) {f : Nat} {fn : Func} {c : Code} (hf : X.P.funcs[f]? = some fn) (hb : fn.body = some c) (hnt : fn.ntmps = X.nt)
    {args : List SV} {vals : List Value} {H : List (Nat × HB)} {nx : Nat} (hd : denL ρ args = some vals) (hlen : args.length ≤ X.nt) (hH : HM ρ (findH H) w)
    (hG : X.G = ⟨w, Own ρ (findH H), ρ, Fz (findH H)⟩) (hnx : ∀ j, nx ≤ j → ρ j = none) {Rv : SV → St → Prop} {Rp : List PanicEntry → St → Prop}
    (hcells : ∀ x ∈ fn.results.toList, ∃ t, x = .tmp t ∨ ∃ ty, x = .cell t ty)
    (h : exec X c (start args H nx) (fun e st => FinB X fn.results.toList Rv Rp e st)) : Calls X.P f vals.toArray w (CEnd X Rv Rp) := by
  refine (callsIn_wide (n := 0)).1 ?_
  have hm := start_mod (X := X) hd hlen hH hG hnx
  have hw := exec_ok hX c _ _ h ρ _ w hm
  rw [hr] at hw
  refine callsIn_of_wp_marks (F := Fence.wide) hf hb trivial (wpIn_mono (by rw [hnt]; exact hw) ?_)
  rintro e a' w' ⟨x, st', ρ', rfl, hm', hk⟩
  have hk := hk.h
  have hret : (match resAll X st' fn.results.toList, killM st'.D st'.H with
      | some l, some H' => fSVL l fun l' => Rv (resV l') ⟨st'.F, st'.gs, H', st'.nx, []⟩
      | _, _ => False) → LeavesInM Fence.wide 0 X.P fn a'.tmps (CEnd X Rv Rp) a'.defers .returning w' := by
    intro hk
    split at hk
    · rename_i l H' e1 e2
      rw [fSVL_eq] at hk
      refine leavesM (X := X) (ρ := ρ') (F := st'.F) (gs := st'.gs) (nx := st'.nx) (by intro h; cases h) (D := st'.D) (H := st'.H) e2 hm' (fun w'' q3 => ?_)
      have hres : resAll X ⟨st'.F, st'.gs, H', st'.nx, []⟩ fn.results.toList = some l := by
        have : ∀ (rs : List ResultVar) (l : List SV), resAll X st' rs = some l → resAll X ⟨st'.F, st'.gs, H', st'.nx, []⟩ rs = some l := by
          intro rs
          induction rs with
          | nil => intro l h; exact h
          | cons x r ih =>
            intro l h
            simp only [resAll] at h ⊢
            split at h
            · rename_i v l' h1 h2
              rw [ih _ h2]
              have : resOne X ⟨st'.F, st'.gs, H', st'.nx, []⟩ x = some v := by
                cases x with
                | tmp t => exact h1
                | cell t ty =>
                  simp only [resOne] at h1 ⊢
                  split at h1
                  · rename_i ti id off g1 g2
                    split at h1
                    · rename_i T cs g3
                      rw [killM_cells _ _ _ e2 id T cs g3]; exact h1
                    · cases h1
                  · cases h1
              rw [this]; exact h
            · cases h
        exact this _ _ e1
      obtain ⟨u, h1, h2⟩ := results_ok hX q3 hres
      exact ⟨u, h1, .inl ⟨_, _, ρ', u, rfl, h2, q3.mh, hk⟩⟩
    · exact hk.elim
  cases x with
  | normal => exact hret hk
  | ret => exact hret hk
  | panic ch =>
    simp only [FinM] at hk
    split at hk
    · rename_i H' e2
      exact leavesM (X := X) (ρ := ρ') (F := st'.F) (gs := st'.gs) (nx := st'.nx) (by intro h; cases h) (D := st'.D) (H := st'.H) e2 hm' (fun w'' q3 => .inr ⟨ch, _, ρ', rfl, q3.mh, hk⟩)
    · exact hk.elim
  | exit n => exact hk.elim

/-- What a contract rests on. -/
def WalkB (P : Program) (T : Tab) (C : Nat → Option Ct) (fn : Func) (c : Code) (H : LH) (args : List SV) (fr : Nat) (out : COut) : Prop :=
  ∃ (ps : List (Nat × HB)) (args₀ : List SV) (H₀ : List (Nat × HB)) (n₀ : Nat) (K : List Nat), args = renL (sigP ps) args₀ ∧ knL ps.length [] args₀ = true ∧ args₀.length ≤ fn.ntmps ∧ Hand H ps ∧ H₀ = numb 0 ps ∧ n₀ = ps.length ∧
    ∀ G : Base, (∀ j, n₀ ≤ j → G.ρ j = none) → exec ⟨P, T, C, G, none, fn.ntmps⟩ c (start args₀ H₀ n₀) (fun e st => FinB ⟨P, T, C, G, none, fn.ntmps⟩ fn.results.toList
      (fun v st => (out.pan = none ∨ ∃ ch, out.pan = some (false, ch)) ∧ EndOk ps K fr out v st) (fun ch st => out.pan = some (true, ch) ∧ keepP st.H H₀) e st)
theorem cokB {P : Program} {T : Tab} {C : Nat → Option Ct} (hX : ∀ G r nt, (⟨P, T, C, G, r, nt⟩ : Cx).Ok) {f : Nat} {fn : Func} {c : Code} (hf : P.funcs[f]? = some fn) (hb : fn.body = some c) {ct : Ct}
    (h : ∀ fr args H out, ct fr args H = some out → PreH out.pre → WalkB P T C fn c H args fr out) : COk P f ct :=
  cokC fun fr args H out h1 h2 => by
    obtain ⟨ps, args₀, H₀, n₀, K, h1, h2, h3, h4, h5, h6, hex⟩ := h fr args H out h1 h2
    refine ⟨ps, args₀, H₀, n₀, K, h1, h2, h3, h4, h5, h6, fun ρ w vals hd hm hnx => ?_⟩
    exact calls_of_execB (X := ⟨P, T, C, ⟨w, Own ρ (findH H₀), ρ, Fz (findH H₀)⟩, none, fn.ntmps⟩) (hX _ _ _) rfl hf hb rfl hd h3 hm rfl hnx (fun x _ => by cases x with | tmp t => exact ⟨t, .inl rfl⟩ | cell t ty => exact ⟨t, .inr ⟨ty, rfl⟩⟩) (hex _ hnx)
end
end Go.X
end

section
set_option linter.unusedVariables false
set_option linter.unusedSimpArgs false
set_option linter.unusedSectionVars false
/- Calls that are run through without the marks that lie beside. -/
set_option linter.unusedVariables false
set_option linter.unusedSimpArgs false
set_option maxRecDepth 10000
namespace Go.X
open Go

end Go.X
end

section
set_option linter.unusedVariables false
set_option linter.unusedSimpArgs false
set_option linter.unusedSectionVars false
/- Regions whose order Go leaves open: operations that look at slots only are taken first, the rest step by step. -/
set_option linter.unusedVariables false
set_option linter.unusedSimpArgs false
set_option maxRecDepth 10000
namespace Go.X
open Go

def Qnp (X : Cx) (K : Ex → St → Prop) : Exit → Act → World → Prop := fun e a w => match e with
  | .panic _ => False
  | e => Qof X K e a w
/-- What is left to do, from a state, when some operations have run. -/
structure AnyS (X : Cx) (ops : Array Oper) (fuel : Nat) (listed : Array Bool) (st : St) (K : Ex → St → Prop) : Prop where
  h : ∀ ρ a w, Mod X ρ st a w → wpAnyIn (FW X.r) 0 X.P .any ops (Qnp X K) fuel listed a w

theorem any_region {X : Cx} {st : St} {K : Ex → St → Prop} {id : Nat} {ops : Array Oper} (hm : X.P.follows .mixedOrders = true) (h : AnyS X ops ops.size (Array.replicate ops.size false) st K) : SemC X (.region id ops true) st K := by
  intro ρ a w hmod
  have hmod' : Mod X ρ st a { w with drawn := w.drawn + 1 } := {
    fm := hmod.fm, gs := hmod.gs, df := hmod.df, hm := hmod.hm.world (Nat.le_refl _) (fun _ _ => rfl), kp := hmod.kp.world (Nat.le_refl _) (fun _ _ => rfl), nx := hmod.nx, sz := hmod.sz }
  refine wpIn_mono (Q := Qnp X K) (wpIn_region_any hm (h.h ρ a _ hmod')) ?_
  intro e a' w' hq
  cases e <;> first | exact hq | exact hq.elim

theorem any_done {X : Cx} {st : St} {K : Ex → St → Prop} {ops : Array Oper} {fuel : Nat} {listed : Array Bool} (hr : Region.ready .any ops listed = []) (h : K .normal st) : AnyS X ops fuel listed st K :=
  ⟨fun ρ a w hm => wpAnyIn_done hr ⟨.normal, st, ρ, rfl, hm, h⟩ fuel⟩

/-- One operation, whichever is ready. -/
def Qst (X : Cx) (ops : Array Oper) (fuel : Nat) (listed : Array Bool) (K : Ex → St → Prop) : Exit → Act → World → Prop := fun e a w => match e with
  | .normal => wpAnyIn (FW X.r) 0 X.P .any ops (Qnp X K) fuel listed a w
  | e => Qnp X K e a w
theorem cont_any {X : Cx} {ops : Array Oper} {fuel : Nat} {listed : Array Bool} {K : Ex → St → Prop} : Cont X (Qst X ops fuel listed K) (fun st => AnyS X ops fuel listed st K) (fun _ _ => False) where
  k ρ' st' a' w' hm' hk := hk.h ρ' a' w' hm'
  p ch ρ' st' a' w' hm' hk := hk.elim
def stepsK (X : Cx) (ops : Array Oper) (fuel : Nat) (listed : Array Bool) (st : St) (K : Ex → St → Prop) : List Nat → Prop
  | [] => True
  | i :: r => (match nth ops.toList i with
    | some o => (match o.guard with
      | none => execL X [o] (Qst X ops fuel (listed.setIfInBounds i true) K) (fun st' => AnyS X ops fuel (listed.setIfInBounds i true) st' K) (fun _ _ => False) 0 [o] st
      | some _ => False)
    | none => False) ∧ stepsK X ops fuel listed st K r
theorem stepsK_ok {X : Cx} {ops : Array Oper} {fuel : Nat} {listed : Array Bool} {st : St} {K : Ex → St → Prop} (hX : X.Ok) : ∀ {l : List Nat}, stepsK X ops fuel listed st K l → ∀ i ∈ l, ∀ ρ a w, Mod X ρ st a w →
    wpOpIn (FW X.r) 0 X.P ops (Qnp X K) i (wpAnyIn (FW X.r) 0 X.P .any ops (Qnp X K) fuel (listed.setIfInBounds i true)) a w
  | j :: r, h, i, hi, ρ, a, w, hm => by
    rcases List.mem_cons.1 hi with rfl | hi
    · have h1 := h.1
      split at h1
      · rename_i o e
        rw [nth_eq] at e
        have e : ops[i]? = some o := by simpa [Array.getElem?_toList] using e
        split at h1
        · rename_i hg
          have h2 := execL_ok hX (cont_any (X := X) (ops := ops) (fuel := fuel) (listed := listed.setIfInBounds i true) (K := K)).k cont_any.p [o] 0 ρ st a w rfl h1 hm
          have h2 : wpOpsIn (FW X.r) 0 X.P #[o] (Qst X ops fuel (listed.setIfInBounds i true) K) [0] a w := h2
          simp only [wpOpsIn] at h2
          have hw0 : ∀ y, Region.wanted o y = true := fun y => guard_none hg y
          simp only [List.getElem?_toArray, List.getElem?_cons_zero, hw0, if_true] at h2
          unfold wpOpIn
          simp only [e, hw0, if_true]
          have h3 : Oper.wpIn (FW X.r) 0 X.P o a w (wpAnyIn (FW X.r) 0 X.P .any ops (Qnp X K) fuel (listed.setIfInBounds i true)) (Qst X ops fuel (listed.setIfInBounds i true) K) := h2
          unfold Oper.wpIn at h3 ⊢
          refine ⟨h3.1, ?_⟩
          have h4 := h3.2
          generalize (o.semAt (FW X.r).round a.eval).run X.P w = res at h4 ⊢
          cases res with
          | ok x w' => cases x <;> exact h4
          | halt x w' => cases x <;> exact h4
        · exact h1.elim
      · exact h1.elim
    · exact stepsK_ok hX h.2 i hi ρ a w hm
theorem any_step {X : Cx} {st : St} {K : Ex → St → Prop} {ops : Array Oper} {fuel : Nat} {listed : Array Bool} (rs : List Nat) (hX : X.Ok) (hr : Region.ready .any ops listed = rs) (hne : rs ≠ []) (h : stepsK X ops fuel listed st K rs) : AnyS X ops (fuel + 1) listed st K :=
  ⟨fun ρ a w hm => wpAnyIn_all hr hne fun i hi => stepsK_ok hX h i hi ρ a w hm⟩
end Go.X
end

section
set_option linter.unusedVariables false
set_option linter.unusedSimpArgs false
set_option linter.unusedSectionVars false
/- A part of a slice is copied into a part of a slice of our own. -/
set_option linter.unusedVariables false
set_option linter.unusedSimpArgs false
set_option maxRecDepth 10000
namespace Go.X
open Go
section
variable {X : Cx} {st : St}

end
end Go.X
end

section
set_option linter.unusedVariables false
set_option linter.unusedSimpArgs false
set_option linter.unusedSectionVars false
/- Calls: from a part of the heap, and with an empty slice as a piece. -/
set_option linter.unusedVariables false
set_option linter.unusedSimpArgs false
set_option maxRecDepth 10000
namespace Go.X
open Go

end Go.X
end

section
set_option linter.unusedVariables false
set_option linter.unusedSimpArgs false
set_option linter.unusedSectionVars false
/- Branches, and orders of a region, that come together again. -/
set_option linter.unusedVariables false
set_option linter.unusedSimpArgs false
set_option maxRecDepth 10000
namespace Go.X
open Go

theorem any_weaken {X : Cx} {st st' : St} {K : Ex → St → Prop} {ops : Array Oper} {fuel : Nat} {listed : Array Bool} (n0 : Nat) (s : Nat → Nat) (hn : ∀ j, n0 ≤ j → X.G.ρ j = none) (h : WeakR n0 s st st') (hk : AnyS X ops fuel listed st' K) : AnyS X ops fuel listed st K :=
  ⟨fun ρ a w hm => hk.h _ a w (hm.ren h hn)⟩
end Go.X
end

section
set_option linter.unusedVariables false
set_option linter.unusedSimpArgs false
set_option linter.unusedSectionVars false
/- Branches that come together at an operation. -/
set_option linter.unusedVariables false
set_option linter.unusedSimpArgs false
set_option maxRecDepth 10000
namespace Go.X
open Go

end Go.X
end

section
set_option linter.unusedVariables false
set_option linter.unusedSimpArgs false
set_option linter.unusedSectionVars false
/- Deferred closures that call recover, and hand what it gives to a function. -/
set_option linter.unusedVariables false
set_option linter.unusedSimpArgs false
set_option maxRecDepth 10000
namespace Go.X
open Go

section
variable {P : Program} {T : Tab} {C : Nat → Option Ct}
end
end Go.X
end

section
set_option linter.unusedVariables false
set_option linter.unusedSimpArgs false
set_option linter.unusedSectionVars false
/- Functions whose answer is a deferred closure; they may hold ranges over functions. -/
set_option linter.unusedVariables false
set_option linter.unusedSimpArgs false
set_option maxRecDepth 10000
namespace Go.X
open Go
section
variable {X : Cx} {st : St} {ρ : Env} {a : Act} {w : World}

end
end Go.X
end

section
set_option linter.unusedVariables false
set_option linter.unusedSimpArgs false
set_option linter.unusedSectionVars false
/- Fields without size; calls that end in one of several states. -/
set_option linter.unusedVariables false
set_option linter.unusedSimpArgs false
set_option maxRecDepth 10000
namespace Go.X
open Go
section
variable {X : Cx} {st : St}

end

/-- A call that comes to one of several states. -/
theorem callS_toE {ι : Type} {P : Program} {T : Tab} {C : Nat → Option Ct} (hX : ∀ G r nt, (⟨P, T, C, G, r, nt⟩ : Cx).Ok) {n : Nat} {fn : Func} {c : Code} (hf : P.funcs[n]? = some fn) (hb : fn.body = some c) {l : List SV} (hlen : l.length ≤ fn.ntmps)
    {H : List (Nat × HB)} {nx : Nat} {Rv : SV → List (Nat × HB) → Nat → Prop} {Rp : List PanicEntry → List (Nat × HB) → Nat → Prop} (v' : ι → SV) (H' : ι → List (Nat × HB)) (nx' : Nat)
    (h : ∀ G : Base, (∀ j, nx ≤ j → G.ρ j = none) → exec ⟨P, T, C, G, none, fn.ntmps⟩ c (start l H nx) (Fin ⟨P, T, C, G, none, fn.ntmps⟩ fn.results.toList (fun v st => ∃ x s, EndR nx v st.H st.nx (v' x) (H' x) nx' s) (fun _ _ => False)))
    (hk : ∀ x, Rv (v' x) (H' x) nx') : CallS P n l H nx Rv Rp := by
  intro ρ w vals hm hnx hd
  refine (callS_exec hX hf hb hlen (Rv := fun v H₁ nx₁ => ∃ x s, EndR nx v H₁ nx₁ (v' x) (H' x) nx' s) (Rp := fun _ _ _ => False) h ρ w vals hm hnx hd).mono ?_
  rintro e w' (⟨v, H₁, nx₁, ρ₁, u, rfl, h1, h2, h3, h4, x, s, hs⟩ | ⟨_, _, _, _, _, _, _, _, hF⟩)
  · have hm1 : Mod ⟨P, T, C, ⟨w, Own ρ (findH H), ρ, Fz (findH H)⟩, none, 0⟩ ρ₁ ⟨[], [], H₁, nx₁, []⟩ { tmps := #[], defers := [] } w' := {
      fm := fun t e hf => by cases hf
      gs := fun t e hf => by cases hf
      df := trivial
      hm := h2
      kp := h3
      nx := h4
      sz := rfl }
    have hm2 := hm1.ren (n0 := nx) (s := s) (st' := ⟨[], [], H' x, nx', []⟩) ⟨trivial, hs.H, hs.inj, hs.fix, hs.ge, rfl, trivial⟩ hnx
    exact .inl ⟨v' x, H' x, nx', _, u, rfl, by rw [den_envR _ hs.vi, ← SVeq_eq _ _ hs.v]; exact h1, hm2.hm, hm2.kp, hm2.nx, hk x⟩
  · exact hF.elim

end Go.X
end

section
set_option linter.unusedVariables false
set_option linter.unusedSimpArgs false
set_option linter.unusedSectionVars false
/- Calls that are run through with some pieces of the heap alone. -/
set_option linter.unusedVariables false
set_option linter.unusedSimpArgs false
set_option maxRecDepth 10000
namespace Go.X
open Go

/-- Each piece of A has one in H' that stands for it. -/
def coverL (H' : List (Nat × HB)) : List (Nat × HB) → Bool
  | [] => true
  | (t, _) :: r => match findH H' t with
    | some _ => coverL H' r
    | none => false
theorem coverL_find {H' : List (Nat × HB)} : ∀ {A : List (Nat × HB)}, coverL H' A = true → ∀ t x, findH A t = some x → ∃ y, findH H' t = some y
  | (a, y) :: r, h, t, x, hf => by
    simp only [coverL] at h
    split at h
    · rename_i z hz
      by_cases e : a = t
      · subst e; exact ⟨z, hz⟩
      · rw [findH_skip e] at hf
        exact coverL_find h t x hf
    · cases h
/-- What is read only was so before. -/
def roSame (A : List (Nat × HB)) : List (Nat × HB) → Prop
  | [] => True
  | (t, .ro s n g) :: r => (match findH A t with
    | some (.ro _ m _) => n = m
    | _ => False) ∧ roSame A r
  | _ :: r => roSame A r
theorem roSame_find {A : List (Nat × HB)} : ∀ {H' : List (Nat × HB)}, roSame A H' → ∀ t s n g, findH H' t = some (.ro s n g) → ∃ s' g', findH A t = some (.ro s' n g')
  | (a, y) :: r, h, t, s, n, g, hf => by
    by_cases e : a = t
    · subst e
      rw [findH_cons, updL_self] at hf
      cases hf
      simp only [roSame] at h
      obtain ⟨h, _⟩ := h
      split at h
      · rename_i s2 m g2 hz
        subst h
        exact ⟨_, _, hz⟩
      · exact h.elim
    · rw [findH_skip e] at hf
      refine roSame_find (H' := r) ?_ t s n g hf
      cases y with
      | ro s2 n2 g2 => exact h.2
      | _ => exact h
end Go.X
end

section
set_option linter.unusedVariables false
set_option linter.unusedSimpArgs false
set_option linter.unusedSectionVars false
/- The greatest of three numbers; orders that come to what is not known. -/
set_option linter.unusedVariables false
set_option linter.unusedSimpArgs false
set_option maxRecDepth 10000
namespace Go.X
open Go
end Go.X
end

section
set_option linter.unusedVariables false
set_option linter.unusedSimpArgs false
set_option linter.unusedSectionVars false
/- Many branches that come to one loop, with what they have found. -/
set_option linter.unusedVariables false
set_option linter.unusedSimpArgs false
set_option maxRecDepth 10000
namespace Go.X
open Go
theorem sem_weaken {X : Cx} {c : Code} {K : Ex → St → Prop} {st st' : St} (n0 : Nat) (s : Nat → Nat) (hn : ∀ j, n0 ≤ j → X.G.ρ j = none) (hw : WeakR n0 s st st') (h : SemC X c st' K) : SemC X c st K :=
  fun ρ a w hm => h _ a w (hm.ren hw hn)
end Go.X
end

section
set_option linter.unusedVariables false
set_option linter.unusedSimpArgs false
set_option linter.unusedSectionVars false
/- Slices that nobody turns again: frozen, told of by a family, and looked at again. -/
set_option linter.unusedVariables false
set_option linter.unusedSimpArgs false
set_option maxRecDepth 10000
namespace Go.X
open Go

mutual
/-- The slice of a piece, by its value. -/
def frzSV (id : Nat) (v : Value) : SV → SV
  | .sl j => match Nat.beq j id with
    | true => .sv v
    | false => .sl j
  | .agg l => .agg (frzL id v l)
  | .tup l => .tup (frzL id v l)
  | .ifc t x => .ifc t (frzSV id v x)
  | .fn f a b => .fn f (frzL id v a) (frzL id v b)
  | x => x
def frzL (id : Nat) (v : Value) : List SV → List SV
  | [] => []
  | x :: r => frzSV id v x :: frzL id v r
end
section
variable {ρ : Env} {id : Nat} {v : Value}
mutual
theorem den_frz (hv : v.oneCell' = true) (h : den ρ (.sl id) = some v) : ∀ (x : SV), den ρ (frzSV id v x) = den ρ x
  | .sl j => by
    simp only [frzSV]
    split
    · rename_i e
      have : j = id := by simpa using e
      subst this
      rw [h]; simp [den, hv]
    · rfl
  | .agg l => by simp only [frzSV, den, denL_frz hv h l]
  | .tup l => by simp only [frzSV, den, denL_frz hv h l]
  | .ifc t x => by simp only [frzSV, den, den_frz hv h x]
  | .fn f a b => by simp only [frzSV, den, denL_frz hv h a, denL_frz hv h b]
  | .sv _ => rfl
  | .si _ _ => rfl
  | .sb _ => rfl
  | .sp _ _ => rfl
  | .se _ _ _ => rfl
  | .sm _ => rfl
  | .fy _ => rfl
  | .ss _ _ _ _ => rfl
theorem denL_frz (hv : v.oneCell' = true) (h : den ρ (.sl id) = some v) : ∀ (l : List SV), denL ρ (frzL id v l) = denL ρ l
  | [] => rfl
  | x :: r => by simp only [frzL, denL, den_frz hv h x, denL_frz hv h r]
end
end

/-- The slots that are named, by the slice's value. -/
def fFzF (id : Nat) (v : Value) (F0 : List (Nat × FE)) : List Nat → List (Nat × FE) → (List (Nat × FE) → Prop) → Prop
  | [], F, K => K F
  | d :: r, F, K => match findF F0 d with
    | some ⟨[], u⟩ => fSV (frzSV id v u) fun u' => fFzF id v F0 r ((d, ⟨[], u'⟩) :: F) K
    | _ => False
/-- The pieces that are named, by the slice's value. -/
def fFzH (id : Nat) (v : Value) (H0 : List (Nat × HB)) : List Nat → List (Nat × HB) → (List (Nat × HB) → Prop) → Prop
  | [], H, K => K H
  | d :: r, H, K => match findH H0 d with
    | some (.cells T cs) => fSVL (frzL id v cs) fun l => fFzH id v H0 r ((d, .cells T l) :: H) K
    | some (.row T s n xs) => fSVL (frzL id v xs) fun l => fFzH id v H0 r ((d, .row T s n l) :: H) K
    | _ => False

section
variable {X : Cx} {ρ : Env} {st : St} {a : Act} {w : World}

/-- A slot, said otherwise. -/
theorem Mod.reslot (hm : Mod X ρ st a w) {d : Nat} {u u' : SV} (hf : findF st.F d = some ⟨[], u⟩) (he : den ρ u' = den ρ u) : Mod X ρ { st with F := (d, ⟨[], u'⟩) :: st.F } a w where
  fm t e hf' := by
    have hf' : findF ((d, ⟨[], u'⟩) :: st.F) t = some e := hf'
    by_cases e1 : d = t
    · subst e1
      rw [findF_cons_self] at hf'; cases hf'
      have := hm.fm _ _ hf
      exact ⟨fun hs => by rw [he]; exact this.1 hs, this.2⟩
    · rw [findF_cons_ne _ _ e1] at hf'
      exact hm.fm t e hf'
  gs t e hf' x hx := by
    have hf' : findF ((d, ⟨[], u'⟩) :: st.F) t = some e := hf'
    by_cases e1 : d = t
    · subst e1
      rw [findF_cons_self] at hf'; cases hf'
      cases hx
    · rw [findF_cons_ne _ _ e1] at hf'
      exact hm.gs t e hf' x hx
  df := hm.df
  hm := hm.hm
  kp := hm.kp
  nx := hm.nx
  sz := hm.sz
end

theorem fFzF_ok {X : Cx} {ρ : Env} {a : Act} {w : World} {id : Nat} {v : Value} (hv : v.oneCell' = true) (hd : den ρ (.sl id) = some v) {F0 : List (Nat × FE)} : ∀ (ds : List Nat) {st : St} {K : List (Nat × FE) → Prop},
    (∀ t u, findF F0 t = some ⟨[], u⟩ → ∃ u', findF st.F t = some ⟨[], u'⟩ ∧ den ρ u' = den ρ u) → Mod X ρ st a w → fFzF id v F0 ds st.F K → ∃ F', Mod X ρ { st with F := F' } a w ∧ K F'
  | [], st, K, h0, hm, h => ⟨st.F, hm, h⟩
  | d :: r, st, K, h0, hm, h => by
    simp only [fFzF] at h
    split at h
    · rename_i u e
      rw [fSV_eq] at h
      obtain ⟨u', h1, h2⟩ := h0 d u e
      have hm' := hm.reslot (u' := frzSV id v u) h1 (by rw [den_frz hv hd, h2])
      obtain ⟨F', h3, h4⟩ := fFzF_ok hv hd r (st := { st with F := (d, ⟨[], frzSV id v u⟩) :: st.F }) (fun t x hx => by
        by_cases e1 : d = t
        · subst e1
          rw [e] at hx; cases hx
          exact ⟨_, findF_cons_self _ _ _, den_frz hv hd _⟩
        · show ∃ u', findF ((d, ⟨[], frzSV id v u⟩) :: st.F) t = some ⟨[], u'⟩ ∧ _
          rw [findF_cons_ne _ _ e1]
          exact h0 t x hx) hm' h
      exact ⟨F', h3, h4⟩
    · exact h.elim

theorem fFzH_ok {X : Cx} {ρ : Env} {a : Act} {w : World} {id : Nat} {v : Value} (hv : v.oneCell' = true) (hd : den ρ (.sl id) = some v) {H0 : List (Nat × HB)} : ∀ (ds : List Nat) {st : St} {K : List (Nat × HB) → Prop},
    (∀ t x, findH H0 t = some x → findH st.H t = some x ∨ t ∉ ds) → ds.Nodup → Mod X ρ st a w → fFzH id v H0 ds st.H K → ∃ H', Mod X ρ { st with H := H' } a w ∧ (∀ t, t ∉ ds → findH H' t = findH st.H t) ∧ K H'
  | [], st, K, h0, _, hm, h => ⟨st.H, hm, fun _ _ => rfl, h⟩
  | d :: r, st, K, h0, hnd, hm, h => by
    have hnd1 : d ∉ r := (List.nodup_cons.1 hnd).1
    have hnd2 := (List.nodup_cons.1 hnd).2
    have key : ∀ (x y : HB), findH H0 d = some x → x.live = true → (∀ s n g, y ≠ .ro s n g) → (∀ s C, y ≠ .fam s C) → (∀ nm, HBok ρ w x nm → HBok ρ w y nm) → fFzH id v H0 r ((d, y) :: st.H) K →
        ∃ H', Mod X ρ { st with H := H' } a w ∧ (∀ t, t ∉ d :: r → findH H' t = findH st.H t) ∧ K H' := by
      intro x y e hl h1 h2 h3 h4
      have hf : findH st.H d = some x := by
        rcases h0 d x e with h | h
        · exact h
        · exact absurd List.mem_cons_self h
      obtain ⟨nm, g1, g2⟩ := hm.hm.ok _ _ hf
      have hm' := hm.swap (hb' := y) hf hl g1 (h3 nm g2) h1 h2
      obtain ⟨H', k1, k2, k3⟩ := fFzH_ok hv hd r (st := { st with H := (d, y) :: st.H }) (fun t z hz => by
        by_cases e1 : d = t
        · subst e1; exact .inr hnd1
        · show findH ((d, y) :: st.H) t = some z ∨ _
          rw [findH_skip e1]
          rcases h0 t z hz with h | h
          · exact .inl h
          · exact .inr fun hc => h (List.mem_cons_of_mem _ hc)) hnd2 hm' h4
      refine ⟨H', k1, fun t ht => ?_, k3⟩
      rw [k2 t fun hc => ht (List.mem_cons_of_mem _ hc)]
      exact findH_skip fun e1 => ht (e1 ▸ List.mem_cons_self)
    simp only [fFzH] at h
    split at h
    · rename_i T cs e
      rw [fSVL_eq] at h
      refine key _ _ e rfl (by intro _ _ _ h; cases h) (by intro _ _ h; cases h) (fun nm hok => ?_) h
      cases nm <;> simp only [HBok] at hok ⊢
      obtain ⟨vs, h1, h2⟩ := hok
      exact ⟨vs, by rw [denL_frz hv hd]; exact h1, h2⟩
    · rename_i T s n xs e
      rw [fSVL_eq] at h
      refine key _ _ e rfl (by intro _ _ _ h; cases h) (by intro _ _ h; cases h) (fun nm hok => ?_) h
      cases nm <;> simp only [HBok] at hok ⊢
      obtain ⟨h1, h2, h3, vs, rest, h4, h5⟩ := hok
      exact ⟨h1, h2, h3, vs, rest, by rw [denL_frz hv hd]; exact h4, h5⟩
    · exact h.elim

/-- A family that tells of one slice more. -/
def addC (C : Value → Nat → (Nat → List SV) → Prop) (v : Value) (n : Nat) (get : Nat → List SV) : Value → Nat → (Nat → List SV) → Prop :=
  fun v' n' get' => (v' = v ∧ n' = n ∧ get' = get) ∨ C v' n' get'

theorem den_closed {ρ : Env} {l : List SV} {vs : List Value} (hi : idsL 0 l = true) (h : denL ρ l = some vs) : denL (fun _ => none) l = some vs := by
  have e : cut ρ 0 = fun _ => none := by funext j; unfold cut; rw [if_neg (by omega)]
  rw [← e, denL_cut l hi]; exact h

section
variable {X : Cx} {ρ : Env} {st : St} {a : Act} {w : World}
/-- A slice of our own is frozen. -/
theorem Mod.freeze (hm : Mod X ρ st a w) {sid fid e size n : Nat} {get : Nat → List SV} {C : Value → Nat → (Nat → List SV) → Prop} (h1 : findH st.H sid = some (.vec e size n get)) (hn : 0 < n)
    (hcl : ∀ i, i < n → idsL 0 (get i) = true) (h2 : findH st.H fid = some (.fam size C)) :
    ∃ ad c, den ρ (.sl sid) = some (.slice (some ad) n c) ∧ Mod X ρ { st with H := (fid, .fam size (addC C (.slice (some ad) n c) n get)) :: (sid, .dead) :: st.H } a w := by
  obtain ⟨nm, g1, g2⟩ := hm.hm.ok _ _ h1
  obtain ⟨nf, f1, f2⟩ := hm.hm.ok _ _ h2
  have hne : sid ≠ fid := by rintro rfl; rw [h1] at h2; cases h2
  cases nm <;> simp only [HBok] at g2
  · obtain ⟨_, _, _, rfl, _⟩ := g2; omega
  rename_i nb n' c s'
  obtain ⟨rfl, rfl, hle, cells, d5, d6, d7⟩ := g2
  have hlt : nb < w.heap.size := by
    rcases Nat.lt_or_ge nb w.heap.size with h | h
    · exact h
    · rw [Array.getElem?_eq_none h] at d5; cases d5
  have hok : famOk w s' (.slice (some ⟨nb, 0, none⟩) n' c) n' get := by
    refine ⟨_, c, rfl, hle.1, fun _ => ⟨_, rfl, hlt, fun i hi => ?_⟩⟩
    obtain ⟨vs, c1, c2, c3, c4⟩ := d7 i hi
    refine ⟨vs, den_closed (hcl i hi) c1, c2, c3, fun j v hv => ?_⟩
    rw [add_zero_mk]
    simp only [World.cell?, d5, List.getElem?_toArray]
    exact c4 j v hv
  have hk := hm.kill h1
  have hno : ¬ Own ρ (findH ((sid, .dead) :: st.H)) nb := by
    intro hO
    obtain ⟨i', x', nm', q0, q1, q2, q3, q4⟩ := Own.kill hO
    exact q0 (hm.hm.sep i' sid x' _ nm' _ nb q1 h1 q2 rfl q3 g1 q4 rfl)
  have h2' : findH ((sid, .dead) :: st.H) fid = some (.fam s' C) := by rw [findH_skip hne]; exact h2
  refine ⟨⟨nb, 0, none⟩, c, by simp [den, g1], ?_⟩
  have hfz : ∀ b, Fz (findH ((fid, .fam s' (addC C (.slice (some ⟨nb, 0, none⟩) n' c) n' get)) :: (sid, .dead) :: st.H)) b → Fz (findH ((sid, .dead) :: st.H)) b ∨ b = nb := by
    rintro b ⟨id, size, C', v, m, get', q1, q2, q3, q4⟩
    rw [findH_cons] at q1
    by_cases e1 : fid = id
    · subst e1
      rw [updL_self] at q1; cases q1
      rcases q2 with ⟨rfl, rfl, rfl⟩ | q2
      · simp only [slBlock, Option.some.injEq] at q4
        exact .inr q4.symm
      · exact .inl ⟨_, _, C, v, m, get', h2', q2, q3, q4⟩
    · rw [updL_ne _ _ e1] at q1
      exact .inl ⟨id, size, C', v, m, get', q1, q2, q3, q4⟩
  have hown : ∀ b, Own ρ (findH ((fid, .fam s' (addC C (.slice (some ⟨nb, 0, none⟩) n' c) n' get)) :: (sid, .dead) :: st.H)) b → Own ρ (findH ((sid, .dead) :: st.H)) b := by
    rintro b ⟨j, x, nm', q1, q2, q3, q4⟩
    rw [findH_cons] at q1
    by_cases e1 : fid = j
    · subst e1
      rw [updL_self] at q1; cases q1
      rw [f1] at q3; cases q3
      cases nf <;> simp only [HBok] at f2
      cases q4
    · rw [updL_ne _ _ e1] at q1
      exact ⟨j, x, nm', q1, q2, q3, q4⟩
  exact {
    fm := hm.fm
    gs := hm.gs
    df := hm.df
    hm := {
      ok := fun j x hj => by
        rw [findH_cons] at hj
        by_cases e1 : fid = j
        · subst e1
          rw [updL_self] at hj; cases hj
          refine ⟨nf, f1, ?_⟩
          cases nf <;> simp only [HBok] at f2 ⊢
          refine ⟨f2.1, fun v m get' hc => ?_⟩
          rcases hc with ⟨rfl, rfl, rfl⟩ | hc
          · exact hok
          · exact f2.2 v m get' hc
        · rw [updL_ne _ _ e1] at hj
          exact hk.hm.ok j x hj
      sep := fun i j x y n₁ n₂ b q1 q2 l1 l2 r1 r2 o1 o2 => by
        have key : ∀ {i : Nat} {x : HB} {n₁ : Nm}, findH ((fid, .fam s' (addC C (.slice (some ⟨nb, 0, none⟩) n' c) n' get)) :: (sid, .dead) :: st.H) i = some x → ρ i = some n₁ → n₁.owner = some b → findH ((sid, .dead) :: st.H) i = some x := by
          intro i x n₁ q1 r1 o1
          rw [findH_cons] at q1
          by_cases e1 : fid = i
          · subst e1
            rw [f1] at r1; cases r1
            cases nf <;> simp only [HBok] at f2
            cases o1
          · rw [updL_ne _ _ e1] at q1; exact q1
        exact hk.hm.sep i j x y n₁ n₂ b (key q1 r1 o1) (key q2 r2 o2) l1 l2 r1 r2 o1 o2
      ro := fun j size m get' nm b hj hpos hr hb ho => by
        rw [findH_cons] at hj
        by_cases e1 : fid = j
        · subst e1; rw [updL_self] at hj; cases hj
        · rw [updL_ne _ _ e1] at hj
          exact hk.hm.ro j size m get' nm b hj hpos hr hb (hown b ho)
      fam := fun b hz ho => by
        rcases hfz b hz with h | rfl
        · exact hk.hm.fam b h (hown b ho)
        · exact hno (hown _ ho) }
    kp := {
      str := hm.kp.str
      size := hm.kp.size
      same := hm.kp.same
      own := fun b ho => hk.kp.own b (hown b ho)
      ext := hm.kp.ext
      fz := fun b hz => by
        rcases hfz b hz with h | rfl
        · exact hk.kp.fz b h
        · rcases hm.kp.own b ⟨sid, _, _, h1, rfl, g1, rfl⟩ with h | h
          · exact .inl h
          · exact .inr (.inl h) }
    nx := hm.nx
    sz := hm.sz }

/-- A new family, of none. -/
theorem Mod.fam0 (hm : Mod X ρ st a w) (size : Nat) : Mod X (upd ρ st.nx (.sl none 0 0 size)) { st with H := (st.nx, .fam size (fun _ _ _ => False)) :: st.H, nx := st.nx + 1 } a w := by
  have hf : ρ st.nx = none := hm.nx _ (Nat.le_refl _)
  have hfz : ∀ b, Fz (findH ((st.nx, .fam size (fun _ _ _ => False)) :: st.H)) b → Fz (findH st.H) b := by
    rintro b ⟨id, s2, C', v, m, get', q1, q2, q3, q4⟩
    rw [findH_cons] at q1
    by_cases e1 : st.nx = id
    · subst e1
      rw [updL_self] at q1; cases q1
      exact q2.elim
    · rw [updL_ne _ _ e1] at q1
      exact ⟨id, s2, C', v, m, get', q1, q2, q3, q4⟩
  exact {
    fm := hm.fm.ext (Ext.upd _ hf)
    gs := hm.gs
    df := hm.df.ext (Ext.upd _ hf)
    hm := {
      ok := fun j hb hj => by
        rw [findH_cons] at hj
        by_cases e : st.nx = j
        · subst e; rw [updL_self] at hj; cases hj
          exact ⟨_, upd_self _ _ _, rfl, fun _ _ _ h => h.elim⟩
        · rw [updL_ne _ _ e] at hj
          obtain ⟨nm, h1, h2⟩ := hm.hm.ok j hb hj
          exact ⟨nm, by rw [upd_ne _ _ (Ne.symm e)]; exact h1, HBok_ext (Ext.upd _ hf) h2⟩
      sep := fun i j x y n₁ n₂ b h1 h2 l1 l2 r1 r2 o1 o2 => by
        rw [findH_cons] at h1 h2
        by_cases e1 : st.nx = i
        · subst e1; rw [upd_self] at r1; cases r1; cases o1
        · by_cases e2 : st.nx = j
          · subst e2; rw [upd_self] at r2; cases r2; cases o2
          · rw [updL_ne _ _ e1] at h1; rw [updL_ne _ _ e2] at h2
            rw [upd_ne _ _ (Ne.symm e1)] at r1; rw [upd_ne _ _ (Ne.symm e2)] at r2
            exact hm.hm.sep i j x y n₁ n₂ b h1 h2 l1 l2 r1 r2 o1 o2
      ro := fun j size n get' nm b hj hn hr hb ho => by
        rw [findH_cons] at hj
        by_cases e : st.nx = j
        · subst e; rw [updL_self] at hj; cases hj
        · rw [updL_ne _ _ e] at hj
          rw [upd_ne _ _ (Ne.symm e)] at hr
          rcases Own.cons hf ho with h | h
          · cases h
          · exact hm.hm.ro j size n get' nm b hj hn hr hb h
      fam := fun b hz ho => by
        rcases Own.cons hf ho with h | h
        · cases h
        · exact hm.hm.fam b (hfz b hz) h }
    kp := {
      str := hm.kp.str
      size := hm.kp.size
      same := hm.kp.same
      own := fun b ho => by
        rcases Own.cons hf ho with h | h
        · cases h
        · exact hm.kp.own b h
      ext := hm.kp.ext.trans (Ext.upd _ hf)
      fz := fun b hz => hm.kp.fz b (hfz b hz) }
    nx := fun j hj => by
      have : st.nx + 1 ≤ j := hj
      rw [upd_ne _ _ (by omega)]; exact hm.nx j (by omega)
    sz := hm.sz }

/-- A slice that is told of becomes a piece. -/
theorem Mod.focus (hm : Mod X ρ st a w) {fid size n c : Nat} {ad : Addr} {get : Nat → List SV} {C : Value → Nat → (Nat → List SV) → Prop} (h2 : findH st.H fid = some (.fam size C)) (hc : C (.slice (some ad) n c) n get) :
    Mod X (upd ρ st.nx (.sl (some ad) n c size)) { st with H := (st.nx, .ro size n get) :: st.H, nx := st.nx + 1 } a w := by
  have hf : ρ st.nx = none := hm.nx _ (Nat.le_refl _)
  obtain ⟨nf, f1, f2⟩ := hm.hm.ok _ _ h2
  obtain ⟨A, c', e, hle, hh⟩ : famOk w size (.slice (some ad) n c) n get := by
    cases nf <;> simp only [HBok] at f2
    exact f2.2 _ _ _ hc
  cases e
  exact {
    fm := hm.fm.ext (Ext.upd _ hf)
    gs := hm.gs
    df := hm.df.ext (Ext.upd _ hf)
    hm := {
      ok := fun j hb hj => by
        rw [findH_cons] at hj
        by_cases e : st.nx = j
        · subst e; rw [updL_self] at hj; cases hj
          refine ⟨_, upd_self _ _ _, rfl, rfl, hle, fun hn => ?_⟩
          obtain ⟨ad', e, hb, hx⟩ := hh hn
          refine ⟨ad', e, hb, fun i hi => ?_⟩
          obtain ⟨vs, d1, d2⟩ := hx i hi
          exact ⟨vs, denL_ext (fun _ _ h => by cases h) _ _ d1, d2⟩
        · rw [updL_ne _ _ e] at hj
          obtain ⟨nm, h1, h2⟩ := hm.hm.ok j hb hj
          exact ⟨nm, by rw [upd_ne _ _ (Ne.symm e)]; exact h1, HBok_ext (Ext.upd _ hf) h2⟩
      sep := fun i j x y n₁ n₂ b h1 h2 l1 l2 r1 r2 o1 o2 => by
        rw [findH_cons] at h1 h2
        by_cases e1 : st.nx = i
        · subst e1; rw [upd_self] at r1; cases r1; cases o1
        · by_cases e2 : st.nx = j
          · subst e2; rw [upd_self] at r2; cases r2; cases o2
          · rw [updL_ne _ _ e1] at h1; rw [updL_ne _ _ e2] at h2
            rw [upd_ne _ _ (Ne.symm e1)] at r1; rw [upd_ne _ _ (Ne.symm e2)] at r2
            exact hm.hm.sep i j x y n₁ n₂ b h1 h2 l1 l2 r1 r2 o1 o2
      ro := fun j s2 n2 get' nm b hj hn hr hb ho => by
        rw [findH_cons] at hj
        rcases Own.cons hf ho with h | h
        · cases h
        by_cases e : st.nx = j
        · subst e; rw [updL_self] at hj; cases hj
          rw [upd_self] at hr; cases hr
          simp only [roBlock, Option.some.injEq] at hb
          exact hm.hm.fam b ⟨fid, size, C, _, n, get, h2, hc, hn, by simp [slBlock, hb]⟩ h
        · rw [updL_ne _ _ e] at hj
          rw [upd_ne _ _ (Ne.symm e)] at hr
          exact hm.hm.ro j s2 n2 get' nm b hj hn hr hb h
      fam := fun b hz ho => by
        rw [findH_cons] at hz
        rcases Own.cons hf ho with h | h
        · cases h
        · exact hm.hm.fam b (hz.upd fun _ _ h => by cases h) h }
    kp := {
      str := hm.kp.str
      size := hm.kp.size
      same := hm.kp.same
      own := fun b ho => by
        rcases Own.cons hf ho with h | h
        · cases h
        · exact hm.kp.own b h
      ext := hm.kp.ext.trans (Ext.upd _ hf)
      fz := fun b hz => hm.kp.fz b (by rw [findH_cons] at hz; exact hz.upd fun _ _ h => by cases h) }
    nx := fun j hj => by
      have : st.nx + 1 ≤ j := hj
      rw [upd_ne _ _ (by omega)]; exact hm.nx j (by omega)
    sz := hm.sz }

/-! ### The steps -/

theorem sem_fam0 (size : Nat) {c : Code} {K : Ex → St → Prop} (h : stK st fun F gs H nx D => natF (nx + 1) fun nx' => SemC X c ⟨F, gs, (nx, .fam size (fun _ _ _ => False)) :: H, nx', D⟩ K) : SemC X c st K :=
  fun ρ a w hm => by
    rw [stK_eq, natF_eq] at h
    exact h _ a w (hm.fam0 size)
end
end Go.X
end

section
set_option linter.unusedVariables false
set_option linter.unusedSimpArgs false
set_option linter.unusedSectionVars false
/- Calls that are known by other numbers of their pieces, with a part of the heap alone. -/
set_option linter.unusedVariables false
set_option linter.unusedSimpArgs false
set_option maxRecDepth 10000
namespace Go.X
open Go

section
variable {ρ₀ ρ : Env} {s : Nat → Nat}
mutual
theorem den_imp (h : ∀ j nm, ρ₀ j = some nm → ρ (s j) = some nm) : ∀ (x : SV) (v : Value), den ρ₀ x = some v → den ρ (renSV s x) = some v
  | .sv x, v, hv => by simpa [den, renSV] using hv
  | .si k n, v, hv => by simpa [den, renSV] using hv
  | .sb p, v, hv => by simpa [den, renSV] using hv
  | .sp id off, v, hv => by
    simp only [den, renSV] at hv ⊢
    cases e : ρ₀ id with
    | none => simp [e] at hv
    | some nm => rw [h _ _ e]; simpa [e] using hv
  | .se id i off, v, hv => by
    simp only [den, renSV] at hv ⊢
    cases e : ρ₀ id with
    | none => simp [e] at hv
    | some nm => rw [h _ _ e]; simpa [e] using hv
  | .sl id, v, hv => by
    simp only [den, renSV] at hv ⊢
    cases e : ρ₀ id with
    | none => simp [e] at hv
    | some nm => rw [h _ _ e]; simpa [e] using hv
  | .sm id, v, hv => by
    simp only [den, renSV] at hv ⊢
    cases e : ρ₀ id with
    | none => simp [e] at hv
    | some nm => rw [h _ _ e]; simpa [e] using hv
  | .fy id, v, hv => by
    simp only [den, renSV] at hv ⊢
    cases e : ρ₀ id with
    | none => simp [e] at hv
    | some nm => rw [h _ _ e]; simpa [e] using hv
  | .agg l, v, hv => by
    simp only [den, renSV] at hv ⊢
    cases e : denL ρ₀ l with
    | none => simp [e] at hv
    | some vs => rw [denL_imp h l vs e]; simpa [e] using hv
  | .tup l, v, hv => by
    simp only [den, renSV] at hv ⊢
    cases e : denL ρ₀ l with
    | none => simp [e] at hv
    | some vs => rw [denL_imp h l vs e]; simpa [e] using hv
  | .fn f a b, v, hv => by
    simp only [den, renSV] at hv ⊢
    cases e : denL ρ₀ a with
    | none => simp [e] at hv
    | some vs =>
      cases e2 : denL ρ₀ b with
      | none => simp [e, e2] at hv
      | some us => rw [denL_imp h a vs e, denL_imp h b us e2]; simpa [e, e2] using hv
  | .ifc t x, v, hv => by
    simp only [den, renSV] at hv ⊢
    cases e : den ρ₀ x with
    | none => simp [e] at hv
    | some u => rw [den_imp h x u e]; simpa [e] using hv
  | .ss id off len tot, v, hv => by
    simp only [den, renSV] at hv ⊢
    cases e : ρ₀ id with
    | none => simp [e] at hv
    | some nm => rw [h _ _ e]; simpa [e] using hv
theorem denL_imp (h : ∀ j nm, ρ₀ j = some nm → ρ (s j) = some nm) : ∀ (l : List SV) (vs : List Value), denL ρ₀ l = some vs → denL ρ (renL s l) = some vs
  | [], vs, hv => by simpa [denL, renL] using hv
  | x :: r, vs, hv => by
    simp only [denL, renL] at hv ⊢
    cases e : den ρ₀ x with
    | none => simp [e] at hv
    | some u =>
      cases e2 : denL ρ₀ r with
      | none => simp [e, e2] at hv
      | some us => rw [den_imp h x u e, denL_imp h r us e2]; simpa [e, e2] using hv
end
end

/-- A piece, its ids numbered otherwise. -/
def renB (s : Nat → Nat) : HB → HB
  | .cells T cs => .cells T (renL s cs)
  | .row T z n xs => .row T z n (renL s xs)
  | x => x
def renH (s : Nat → Nat) : List (Nat × HB) → List (Nat × HB)
  | [] => []
  | (t, x) :: r => (s t, renB s x) :: renH s r
/-- Which pieces can be numbered otherwise. -/
def okB : HB → Prop
  | .ro _ n get => ∀ i, i < n → idsL 0 (get i) = true
  | .vec _ _ n get => ∀ i, i < n → idsL 0 (get i) = true
  | .it .. => False
  | .loop .. => False
  | _ => True
def okH : List (Nat × HB) → Prop
  | [] => True
  | (_, x) :: r => okB x ∧ okH r
theorem okH_find : ∀ {H : List (Nat × HB)}, okH H → ∀ t x, findH H t = some x → okB x
  | (a, y) :: r, h, t, x, hf => by
    by_cases e : a = t
    · subst e
      rw [findH_cons, updL_self] at hf; cases hf
      exact h.1
    · rw [findH_skip e] at hf
      exact okH_find h.2 t x hf
theorem denL_any {ρ ρ' : Env} {l : List SV} {vs : List Value} (hi : idsL 0 l = true) (h : denL ρ l = some vs) : denL ρ' l = some vs :=
  denL_ext (fun _ _ h => by cases h) _ _ (den_closed hi h)
theorem renB_ok {ρ₀ ρ : Env} {s : Nat → Nat} {w : World} (h : ∀ j nm, ρ₀ j = some nm → ρ (s j) = some nm) {x : HB} {nm : Nm} (ho : okB x) (k : HBok ρ₀ w x nm) : HBok ρ w (renB s x) nm := by
  cases x with
  | dead => trivial
  | cells T cs =>
    cases nm <;> simp only [HBok, renB] at k ⊢
    obtain ⟨vs, h1, h2, h3⟩ := k
    exact ⟨vs, denL_imp h _ _ h1, h2, h3⟩
  | ro size n get =>
    cases nm <;> simp only [HBok, renB] at k ⊢
    obtain ⟨h1, h2, h0, h3⟩ := k
    refine ⟨h1, h2, h0, fun hn => ?_⟩
    obtain ⟨ad, e, hb, hc⟩ := h3 hn
    refine ⟨ad, e, hb, fun i hi => ?_⟩
    obtain ⟨vs, d1, d2⟩ := hc i hi
    exact ⟨vs, denL_any (ho i hi) d1, d2⟩
  | row T size n xs =>
    cases nm <;> simp only [HBok, renB] at k ⊢
    obtain ⟨h1, h2, h3, vs, rest, h4, h5⟩ := k
    exact ⟨h1, h2, h3, vs, rest, denL_imp h _ _ h4, h5⟩
  | vec T size n get =>
    cases nm <;> simp only [HBok, renB] at k ⊢
    · exact k
    obtain ⟨h1, h2, h3, cells, h4, h5, h6⟩ := k
    refine ⟨h1, h2, h3, cells, h4, h5, fun i hi => ?_⟩
    obtain ⟨vs, d1, d2⟩ := h6 i hi
    exact ⟨vs, denL_any (ho i hi) d1, d2⟩
  | map es clock => cases nm <;> exact k
  | mp es => cases nm <;> exact k
  | dfr => cases nm <;> exact k
  | fam size C => cases nm <;> exact k
  | it mid since seen last => exact ho.elim
  | loop F nt fn ps assign body db s pd => exact ho.elim
theorem renB_live (s : Nat → Nat) (x : HB) : (renB s x).live = x.live := by cases x <;> rfl
theorem renB_ro {s : Nat → Nat} {x : HB} {z n : Nat} {g : Nat → List SV} (h : renB s x = .ro z n g) : x = .ro z n g := by cases x <;> first | exact h | cases h
theorem renB_fam {s : Nat → Nat} {x : HB} {z : Nat} {C : Value → Nat → (Nat → List SV) → Prop} (h : renB s x = .fam z C) : x = .fam z C := by cases x <;> first | exact h | cases h
theorem renH_find {s : Nat → Nat} : ∀ {H : List (Nat × HB)} {k : Nat} {y : HB}, findH (renH s H) k = some y → ∃ t x, s t = k ∧ findH H t = some x ∧ y = renB s x
  | (a, x) :: r, k, y, hf => by
    simp only [renH] at hf
    by_cases e : s a = k
    · rw [e, findH_cons, updL_self] at hf; cases hf
      exact ⟨a, x, e, by rw [findH_cons, updL_self], rfl⟩
    · rw [findH_skip e] at hf
      obtain ⟨t, x', h1, h2, h3⟩ := renH_find hf
      refine ⟨t, x', h1, ?_, h3⟩
      rw [findH_skip (fun e2 : a = t => e (by rw [e2]; exact h1))]
      exact h2
theorem renH_cover {s : Nat → Nat} : ∀ {H : List (Nat × HB)} {t : Nat} {x : HB}, findH H t = some x → ∃ y, findH (renH s H) (s t) = some y
  | (a, x) :: r, t, z, hf => by
    by_cases e : s a = s t
    · exact ⟨renB s x, by simp only [renH]; rw [e, findH_cons, updL_self]⟩
    · have hne : a ≠ t := fun h => e (by rw [h])
      rw [findH_skip hne] at hf
      obtain ⟨y, hy⟩ := renH_cover (s := s) hf
      exact ⟨y, by simp only [renH]; rw [findH_skip e]; exact hy⟩

/-- A has a piece for each id. -/
def fullL (A : List (Nat × HB)) : Nat → Bool
  | 0 => true
  | n + 1 => match findH A n with
    | some _ => fullL A n
    | none => false
theorem fullL_ok {A : List (Nat × HB)} : ∀ {n : Nat}, fullL A n = true → ∀ t, t < n → ∃ x, findH A t = some x
  | n + 1, h, t, ht => by
    simp only [fullL] at h
    split at h
    · rename_i x e
      by_cases e2 : t = n
      · subst e2; exact ⟨x, e⟩
      · exact fullL_ok h t (by omega)
    · cases h

/-- How ids are numbered after the call. -/
def shI (s : Nat → Nat) (n0 nx j : Nat) : Nat :=
  match Nat.ble n0 j with
  | true => nx + (j - n0)
  | false => s j

def fRenB (s : Nat → Nat) : HB → (HB → Prop) → Prop
  | .cells T cs, K => fSVL (renL s cs) fun l => K (.cells T l)
  | .row T z n xs, K => fSVL (renL s xs) fun l => K (.row T z n l)
  | x, K => K x
theorem fRenB_eq (s : Nat → Nat) (x : HB) (K : HB → Prop) : fRenB s x K = K (renB s x) := by cases x <;> simp [fRenB, renB, fSVL_eq]
def fRenH (s : Nat → Nat) (H : List (Nat × HB)) : List (Nat × HB) → (List (Nat × HB) → Prop) → Prop
  | [], K => K H
  | (t, x) :: r, K => natF (s t) fun t' => fRenB s x fun x' => fRenH s H r fun l => K ((t', x') :: l)
theorem fRenH_eq (s : Nat → Nat) (H : List (Nat × HB)) : ∀ (l : List (Nat × HB)) (K : List (Nat × HB) → Prop), fRenH s H l K = K (renH s l ++ H)
  | [], K => rfl
  | (t, x) :: r, K => by simp [fRenH, renH, natF_eq, fRenB_eq, fRenH_eq s H r]

/-- What a call comes to, by the caller's numbers. -/
def AtK (s : Nat → Nat) (n0 nx : Nat) (A : List (Nat × HB)) (H : List (Nat × HB)) (Rv : SV → List (Nat × HB) → Nat → Prop) (v : SV) (H' : List (Nat × HB)) (nx' : Nat) : Prop :=
  coverL H' A = true ∧ roSame A H' ∧ okH H' ∧ fSV (renSV (shI s n0 nx) v) fun v1 => fRenH (shI s n0 nx) H H' fun H1 => natF (nx + (nx' - n0)) fun n1 => Rv v1 H1 n1
def AtP (s : Nat → Nat) (n0 nx : Nat) (A : List (Nat × HB)) (H : List (Nat × HB)) (Rp : List PanicEntry → List (Nat × HB) → Nat → Prop) (ch : List PanicEntry) (H' : List (Nat × HB)) (nx' : Nat) : Prop :=
  coverL H' A = true ∧ roSame A H' ∧ okH H' ∧ fRenH (shI s n0 nx) H H' fun H1 => natF (nx + (nx' - n0)) fun n1 => Rp ch H1 n1

theorem callS_at {P : Program} {n : Nat} {l : List SV} {H : List (Nat × HB)} {nx : Nat} {Rv : SV → List (Nat × HB) → Nat → Prop} {Rp : List PanicEntry → List (Nat × HB) → Nat → Prop} (l0 : List SV) (A : List (Nat × HB)) (n0 : Nat) (s : Nat → Nat)
    (hl : SVeqL l (renL s l0)) (hli : idsL n0 l0 = true) (hA : weakRH s n0 H A) (hinj : injI s A = true) (hfull : fullL A n0 = true)
    (h : CallS P n l0 A n0 (AtK s n0 nx A H Rv) (AtP s n0 nx A H Rp)) : CallS P n l H nx Rv Rp := by
  intro ρ w vals hm hnx hd
  have hfind := weakRH_ok hA
  obtain ⟨ρ₀, hρ₀⟩ : ∃ ρ₀, ρ₀ = envR ρ s n0 := ⟨_, rfl⟩
  have hd0 : denL ρ₀ l0 = some vals := by rw [hρ₀, denL_envR _ hli, ← SVeqL_eq _ _ hl]; exact hd
  have hsome : ∀ {j nm}, ρ₀ j = some nm → j < n0 ∧ ρ (s j) = some nm := fun h => by rw [hρ₀] at h; exact envR_some h
  have hlt0 : ∀ {j}, j < n0 → ρ₀ j = ρ (s j) := fun h => by rw [hρ₀]; exact envR_lt h
  have hok0 : ∀ {id hb}, findH A id = some hb → ∃ nm, ρ₀ id = some nm ∧ ρ (s id) = some nm ∧ HBok ρ₀ w hb nm := fun hf => by
    obtain ⟨h1, hc, h2, h3⟩ := hfind _ _ hf
    obtain ⟨nm, h4, h5⟩ := hm.ok _ _ h2
    exact ⟨nm, by rw [hlt0 h1]; exact h4, h4, by rw [hρ₀]; exact lessHB_ok h3 h5⟩
  have hownA : ∀ b, Own ρ₀ (findH A) b → Own ρ (findH H) b := fun b ⟨id, x, nm', h1, h2, h3, h4⟩ => by
    obtain ⟨_, c2, b2, b3⟩ := hfind id x h1
    exact ⟨_, c2, nm', b2, lessHB_live b3 h2, (hsome h3).2, h4⟩
  have hfzA : ∀ b, Fz (findH A) b → Fz (findH H) b := fun b hz => weakRH_fz hA hz
  have hmA : HM ρ₀ (findH A) w := {
    ok := fun id hb hf => let ⟨nm, h1, _, h2⟩ := hok0 hf; ⟨nm, h1, h2⟩
    sep := fun i j x y n₁ n₂ b h1 h2 l1 l2 r1 r2 o1 o2 => by
      obtain ⟨_, c1, a2, a3⟩ := hfind i x h1
      obtain ⟨_, c2, b2, b3⟩ := hfind j y h2
      exact injI_ok hinj i j x y h1 h2 (hm.sep _ _ c1 c2 n₁ n₂ b a2 b2 (lessHB_live a3 l1) (lessHB_live b3 l2) (hsome r1).2 (hsome r2).2 o1 o2)
    ro := fun j size m get nm b hf hpos hr hb hO => by
      obtain ⟨_, c1, a2, a3⟩ := hfind j _ hf
      obtain ⟨g', rfl⟩ := lessHB_ro a3
      exact hm.ro _ size m g' nm b a2 hpos (hsome hr).2 hb (hownA b hO)
    fam := fun b hz hO => hm.fam b (hfzA b hz) (hownA b hO) }
  have hn0 : ∀ j, n0 ≤ j → ρ₀ j = none := fun j hj => by rw [hρ₀]; unfold envR; rw [if_neg (by omega)]
  -- what was left lies apart
  have hRown : ∀ k x nm b, (∀ t y, findH A t = some y → s t ≠ k) → findH H k = some x → x.live = true → ρ k = some nm → nm.owner = some b → ¬ Own ρ₀ (findH A) b := by
    intro k x nm b h0 h1 hl h2 h3 ⟨id, y, nm', g1, g2, g3, g4⟩
    obtain ⟨_, c2, b2, b3⟩ := hfind id y g1
    exact h0 id y g1 (hm.sep _ k c2 x nm' nm b b2 h1 (lessHB_live b3 g2) hl (hsome g3).2 h2 g4 h3)
  have hlt : ∀ k x nm b, findH H k = some x → x.live = true → ρ k = some nm → nm.owner = some b → b < w.heap.size := fun k x nm b h1 h2 h3 h4 => hm.lt ⟨k, x, nm, h1, h2, h3, h4⟩
  have hrolt : ∀ k size m get nm b, findH H k = some (.ro size m get) → 0 < m → ρ k = some nm → roBlock nm = some b → b < w.heap.size := by
    intro t size m get nm b h1 hpos h3 h4
    obtain ⟨nm2, k1, k2⟩ := hm.ok t _ h1
    rw [h3] at k1; cases k1
    cases nm <;> simp only [HBok] at k2
    obtain ⟨_, _, _, k3⟩ := k2
    obtain ⟨ad, rfl, klt, k4⟩ := k3 hpos
    simp only [roBlock, Option.some.injEq] at h4
    subst h4
    exact klt
  have back : ∀ {H' : List (Nat × HB)} {ρ₁ : Env} {w' : World} {nx' : Nat}, coverL H' A = true → roSame A H' → okH H' → HM ρ₁ (findH H') w' → Keep ⟨w, Own ρ₀ (findH A), ρ₀, Fz (findH A)⟩ ρ₁ (findH H') w' → (∀ j, nx' ≤ j → ρ₁ j = none) →
      ∃ ρ', (∀ j nm, ρ₁ j = some nm → ρ' (shI s n0 nx j) = some nm) ∧ HM ρ' (findH (renH (shI s n0 nx) H' ++ H)) w' ∧ Keep ⟨w, Own ρ (findH H), ρ, Fz (findH H)⟩ ρ' (findH (renH (shI s n0 nx) H' ++ H)) w' ∧ ∀ j, nx + (nx' - n0) ≤ j → ρ' j = none := by
    intro H' ρ₁ w' nx' hcov hro hokH hm' hk' hnx'
    obtain ⟨σ, hσ⟩ : ∃ σ, σ = shI s n0 nx := ⟨_, rfl⟩
    rw [← hσ]
    have hσge : ∀ {j}, n0 ≤ j → σ j = nx + (j - n0) := fun h => by rw [hσ]; simp only [shI, Nat.ble_eq_true_of_le h]
    have hσlt : ∀ {j}, j < n0 → σ j = s j := fun {j} h => by
      rw [hσ]; simp only [shI]
      cases e : Nat.ble n0 j with
      | true => have := Nat.le_of_ble_eq_true e; omega
      | false => rfl
    let ρ' : Env := fun j => if j < nx then ρ j else ρ₁ (n0 + (j - nx))
    have hρlt : ∀ {j}, j < nx → ρ' j = ρ j := fun {j} h => by show (if j < nx then ρ j else ρ₁ (n0 + (j - nx))) = ρ j; rw [if_pos h]
    have hρge : ∀ {j}, nx ≤ j → ρ' j = ρ₁ (n0 + (j - nx)) := fun {j} h => by show (if j < nx then ρ j else ρ₁ (n0 + (j - nx))) = _; rw [if_neg (by omega)]
    have hslt : ∀ {j nm}, ρ j = some nm → j < nx := fun {j nm} h => by
      rcases Nat.lt_or_ge j nx with h1 | h1
      · exact h1
      · rw [hnx j h1] at h; cases h
    have himp : ∀ j nm, ρ₁ j = some nm → ρ' (σ j) = some nm := by
      intro j nm hj
      rcases Nat.lt_or_ge j n0 with h1 | h1
      · obtain ⟨x, hx⟩ := fullL_ok hfull j h1
        obtain ⟨nm', g1, g2, _⟩ := hok0 hx
        rw [hk'.ext _ _ g1] at hj; cases hj
        rw [hσlt h1, hρlt (hslt g2)]
        exact g2
      · rw [hσge h1, hρge (by omega), show n0 + (nx + (j - n0) - nx) = j by omega]
        exact hj
    have hext : Ext ρ ρ' := fun j nm hj => by rw [hρlt (hslt hj)]; exact hj
    have cases' : ∀ k y, findH (renH σ H' ++ H) k = some y → (∃ t x, σ t = k ∧ findH H' t = some x ∧ y = renB σ x) ∨ ((∀ t y, findH A t = some y → s t ≠ k) ∧ findH H k = some y) := by
      intro k y hk
      rw [findH_app] at hk
      split at hk
      · rename_i e; cases hk; exact .inl (renH_find e)
      · rename_i e
        refine .inr ⟨fun t z hz hst => ?_, hk⟩
        obtain ⟨z', hz'⟩ := coverL_find hcov t z hz
        obtain ⟨y', hy'⟩ := renH_cover (s := σ) hz'
        rw [hσlt (hfind t z hz).1, hst, e] at hy'
        cases hy'
    -- a piece that came back, and its place
    have hplace : ∀ t x, findH H' t = some x → ∃ nm, ρ₁ t = some nm ∧ ρ' (σ t) = some nm ∧ HBok ρ₁ w' x nm := fun t x hx => by
      obtain ⟨nm, h1, h2⟩ := hm'.ok t x hx
      exact ⟨nm, h1, himp t nm h1, h2⟩
    have ownNew : ∀ b, Own ρ₁ (findH H') b → Own ρ₀ (findH A) b ∨ w.heap.size ≤ b := fun b hO => hk'.own b hO
    have hleft : ∀ k x, findH H k = some x → ∃ nm, ρ k = some nm ∧ ρ' k = some nm ∧ HBok ρ w x nm := fun k x hx => by
      obtain ⟨nm, h1, h2⟩ := hm.ok _ _ hx
      exact ⟨nm, h1, hext _ _ h1, h2⟩
    have fzNew : ∀ b, Fz (findH (renH σ H' ++ H)) b → Fz (findH H') b ∨ Fz (findH H) b := by
      rintro b ⟨k, size, C, v, m, get, hf, hc, hpos, hb⟩
      rcases cases' k _ hf with ⟨t, x, rfl, h1, h2⟩ | ⟨_, h1⟩
      · rw [renB_fam h2.symm] at h1
        exact .inl ⟨t, size, C, v, m, get, h1, hc, hpos, hb⟩
      · exact .inr ⟨k, size, C, v, m, get, h1, hc, hpos, hb⟩
    refine ⟨ρ', himp, ?_, ?_, ?_⟩
    · exact {
        ok := fun k y hf => by
          rcases cases' k y hf with ⟨t, x, rfl, h1, rfl⟩ | ⟨h0, h1⟩
          · obtain ⟨nm, g1, g2, g3⟩ := hplace t x h1
            exact ⟨nm, g2, renB_ok himp (okH_find hokH t x h1) g3⟩
          · obtain ⟨nm, q1, q2, q3⟩ := hleft k y h1
            refine ⟨nm, q2, HBok_ext hext (HBok_world hk'.size ?_ ?_ ?_ q3)⟩
            · intro hl b hb'
              exact hk'.same b (hlt k y nm b h1 hl q1 hb') (hRown k y nm b h0 h1 hl q1 hb')
            · intro size m get b e hpos hr
              subst e
              exact hk'.same b (hrolt k size m get nm b h1 hpos q1 hr) (fun hO => hm.ro k size m get nm b h1 hpos q1 hr (hownA b hO))
            · intro size C v m get b e hc hpos hr
              subst e
              have hz : Fz (findH H) b := ⟨k, size, C, v, m, get, h1, hc, hpos, hr⟩
              exact hk'.same b (hm.fz_lt hz) (fun hO => hm.fam b hz (hownA b hO))
        sep := fun i j x y n₁ n₂ b h1 h2 l1 l2 r1 r2 o1 o2 => by
          rcases cases' i x h1 with ⟨t1, x1, rfl, f1, rfl⟩ | ⟨z1, h1⟩ <;> rcases cases' j y h2 with ⟨t2, x2, rfl, f2, rfl⟩ | ⟨z2, h2⟩
          · rw [renB_live] at l1 l2
            obtain ⟨nm1, g1, g2, _⟩ := hplace t1 x1 f1
            obtain ⟨nm2, k1, k2, _⟩ := hplace t2 x2 f2
            rw [g2] at r1; cases r1
            rw [k2] at r2; cases r2
            rw [hm'.sep t1 t2 x1 x2 _ _ b f1 f2 l1 l2 g1 k1 o1 o2]
          · rw [renB_live] at l1
            obtain ⟨nm1, g1, g2, _⟩ := hplace t1 x1 f1
            rw [g2] at r1; cases r1
            obtain ⟨nm, q1, q2, q3⟩ := hleft j y h2
            rw [q2] at r2; cases r2
            have k1 := hRown j y _ b z2 h2 l2 q1 o2
            have k2 := hlt j y _ b h2 l2 q1 o2
            rcases ownNew _ ⟨t1, x1, _, f1, l1, g1, o1⟩ with h | h
            · exact absurd h k1
            · omega
          · rw [renB_live] at l2
            obtain ⟨nm1, g1, g2, _⟩ := hplace t2 x2 f2
            rw [g2] at r2; cases r2
            obtain ⟨nm, q1, q2, q3⟩ := hleft i x h1
            rw [q2] at r1; cases r1
            have k1 := hRown i x _ b z1 h1 l1 q1 o1
            have k2 := hlt i x _ b h1 l1 q1 o1
            rcases ownNew _ ⟨t2, x2, _, f2, l2, g1, o2⟩ with h | h
            · exact absurd h k1
            · omega
          · obtain ⟨nm, q1, q2, q3⟩ := hleft i x h1
            obtain ⟨nm', p1, p2, p3⟩ := hleft j y h2
            rw [q2] at r1; cases r1
            rw [p2] at r2; cases r2
            exact hm.sep i j x y _ _ b h1 h2 l1 l2 q1 p1 o1 o2
        ro := fun j size m get nm b hf hpos hr hb hO => by
          obtain ⟨id, x, nm', g1, g2, g3, g4⟩ := hO
          rcases cases' j _ hf with ⟨t1, x1, rfl, f1, e1⟩ | ⟨z1, h1⟩
          · rw [renB_ro e1.symm] at f1
            obtain ⟨nm1, k1, k2, _⟩ := hplace t1 _ f1
            rw [k2] at hr; cases hr
            rcases cases' id x g1 with ⟨t2, x2, rfl, f2, rfl⟩ | ⟨z2, g1⟩
            · rw [renB_live] at g2
              obtain ⟨nm2, q1, q2, _⟩ := hplace t2 x2 f2
              rw [q2] at g3; cases g3
              exact hm'.ro t1 size m get _ b f1 hpos k1 hb ⟨t2, x2, _, f2, g2, q1, g4⟩
            · obtain ⟨nm2, q1, q2, q3⟩ := hleft id x g1
              rw [q2] at g3; cases g3
              obtain ⟨s', g', e⟩ := roSame_find hro t1 size m get f1
              obtain ⟨nm3, p1, p2, _⟩ := hok0 e
              have p3 := hk'.ext _ _ p1
              rw [k1] at p3; cases p3
              obtain ⟨_, c2, b2, b3⟩ := hfind t1 _ e
              obtain ⟨g'', rfl⟩ := lessHB_ro b3
              exact hm.ro _ s' m g'' _ b b2 hpos p2 hb ⟨id, x, _, g1, g2, q1, g4⟩
          · obtain ⟨nm2, q1, q2, q3⟩ := hleft j _ h1
            rw [hr] at q2; cases q2
            rcases cases' id x g1 with ⟨t2, x2, rfl, f2, rfl⟩ | ⟨z2, g1⟩
            · rw [renB_live] at g2
              obtain ⟨nm2, k1, k2, _⟩ := hplace t2 x2 f2
              rw [k2] at g3; cases g3
              rcases ownNew b ⟨t2, x2, _, f2, g2, k1, g4⟩ with h | h
              · exact hm.ro j size m get nm b h1 hpos q1 hb (hownA b h)
              · have := hrolt j size m get nm b h1 hpos q1 hb
                omega
            · obtain ⟨nm3, p1, p2, p3⟩ := hleft id x g1
              rw [p2] at g3; cases g3
              exact hm.ro j size m get nm b h1 hpos q1 hb ⟨id, x, _, g1, g2, p1, g4⟩
        fam := fun b hz hO => by
          obtain ⟨id, x, nm', g1, g2, g3, g4⟩ := hO
          rcases fzNew b hz with hz | hz
          · rcases cases' id x g1 with ⟨t2, x2, rfl, f2, rfl⟩ | ⟨z2, g1⟩
            · rw [renB_live] at g2
              obtain ⟨nm2, k1, k2, _⟩ := hplace t2 x2 f2
              rw [k2] at g3; cases g3
              exact hm'.fam b hz ⟨t2, x2, _, f2, g2, k1, g4⟩
            · obtain ⟨nm2, q1, q2, q3⟩ := hleft id x g1
              rw [q2] at g3; cases g3
              rcases hk'.fz b hz with h | h | h
              · exact hRown id x _ b z2 g1 g2 q1 g4 h
              · have := hlt id x _ b g1 g2 q1 g4
                have h : w.heap.size ≤ b := h
                omega
              · exact hm.fam b (hfzA b h) ⟨id, x, _, g1, g2, q1, g4⟩
          · rcases cases' id x g1 with ⟨t2, x2, rfl, f2, rfl⟩ | ⟨z2, g1⟩
            · rw [renB_live] at g2
              obtain ⟨nm2, k1, k2, _⟩ := hplace t2 x2 f2
              rw [k2] at g3; cases g3
              rcases ownNew b ⟨t2, x2, _, f2, g2, k1, g4⟩ with h | h
              · exact hm.fam b hz (hownA b h)
              · have := hm.fz_lt hz
                omega
            · obtain ⟨nm3, p1, p2, p3⟩ := hleft id x g1
              rw [p2] at g3; cases g3
              exact hm.fam b hz ⟨id, x, _, g1, g2, p1, g4⟩ }
    · exact {
        str := hk'.str
        size := hk'.size
        same := fun b hb hnM => hk'.same b hb (fun h => hnM (hownA b h))
        own := fun b ⟨id, x, nm', g1, g2, g3, g4⟩ => by
          rcases cases' id x g1 with ⟨t2, x2, rfl, f2, rfl⟩ | ⟨z1, g1⟩
          · rw [renB_live] at g2
            obtain ⟨nm2, k1, k2, _⟩ := hplace t2 x2 f2
            rw [k2] at g3; cases g3
            rcases ownNew b ⟨t2, x2, _, f2, g2, k1, g4⟩ with h | h
            · exact .inl (hownA b h)
            · exact .inr h
          · obtain ⟨nm, q1, q2, q3⟩ := hleft id x g1
            rw [q2] at g3; cases g3
            exact .inl ⟨id, x, _, g1, g2, q1, g4⟩
        ext := hext
        fz := fun b hz => by
          rcases fzNew b hz with hz | hz
          · exact (hk'.fz b hz).imp (hownA b) (Or.imp id (hfzA b))
          · exact .inr (.inr hz) }
    · intro j hj
      rw [hρge (by omega)]
      exact hnx' _ (by omega)
  refine (h ρ₀ w vals hmA hn0 hd0).mono ?_
  rintro e w' (⟨v, H', nx', ρ₁, u, rfl, h1, h2, h3, h4, hc, hr, ho, hK⟩ | ⟨ch, H', nx', ρ₁, rfl, h2, h3, h4, hc, hr, ho, hK⟩)
  · obtain ⟨ρ', b1, b2, b3, b4⟩ := back hc hr ho h2 h3 h4
    rw [fSV_eq, fRenH_eq, natF_eq] at hK
    exact .inl ⟨_, _, _, ρ', u, rfl, den_imp b1 _ _ h1, b2, b3, b4, hK⟩
  · obtain ⟨ρ', b1, b2, b3, b4⟩ := back hc hr ho h2 h3 h4
    rw [fRenH_eq, natF_eq] at hK
    exact .inr ⟨ch, _, _, ρ', rfl, b2, b3, b4, hK⟩
end Go.X
end

section
set_option linter.unusedVariables false
set_option linter.unusedSimpArgs false
set_option linter.unusedSectionVars false
/- Before a call: a piece under a new number, a new family. -/
set_option linter.unusedVariables false
set_option linter.unusedSimpArgs false
set_option maxRecDepth 10000
namespace Go.X
open Go

theorem HM.move {ρ : Env} {H : List (Nat × HB)} {w : World} (hm : HM ρ (findH H) w) {id nx : Nat} {hb : HB} {nm : Nm} (hf : findH H id = some hb) (hn : ρ id = some nm) (hx : ρ nx = none) (hl : hb.live = true) (hnr : ∀ s n g, hb ≠ .ro s n g) (hnf : ∀ s C, hb ≠ .fam s C) :
    HM (upd ρ nx nm) (findH ((nx, hb) :: (id, .dead) :: H)) w ∧ (∀ b, Own (upd ρ nx nm) (findH ((nx, hb) :: (id, .dead) :: H)) b → Own ρ (findH H) b) ∧ ∀ b, Fz (findH ((nx, hb) :: (id, .dead) :: H)) b → Fz (findH H) b := by
  have hne : nx ≠ id := by rintro rfl; rw [hn] at hx; cases hx
  have key : ∀ {j : Nat} {x : HB}, findH ((nx, hb) :: (id, .dead) :: H) j = some x → (j = nx ∧ x = hb) ∨ (j = id ∧ x = .dead) ∨ (j ≠ nx ∧ j ≠ id ∧ findH H j = some x) := by
    intro j x h
    rw [findH_cons] at h
    by_cases e1 : nx = j
    · subst e1; rw [updL_self] at h; cases h; exact .inl ⟨rfl, rfl⟩
    · rw [updL_ne _ _ e1, findH_cons] at h
      by_cases e2 : id = j
      · subst e2; rw [updL_self] at h; cases h; exact .inr (.inl ⟨rfl, rfl⟩)
      · rw [updL_ne _ _ e2] at h; exact .inr (.inr ⟨Ne.symm e1, Ne.symm e2, h⟩)
  -- a live piece is one that was
  have back : ∀ {j : Nat} {x : HB} {nm' : Nm}, findH ((nx, hb) :: (id, .dead) :: H) j = some x → x.live = true → upd ρ nx nm j = some nm' → ∃ j', findH H j' = some x ∧ ρ j' = some nm' ∧ ((j = nx ∧ j' = id) ∨ (j ≠ nx ∧ j ≠ id ∧ j' = j)) := by
    intro j x nm' h hl' hr
    rcases key h with ⟨rfl, rfl⟩ | ⟨rfl, rfl⟩ | ⟨h1, h2, h3⟩
    · rw [upd_self] at hr; cases hr; exact ⟨id, hf, hn, .inl ⟨rfl, rfl⟩⟩
    · cases hl'
    · rw [upd_ne _ _ h1] at hr; exact ⟨j, h3, hr, .inr ⟨h1, h2, rfl⟩⟩
  have hown : ∀ b, Own (upd ρ nx nm) (findH ((nx, hb) :: (id, .dead) :: H)) b → Own ρ (findH H) b := by
    rintro b ⟨j, x, nm', h1, h2, h3, h4⟩
    obtain ⟨j', g1, g2, _⟩ := back h1 h2 h3
    exact ⟨j', x, nm', g1, h2, g2, h4⟩
  have hfz : ∀ b, Fz (findH ((nx, hb) :: (id, .dead) :: H)) b → Fz (findH H) b := fun b hz => hz.sub fun j s C h => by
    rcases key h with ⟨rfl, e⟩ | ⟨rfl, e⟩ | ⟨_, _, h3⟩
    · exact (hnf _ _ e.symm).elim
    · cases e
    · exact h3
  refine ⟨⟨?_, ?_, ?_, fun b hz ho => hm.fam b (hfz b hz) (hown b ho)⟩, hown, hfz⟩
  · intro j x h
    rcases key h with ⟨rfl, rfl⟩ | ⟨rfl, rfl⟩ | ⟨h1, h2, h3⟩
    · obtain ⟨nm', g1, g2⟩ := hm.ok _ _ hf
      rw [hn] at g1; cases g1
      exact ⟨nm, upd_self _ _ _, HBok_ext (Ext.upd nm hx) g2⟩
    · exact ⟨nm, by rw [upd_ne _ _ (Ne.symm hne)]; exact hn, trivial⟩
    · obtain ⟨nm', g1, g2⟩ := hm.ok _ _ h3
      exact ⟨nm', by rw [upd_ne _ _ h1]; exact g1, HBok_ext (Ext.upd nm hx) g2⟩
  · intro i j x y n₁ n₂ b h1 h2 l1 l2 r1 r2 o1 o2
    obtain ⟨i', g1, g2, g3⟩ := back h1 l1 r1
    obtain ⟨j', k1, k2, k3⟩ := back h2 l2 r2
    have := hm.sep i' j' x y n₁ n₂ b g1 k1 l1 l2 g2 k2 o1 o2
    subst this
    rcases g3 with ⟨rfl, rfl⟩ | ⟨a1, a2, rfl⟩ <;> rcases k3 with ⟨rfl, e⟩ | ⟨b1, b2, e⟩
    · rfl
    · exact (b2 e.symm).elim
    · exact (a2 e).elim
    · exact e
  · intro j size m get nm' b h hpos hr hb' ho
    rcases key h with ⟨rfl, e⟩ | ⟨rfl, e⟩ | ⟨h1, h2, h3⟩
    · exact (hnr _ _ _ e.symm).elim
    · cases e
    · rw [upd_ne _ _ h1] at hr
      exact hm.ro j size m get nm' b h3 hpos hr hb' (hown b ho)

end Go.X
end

section
set_option linter.unusedVariables false
set_option linter.unusedSimpArgs false
set_option linter.unusedSectionVars false
/- Regions of any order: guarded operations whose guards hold, and calls. -/
set_option linter.unusedVariables false
set_option linter.unusedSimpArgs false
set_option maxRecDepth 10000
namespace Go.X
open Go

end Go.X
end

section
set_option linter.unusedVariables false
set_option linter.unusedSimpArgs false
set_option linter.unusedSectionVars false
/- Operations that wrap; slices that are compared with nil. -/
set_option linter.unusedVariables false
set_option linter.unusedSimpArgs false
set_option maxRecDepth 10000
namespace Go.X
open Go
section
variable {X : Cx} {st : St}

end
end Go.X
end

section
set_option linter.unusedVariables false
set_option linter.unusedSimpArgs false
set_option linter.unusedSectionVars false
/- Slices that are told of, or nil, are looked at. -/
set_option linter.unusedVariables false
set_option linter.unusedSimpArgs false
set_option maxRecDepth 10000
namespace Go.X
open Go
section
variable {X : Cx} {ρ : Env} {st : St} {a : Act} {w : World}
/-- A new id for nil, to be read. -/
theorem Mod.nilRo (hm : Mod X ρ st a w) (s : Nat) (get : Nat → List SV) : Mod X (upd ρ st.nx (.sl none 0 0 s)) { st with H := (st.nx, .ro s 0 get) :: st.H, nx := st.nx + 1 } a w := by
  have hf : ρ st.nx = none := hm.nx _ (Nat.le_refl _)
  exact {
    fm := hm.fm.ext (Ext.upd _ hf)
    gs := hm.gs
    df := hm.df.ext (Ext.upd _ hf)
    hm := {
      ok := fun j hb hj => by
        rw [findH_cons] at hj
        by_cases e : st.nx = j
        · subst e; rw [updL_self] at hj; cases hj
          exact ⟨_, upd_self _ _ _, rfl, rfl, Nat.le_refl _, fun h => absurd h (Nat.lt_irrefl _)⟩
        · rw [updL_ne _ _ e] at hj
          obtain ⟨nm, h1, h2⟩ := hm.hm.ok j hb hj
          exact ⟨nm, by rw [upd_ne _ _ (Ne.symm e)]; exact h1, HBok_ext (Ext.upd _ hf) h2⟩
      sep := fun i j x y n₁ n₂ b h1 h2 l1 l2 r1 r2 o1 o2 => by
        rw [findH_cons] at h1 h2
        by_cases e1 : st.nx = i
        · subst e1; rw [upd_self] at r1; cases r1; cases o1
        · by_cases e2 : st.nx = j
          · subst e2; rw [upd_self] at r2; cases r2; cases o2
          · rw [updL_ne _ _ e1] at h1; rw [updL_ne _ _ e2] at h2
            rw [upd_ne _ _ (Ne.symm e1)] at r1; rw [upd_ne _ _ (Ne.symm e2)] at r2
            exact hm.hm.sep i j x y n₁ n₂ b h1 h2 l1 l2 r1 r2 o1 o2
      ro := fun j size n get' nm b hj hn hr hb ho => by
        rw [findH_cons] at hj
        by_cases e : st.nx = j
        · subst e; rw [updL_self] at hj; cases hj; omega
        · rw [updL_ne _ _ e] at hj
          rw [upd_ne _ _ (Ne.symm e)] at hr
          rcases Own.cons hf ho with h | h
          · cases h
          · exact hm.hm.ro j size n get' nm b hj hn hr hb h
      fam := fun b hz ho => by
        rw [findH_cons] at hz
        rcases Own.cons hf ho with h | h
        · cases h
        · exact hm.hm.fam b (hz.upd fun s C h => by cases h) h }
    kp := {
      str := hm.kp.str
      size := hm.kp.size
      same := hm.kp.same
      own := fun b ho => by
        rcases Own.cons hf ho with h | h
        · cases h
        · exact hm.kp.own b h
      ext := hm.kp.ext.trans (Ext.upd _ hf)
      fz := fun b hz => hm.kp.fz b (by rw [findH_cons] at hz; exact hz.upd fun s C h => by cases h) }
    nx := fun j hj => by
      have : st.nx + 1 ≤ j := hj
      rw [upd_ne _ _ (by omega)]; exact hm.nx j (by omega)
    sz := hm.sz }
/-- A slice that is told of, or nil. -/
def toldV (C : Value → Nat → (Nat → List SV) → Prop) (v : Value) (n : Nat) (get : Nat → List SV) : Prop :=
  (v = .slice none 0 0 ∧ n = 0) ∨ ∃ ad c, v = .slice (some ad) n c ∧ C v n get
end
end Go.X
end

section
set_option linter.unusedVariables false
set_option linter.unusedSimpArgs false
set_option linter.unusedSectionVars false
/- Regions of any order: a part that is followed set by set (also in a round of a range over a function). -/
set_option linter.unusedVariables false
set_option linter.unusedSimpArgs false
set_option maxRecDepth 10000
set_option maxHeartbeats 4000000
namespace Go.X
open Go

/-- All of these slots are there. -/
def subF (F : List (Nat × FE)) : List (Nat × FE) → Prop
  | [] => True
  | (d, e) :: r => (findF F d = some e ∧ e.gp = []) ∧ subF F r
/-! Operations that only read, in whatever order: each of them is looked at once. -/
theorem findF_mem {A : List (Nat × FE)} : ∀ {L : List (Nat × FE)}, (∀ p ∈ L, findF A p.1 = some p.2) → ∀ {t : Nat} {e : FE}, (findF L t = some e → findF A t = some e ∧ (t, e) ∈ L) ∧ ((t, e) ∈ L → findF L t = some e)
  | [], _, t, e => ⟨fun h => (by cases h), fun h => (by cases h)⟩
  | (d, x) :: r, hc, t, e => by
    have ih := findF_mem (A := A) (L := r) (fun p hp => hc p (List.mem_cons_of_mem _ hp)) (t := t) (e := e)
    have h0 := hc (d, x) List.mem_cons_self
    simp only [findF]
    constructor
    · intro h
      split at h
      · rename_i hd
        cases h
        have : d = t := Nat.eq_of_beq_eq_true hd
        subst this
        exact ⟨h0, List.mem_cons_self⟩
      · obtain ⟨h1, h2⟩ := ih.1 h
        exact ⟨h1, List.mem_cons_of_mem _ h2⟩
    · intro h
      split
      · rename_i hd
        have : d = t := Nat.eq_of_beq_eq_true hd
        subst this
        have h1 := hc (d, e) h
        rw [h0] at h1
        exact h1
      · rename_i hd
        rcases List.mem_cons.1 h with h | h
        · cases h
          rw [Nat.beq_refl] at hd
          exact absurd rfl hd
        · exact ih.2 h
theorem mod_sub {X : Cx} {ρ : Env} {A F F' : List (Nat × FE)} {gs : List Nat} {H : List (Nat × HB)} {nx nx' : Nat} {D : List SDef} {a : Act} {w : World} (hA : ∀ p ∈ A, findF A p.1 = some p.2 ∧ p.2.gp = []) (h1 : ∀ p ∈ F, p ∈ A) (h2 : ∀ p ∈ F', p ∈ F) (hn : nx ≤ nx')
    (hm : Mod X ρ ⟨F, gs, H, nx, D⟩ a w) : Mod X ρ ⟨F', [], H, nx', D⟩ a w := by
  have key : ∀ t e, findF F' t = some e → findF F t = some e ∧ e.gp = [] := fun t e h => by
    have m := ((findF_mem (A := A) (L := F') fun p hp => (hA p (h1 p (h2 p hp))).1).1 h).2
    exact ⟨(findF_mem (A := A) (L := F) fun p hp => (hA p (h1 p hp)).1).2 (h2 _ m), (hA _ (h1 _ (h2 _ m))).2⟩
  exact {
    fm := fun t e h => hm.fm t e (key t e h).1
    gs := fun t e h x hx => by rw [(key t e h).2] at hx; cases hx
    df := hm.df
    hm := hm.hm
    kp := hm.kp
    nx := fun j hj => hm.nx j (Nat.le_trans hn hj)
    sz := hm.sz }
def allB : Nat → List (List Bool)
  | 0 => [[]]
  | n + 1 => (allB n).flatMap fun l => [false :: l, true :: l]
theorem mem_allB : ∀ (l : List Bool), l ∈ allB l.length
  | [] => List.mem_cons_self
  | b :: r => by
    refine List.mem_flatMap.2 ⟨r, mem_allB r, ?_⟩
    cases b <;> simp
def clB2 (anc : Nat → List Nat) (l : List Bool) : Bool := (List.range l.length).all fun i => !(l.getD i false) || (anc i).all fun j => l.getD j false
def slF (slots : Nat → List (Nat × FE)) (base : List (Nat × FE)) (l : List Bool) : List (Nat × FE) := ((List.range l.length).flatMap fun i => if l.getD i false = true then slots i else []) ++ base
theorem slF_mem {slots : Nat → List (Nat × FE)} {base : List (Nat × FE)} {l : List Bool} {p : Nat × FE} : p ∈ slF slots base l ↔ (∃ i, i < l.length ∧ l.getD i false = true ∧ p ∈ slots i) ∨ p ∈ base := by
  unfold slF
  rw [List.mem_append, List.mem_flatMap]
  constructor
  · rintro (⟨i, hi, hp⟩ | hp)
    · left
      split at hp
      · rename_i h
        exact ⟨i, List.mem_range.1 hi, h, hp⟩
      · cases hp
    · exact .inr hp
  · rintro (⟨i, hi, h, hp⟩ | hp)
    · exact .inl ⟨i, List.mem_range.2 hi, by rw [if_pos h]; exact hp⟩
    · exact .inr hp
def latX (ops : Array Oper) (m : Nat) (arr : List Bool → Array Bool) (opi : Nat → Nat) (ex : List Bool → Bool) (anc : Nat → List Nat) (l : List Bool) : Bool :=
  !clB2 anc l || (ex l || (let rs := Region.ready .any ops (arr l); !rs.isEmpty && rs.all fun o => (List.range m).any fun i => opi i == o && (!(l.getD i true) && ((anc i).all (fun j => l.getD j false) && (arr l).setIfInBounds o true == arr (l.set i true)))))
section
variable {X : Cx} {st : St}
end
end Go.X
end

section
set_option linter.unusedVariables false
set_option linter.unusedSimpArgs false
set_option linter.unusedSectionVars false
/- A cell that holds a slice that is told of is looked at. -/
set_option linter.unusedVariables false
set_option linter.unusedSimpArgs false
set_option maxRecDepth 10000
namespace Go.X
open Go
section
variable {X : Cx} {st : St}
theorem sem_lookCell (fid id Tc n size : Nat) (v : Value) (get : Nat → List SV) (cs cs' : List SV) {C : Value → Nat → (Nat → List SV) → Prop} {c : Code} {K : Ex → St → Prop} (h1 : findH st.H id = some (.cells Tc cs)) (h2 : findH st.H fid = some (.fam size C)) (hc : toldV C v n get) (hu : frzL st.nx v cs' = cs)
    (h : stK st fun F gs H nx D => natF (nx + 1) fun nx' => SemC X c ⟨F, gs, (id, .cells Tc cs') :: (nx, .ro size n get) :: H, nx', D⟩ K) : SemC X c st K := by
  intro ρ a w hm
  rw [stK_eq, natF_eq] at h
  have hid : id ≠ st.nx := fun e => by
    obtain ⟨nm, h2, _⟩ := hm.hm.ok _ _ h1
    rw [hm.nx id (by omega)] at h2; cases h2
  obtain ⟨nm, h3, h4⟩ := hm.hm.ok _ _ h1
  have key : ∀ ρ', Ext ρ ρ' → Mod X ρ' { st with H := (st.nx, .ro size n get) :: st.H, nx := st.nx + 1 } a w → v.oneCell' = true → den ρ' (.sl st.nx) = some v → (∀ j, j ≠ st.nx → ρ' j = ρ j) → c.wpIn (FW X.r) 0 X.P (Qof X K) a w := by
    intro ρ' hx hm2 hv hd hs
    have h5 : findH ((st.nx, .ro size n get) :: st.H) id = some (.cells Tc cs) := by
      rw [findH_cons, updL_ne _ _ (Ne.symm hid)]; exact h1
    refine h _ a w (hm2.swap (hb' := .cells Tc cs') h5 rfl (nm := nm) (by rw [hs id hid]; exact h3) ?_ (fun _ _ _ h => by cases h))
    have h6 := HBok_ext hx h4
    cases nm <;> simp only [HBok] at h6 ⊢
    obtain ⟨vs, d1, d2, d3⟩ := h6
    exact ⟨vs, by rw [← denL_frz hv hd, hu]; exact d1, d2, d3⟩
  rcases hc with ⟨rfl, rfl⟩ | ⟨ad, k, rfl, hc⟩
  · exact key _ (Ext.upd _ (hm.nx _ (Nat.le_refl _))) (hm.nilRo size get) rfl (by simp [den, upd_self]) (fun j hj => upd_ne _ _ hj)
  · exact key _ (Ext.upd _ (hm.nx _ (Nat.le_refl _))) (hm.focus h2 hc) rfl (by simp [den, upd_self]) (fun j hj => upd_ne _ _ hj)
end
end Go.X
end

section
set_option linter.unusedVariables false
set_option linter.unusedSimpArgs false
set_option linter.unusedSectionVars false
/- Calls of functions with a range over a function, that come to a state. -/
set_option linter.unusedVariables false
set_option linter.unusedSimpArgs false
set_option maxRecDepth 10000
namespace Go.X
open Go
end Go.X
end

section
set_option linter.unusedVariables false
set_option linter.unusedSimpArgs false
set_option linter.unusedSectionVars false
/- Regions of any order: operations that only read, and one call that may run between them. -/
set_option linter.unusedVariables false
set_option linter.unusedSimpArgs false
set_option maxRecDepth 10000
set_option maxHeartbeats 4000000
namespace Go.X
open Go

theorem allB_len : ∀ {m : Nat} {l : List Bool}, l ∈ allB m → l.length = m
  | 0, l, h => by rw [List.mem_singleton.1 h]; rfl
  | m + 1, l, h => by
    obtain ⟨l', h1, h2⟩ := List.mem_flatMap.1 h
    have := allB_len h1
    rcases List.mem_cons.1 h2 with rfl | h2
    · simp [this]
    · rw [List.mem_singleton.1 h2]; simp [this]
end Go.X
end

section
set_option linter.unusedVariables false
set_option linter.unusedSimpArgs false
set_option linter.unusedSectionVars false
/- Regions whose order Go leaves open: the first operations in any order, and the others after them, in any order too. -/
set_option linter.unusedVariables false
set_option linter.unusedSimpArgs false
set_option maxRecDepth 10000
set_option maxHeartbeats 4000000
namespace Go.X
open Go

section
variable {X : Cx} {ops : List Oper} {A : List Nat} {S : List (Nat × Nat)} {st : St} {acc : List DE} {L : Nat → Bool} {ρ : Env} {a : Act} {w : World}
end
section
variable {X : Cx} {st : St}
end
end Go.X
end

section
set_option linter.unusedVariables false
set_option linter.unusedSimpArgs false
set_option linter.unusedSectionVars false
/- Regions of any order: operations that change the heap, and a call between them; regions in which a call panics. -/
set_option linter.unusedVariables false
set_option linter.unusedSimpArgs false
set_option maxRecDepth 10000
set_option maxHeartbeats 4000000
namespace Go.X
open Go

end Go.X
end

section
set_option linter.unusedVariables false
set_option linter.unusedSimpArgs false
set_option linter.unusedSectionVars false
/- Regions whose order Go leaves open: the first operations in any order, one more that waits for none, and the others after them, in any order. -/
set_option linter.unusedVariables false
set_option linter.unusedSimpArgs false
set_option maxRecDepth 10000
set_option maxHeartbeats 4000000
namespace Go.X
open Go

section
variable {X : Cx} {A A' : List Nat} {S : List (Nat × Nat)} {st : St} {acc : List DE}
end
section
variable {X : Cx} {st : St}
end
end Go.X
end

section
set_option linter.unusedVariables false
set_option linter.unusedSimpArgs false
set_option linter.unusedSectionVars false
/- Contracts that hand back an empty piece where a function hands back a nil slice. -/
set_option linter.unusedVariables false
set_option linter.unusedSimpArgs false
set_option maxRecDepth 10000
set_option maxHeartbeats 4000000
namespace Go.X
open Go Go.Proofs
variable {P : Program}

end Go.X
end

section
set_option linter.unusedVariables false
set_option linter.unusedSimpArgs false
set_option linter.unusedSectionVars false
/- Own slices that are not written any more become slices to read; copies of parts that may be empty. -/
set_option linter.unusedVariables false
set_option linter.unusedSimpArgs false
set_option maxRecDepth 10000
set_option maxHeartbeats 4000000
namespace Go.X
open Go
section
variable {X : Cx} {ρ : Env} {st : St} {a : Act} {w : World}
end
end Go.X
end

section
set_option linter.unusedVariables false
set_option linter.unusedSimpArgs false
set_option linter.unusedSectionVars false
/- TopWarmed: a number of a span, by remainders (the closure that counts). -/
set_option linter.unusedVariables false
set_option linter.unusedSimpArgs false
set_option maxRecDepth 10000
set_option maxHeartbeats 4000000
namespace Go.X.W
open Go Go.Proofs Go.X

/-- What is drawn of a span, when at numbers were drawn before. -/
def drawV (m : Nat) (o : Nat → Int) (c lo hi : Int) : Int := if m = 0 then lo else lo + (o ((c + 1).tmod (m : Int)).toNat + 71 * (c + 1)).tmod (hi - lo + 1)
theorem bd53 : Body P 53 := body_of Try.func53 (c := code Try.f53) rfl (by decide)
def dA (m : Nat) (o : Nat → Int) (c : Int) : List (Nat × HB) := [(0, .ro 1 m fun i => [.si .u16 (o i)]), (1, .cells 3 [.si .i64 c]), (2, .cells 25 [.sl 0])]
theorem s53 {m : Nat} {o : Nat → Int} (hm : m ≤ maxLen) (ho : ∀ i, i < m → 0 ≤ o i ∧ o i < 65536) {c lo hi : Int} (hc : 0 ≤ c ∧ c ≤ 100000) (hl : -1000000 ≤ lo ∧ lo ≤ hi ∧ hi ≤ 1000000) {Rv : SV → List (Nat × HB) → Nat → Prop} {Rp : List PanicEntry → List (Nat × HB) → Nat → Prop}
    (hRv : Rv (.si .i64 (drawV m o c lo hi)) (dA m o (c + 1)) 3) : CallS P 53 [.agg [.si .i64 lo, .si .i64 hi], .sp 1 0, .sp 2 0] (dA m o c) 3 Rv Rp := by
  have g := good0
  refine callS_toE (ι := Unit) g.ok Try.func53 (c := code Try.f53) rfl (Nat.le_of_ble_eq_true rfl) (fun _ => .si .i64 (drawV m o c lo hi)) (fun x => dA m o (c + 1)) 3 (fun G hG => ?_) (fun x => hRv)
  refine Chk.mk (show InK .i64 (c + 1) from ⟨by omega, by omega⟩) ?_
  refine Br.mk (fun h => ?_) (fun h => ?_)
  · have h : ((m : Nat) : Int) = 0 := of_decide_eq_true h
    have e : lo = drawV m o c lo hi := by unfold drawV; rw [if_pos (by omega)]
    refine ⟨(), (fun j => j), ?_, ?_, rfl, rfl, rfl, rfl⟩ <;> repeat' (first | exact trivial | exact rfl | exact e | (intro i hi; exact ⟨rfl, rfl⟩) | refine And.intro ?_ ?_)
  · have h : ¬ ((m : Nat) : Int) = 0 := of_decide_eq_false h
    obtain ⟨c', rfl⟩ : ∃ c' : Nat, c = (c' : Int) := ⟨c.toNat, by omega⟩
    have hmm : (((c' : Nat) : Int) + 1).tmod (m : Int) = (((c' + 1) % m : Nat) : Int) := rfl
    have hlt : (c' + 1) % m < m := Nat.mod_lt _ (by omega)
    have hmt : ((((c' : Nat) : Int) + 1).tmod (m : Int)).toNat = (c' + 1) % m := by rw [hmm, Int.toNat_natCast]
    have hob := ho _ hlt
    obtain ⟨v, hv⟩ : ∃ v, o ((((c' : Nat) : Int) + 1).tmod (m : Int)).toNat = v := ⟨_, rfl⟩
    have hvb : 0 ≤ v ∧ v < 65536 := by rw [← hv, hmt]; exact hob
    have h1 : 0 ≤ v + 71 * ((c' : Int) + 1) := by omega
    have h2 := Int.tmod_nonneg (hi - lo + 1) h1
    have h3 := Int.tmod_lt_of_pos (v + 71 * ((c' : Int) + 1)) (show 0 < hi - lo + 1 by omega)
    have hV : drawV m o (c' : Int) lo hi = lo + (v + 71 * ((c' : Int) + 1)).tmod (hi - lo + 1) := by unfold drawV; rw [if_neg (by omega), hv]
    rw [hV]
    refine drawn_ok (g.ok _ _ _) fol [0,1,0,0,0,16,56,124,252,508,0,1024,4092,0,8192,0,32768,122880,253952,524284,1048575,2097151] [] 22 (by kernel_rfl) ?_
    refine Chk.mk (show ((m : Nat) : Int) ≠ 0 by omega) (Chk.mk (show (0 : Int) ≤ (((c' : Nat) : Int) + 1).tmod (m : Int) ∧ (((c' : Nat) : Int) + 1).tmod (m : Int) < (m : Int) from ⟨by rw [hmm]; omega, by rw [hmm]; omega⟩) ?_)
    refine Chk.mk (show InK .i64 (o ((((c' : Nat) : Int) + 1).tmod (m : Int)).toNat) by rw [hv]; exact ⟨by omega, by omega⟩) ?_
    refine Chk.mk (show InK .i64 (71 * (((c' : Nat) : Int) + 1)) from ⟨by omega, by omega⟩) (Chk.mk (show InK .i64 (o ((((c' : Nat) : Int) + 1).tmod (m : Int)).toNat + 71 * (((c' : Nat) : Int) + 1)) by rw [hv]; exact ⟨by omega, by omega⟩) ?_)
    refine Chk.mk (show InK .i64 (hi - lo) from ⟨by omega, by omega⟩) (Chk.mk (show InK .i64 (hi - lo + 1) from ⟨by omega, by omega⟩) (Chk.mk (show hi - lo + 1 ≠ 0 by omega) ?_))
    refine Chk.mk (show InK .i64 (lo + (o ((((c' : Nat) : Int) + 1).tmod (m : Int)).toNat + 71 * (((c' : Nat) : Int) + 1)).tmod (hi - lo + 1)) by rw [hv]; exact ⟨by omega, by omega⟩) ?_
    have hE : lo + (o ((((c' : Nat) : Int) + 1).tmod (m : Int)).toNat + 71 * (((c' : Nat) : Int) + 1)).tmod (hi - lo + 1) = lo + (v + 71 * ((c' : Int) + 1)).tmod (hi - lo + 1) := by rw [hv]
    refine ⟨(), (fun j => j), ?_, ?_, rfl, rfl, rfl, rfl⟩ <;> repeat' (first | exact trivial | exact rfl | exact hE | (intro i hi; exact ⟨rfl, rfl⟩) | refine And.intro ?_ ?_)
end Go.X.W
end

section
set_option linter.unusedVariables false
set_option linter.unusedSimpArgs false
set_option linter.unusedSectionVars false
/- TopWarmed: span04, draws04. -/
set_option linter.unusedVariables false
set_option linter.unusedSimpArgs false
set_option maxRecDepth 10000
set_option maxHeartbeats 4000000
namespace Go.X.W
open Go Go.Proofs Go.X
def c18t : Ct := plainCt fun
  | [.si .i64 a, .si .i64 b] => some ⟨none, none, .agg [.si .i64 a, .si .i64 b], []⟩
  | _ => none
theorem k18t {l : List (Nat × Ct)} (g0 : Good P T l) : COk P 18 c18t := by
  have g := good0
  refine cok (C := tabC _) g.ok Try.func18 (c := code Try.f18) rfl fun fr args H out h hp => ?_
  simp only [c18t, plainCt] at h
  split at h
  · cases h
    refine walk_plain rfl (Nat.le_of_ble_eq_true rfl) fun G hG => ⟨.inl rfl, end_plain ?_ rfl rfl⟩
    repeat' (first | exact trivial | exact rfl | refine And.intro ?_ ?_)
  · cases h
theorem g18t {l : List (Nat × Ct)} (g : Good P T l) : Good P T ((18, c18t) :: l) := g.add (k18t g) (plainCt_mono _) (body_of Try.func18 (c := code Try.f18) rfl (by decide))
theorem bd15 : Body P 15 := body_of Try.func15 (c := code Try.f15) rfl (by decide)
theorem s15 {m : Nat} {o : Nat → Int} {Rv : SV → List (Nat × HB) → Nat → Prop} {Rp : List PanicEntry → List (Nat × HB) → Nat → Prop}
    (hRv : Rv (.fn (.func 53) [] [.sp 1 0, .sp 2 0]) (dA m o 0) 3) : CallS P 15 [.sl 0] [(0, .ro 1 m fun i => [.si .u16 (o i)])] 1 Rv Rp := by
  have g := good0
  refine callS_toE (ι := Unit) g.ok Try.func15 (c := code Try.f15) rfl (Nat.le_of_ble_eq_true rfl) (fun _ => .fn (.func 53) [] [.sp 1 0, .sp 2 0]) (fun x => dA m o 0) 3 (fun G hG => ?_) (fun x => hRv)
  refine ⟨(), (fun j => match j with | 1 => 2 | 2 => 1 | j => j), ?_, ?_, rfl, rfl, rfl, rfl⟩ <;> repeat' (first | exact trivial | exact rfl | (intro i hi; exact ⟨rfl, rfl⟩) | refine And.intro ?_ ?_)
end Go.X.W
end

section
set_option linter.unusedVariables false
set_option linter.unusedSimpArgs false
set_option linter.unusedSectionVars false
/- Stack: the small functions. -/
set_option linter.unusedVariables false
set_option linter.unusedSimpArgs false
set_option maxRecDepth 10000
set_option maxHeartbeats 1000000
namespace Go.X.S
open Go Go.Proofs Go.X

noncomputable abbrev P : Program := Try.prog
def pl : List Nat := [24, 159]
theorem pl_ok : PlainOk P pl := by
  intro t ht
  simp only [pl, List.mem_cons, List.not_mem_nil, or_false] at ht
  rcases ht with rfl | rfl
  · exact ⟨by kernel_rfl, by kernel_rfl, by decide⟩
  · exact ⟨by kernel_rfl, by kernel_rfl, by decide⟩
noncomputable abbrev T : Tab := tabP P pl
theorem fol : P.follows .mixedOrders = true := by kernel_rfl
theorem good0 : Good P T [] := ⟨tabP_ok pl_ok, fun p h => by cases h⟩

def code (f : Func) : Code := match f.body with
  | some c => c
  | none => .skip

/-! ### within, in -/
/-! ### power -/
theorem pow_le {n : Nat} (h : n ≤ 62) : (0 : Int) < 2 ^ n ∧ (2 : Int) ^ n ≤ 4611686018427387904 := by
  constructor
  · exact Int.pow_pos (by decide)
  · have : (2 : Nat) ^ n ≤ 2 ^ 62 := Nat.pow_le_pow_right (by decide) h
    have h2 : ((2 ^ n : Nat) : Int) ≤ ((2 ^ 62 : Nat) : Int) := by exact_mod_cast this
    rw [Int.natCast_pow] at h2
    exact h2
/-! ### Has, Size -/
/-- How many bits. -/
def sizeN : Nat → Nat
  | 0 => 0
  | n + 1 => (n + 1) % 2 + sizeN ((n + 1) / 2)
decreasing_by omega
theorem sizeN_pos {n : Nat} (h : 0 < n) : sizeN n = n % 2 + sizeN (n / 2) := by
  obtain ⟨m, rfl⟩ : ∃ m, n = m + 1 := ⟨n - 1, by omega⟩
  rw [sizeN]
end Go.X.S
end

section
set_option linter.unusedVariables false
set_option linter.unusedSimpArgs false
set_option linter.unusedSectionVars false
/- Stack: more small functions. -/
set_option linter.unusedVariables false
set_option linter.unusedSimpArgs false
set_option maxRecDepth 10000
set_option maxHeartbeats 1000000
namespace Go.X.S
open Go Go.Proofs Go.X

/-! ### Length, isLength -/
/-! ### Want, isWant, span -/
def c47 : Ct := plainCt fun
  | [.agg [.si .i64 a, .si .i64 b]] => some ⟨none, none, .sb (decide (0 ≤ a) && decide (a ≤ b) && decide (b ≤ 5000)), []⟩
  | _ => none
theorem k47 {l : List (Nat × Ct)} (g : Good P T l) : COk P 63 c47 := by
  refine cok (C := tabC _) g.ok Try.func63 (c := code Try.f63) rfl fun fr args H out h hp => ?_
  simp only [c47, plainCt] at h
  split at h
  · cases h
    refine walk_plain rfl (Nat.le_of_ble_eq_true rfl) fun G hG => ?_
    exact ⟨.inl rfl, end_plain rfl rfl rfl⟩
  · cases h
theorem g47 {l : List (Nat × Ct)} (g : Good P T l) : Good P T ((63, c47) :: l) := g.add (k47 g) (plainCt_mono _) (body_of Try.func63 (c := code Try.f63) rfl (by decide))
/-! ### (long).with -/
/-- A span of lengths of stacks of so many blocks, with a block more. -/
def addS (a b n c d e f : Int) : SV := .agg [.si .i64 ((if 0 < n then a + e else a) + c), .si .i64 ((if 0 < n then b + f else b) + d), .si .i64 (n + 1)]
def okB (n : Int) : Prop := -1000000 ≤ n ∧ n ≤ 1000000
def c63 : Ct := plainCt fun
  | [.agg [.si .i64 a, .si .i64 b, .si .i64 n], .agg [.si .i64 c, .si .i64 d], .agg [.si .i64 e, .si .i64 f]] =>
    some ⟨some (okB a ∧ okB b ∧ okB n ∧ okB c ∧ okB d ∧ okB e ∧ okB f), none, addS a b n c d e f, []⟩
  | _ => none
theorem k63 {l : List (Nat × Ct)} (g : Good P T l) : COk P 120 c63 := by
  refine cok (C := tabC _) g.ok Try.func120 (c := code Try.f120) rfl fun fr args H out h hp => ?_
  simp only [c63, plainCt] at h
  split at h
  · rename_i a b n c d e f
    cases h
    obtain ⟨ha, hb, hn, hc, hd, he, hf⟩ : okB a ∧ okB b ∧ okB n ∧ okB c ∧ okB d ∧ okB e ∧ okB f := hp
    unfold okB at ha hb hn hc hd he hf
    refine walk_plain rfl (Nat.le_of_ble_eq_true rfl) fun G hG => ?_
    refine Br.mk (fun h => ?_) (fun h => ?_)
    · have h : 0 < n := of_decide_eq_true h
      refine drawn_ok (g.ok _ _ _) fol [0,1,3,0,8,31,0,64,192,0,512,1984,511,4607,12799,32767,65535,131071] [(14,0),(17,0)] 18 (by kernel_rfl) ?_
      refine Chk.mk (show _ ∧ _ by omega) (Chk.mk (show _ ∧ _ by omega) (Chk.mk (show _ ∧ _ by omega) (Chk.mk (show _ ∧ _ by omega) (Chk.mk (show _ ∧ _ by omega) ?_))))
      refine ⟨.inl rfl, end_plain ?_ rfl rfl⟩
      simp only [addS, if_pos h]
      exact ⟨⟨rfl, rfl⟩, ⟨rfl, rfl⟩, ⟨rfl, rfl⟩, trivial⟩
    · have h : ¬ 0 < n := of_decide_eq_false h
      refine Chk.mk (show _ ∧ _ by omega) (Chk.mk (show _ ∧ _ by omega) (Chk.mk (show _ ∧ _ by omega) ?_))
      refine ⟨.inl rfl, end_plain ?_ rfl rfl⟩
      simp only [addS, if_neg h]
      exact ⟨⟨rfl, rfl⟩, ⟨rfl, rfl⟩, ⟨rfl, rfl⟩, trivial⟩
  · cases h
theorem g63 {l : List (Nat × Ct)} (g : Good P T l) : Good P T ((120, c63) :: l) := g.add (k63 g) (plainCt_mono _) (body_of Try.func120 (c := code Try.f120) rfl (by decide))

/-! ### (stack).with -/
def c72 : Ct := plainCt fun
  | [.si .u64 x, .si .i64 n] => some ⟨some (0 ≤ x ∧ x ≤ 1000000 ∧ 0 ≤ n ∧ n ≤ 40), none, .si .u64 ((x.toNat ||| 2 ^ n.toNat : Nat) : Int), []⟩
  | _ => none
theorem k72 {l : List (Nat × Ct)} (g : Good P T l) : COk P 121 c72 := by
  refine cok (C := tabC _) g.ok Try.func121 (c := code Try.f121) rfl fun fr args H out h hp => ?_
  simp only [c72, plainCt] at h
  split at h
  · rename_i x n
    cases h
    obtain ⟨h1, h2, h3, h4⟩ : 0 ≤ x ∧ x ≤ 1000000 ∧ 0 ≤ n ∧ n ≤ 40 := hp
    have hpw := pow_le (n := n.toNat) (by omega)
    have e : ((1 : Int) * 2 ^ n.toNat).toNat = 2 ^ n.toNat := by
      rw [Int.one_mul]
      exact Int.toNat_natCast (2 ^ n.toNat)
    refine walk_plain rfl (Nat.le_of_ble_eq_true rfl) fun G hG => ?_
    refine Chk.mk (show _ ∧ _ ∧ _ ∧ _ from ⟨h3, ?_, ?_⟩) (Chk.mk (show _ ∧ _ ∧ (_ ∧ _) ∧ _ ∧ _ from ?_) ⟨.inl rfl, end_plain ⟨rfl, ?_⟩ rfl rfl⟩)
    · show n.toNat ≤ 64
      omega
    · show _ ≤ (1 : Int) * 2 ^ n.toNat ∧ (1 : Int) * 2 ^ n.toNat ≤ _
      omega
    · show _ ∧ 0 ≤ (1 : Int) * 2 ^ n.toNat ∧ (_ ∧ _) ∧ _ ≤ (1 : Int) * 2 ^ n.toNat ∧ (1 : Int) * 2 ^ n.toNat ≤ _
      omega
    · show ((x.toNat ||| ((1 : Int) * 2 ^ n.toNat).toNat : Nat) : Int) = _
      rw [e]
  · cases h
theorem g72 {l : List (Nat × Ct)} (g : Good P T l) : Good P T ((121, c72) :: l) := g.add (k72 g) (plainCt_mono _) (body_of Try.func121 (c := code Try.f121) rfl (by decide))

end Go.X.S
end

section
set_option linter.unusedVariables false
set_option linter.unusedSimpArgs false
set_option linter.unusedSectionVars false
/- Stack: how many blocks; which stack comes first; refusals. -/
set_option linter.unusedVariables false
set_option linter.unusedSimpArgs false
set_option maxRecDepth 10000
set_option maxHeartbeats 1000000
namespace Go.X.S
open Go Go.Proofs Go.X

instance instInK (k : IntKind) (n : Int) : Decidable (InK k n) := by cases k <;> (unfold InK; infer_instance)

def c78 : Ct := plainCt fun
  | [.si .u64 x] => some ⟨some (0 ≤ x ∧ x < 256), none, .si .i64 (sizeN x.toNat), []⟩
  | _ => none
theorem k78 {l : List (Nat × Ct)} (g : Good P T l) : COk P 125 c78 := by
  refine cok (C := tabC _) g.ok Try.func125 (c := code Try.f125) rfl fun fr args H out h hp => ?_
  simp only [c78, plainCt] at h
  split at h
  · rename_i x
    cases h
    obtain ⟨h0, h1⟩ : 0 ≤ x ∧ x < 256 := hp
    obtain ⟨n, rfl⟩ : ∃ n : Nat, x = n := ⟨x.toNat, by omega⟩
    have hn : n < 256 := by omega
    refine walk_plain rfl (Nat.le_of_ble_eq_true rfl) fun G hG => ?_
    clear hG h0 h1
    refine Chk.mk ?_ (Chk.mk ?_ (Chk.mk ?_ (Chk.mk ?_ (Chk.mk ?_ (Chk.mk ?_ (Chk.mk ?_ (Chk.mk ?_ (Chk.mk ?_ (Chk.mk ?_ (Chk.mk ?_ (Chk.mk ?_ (Chk.mk ?_ (Chk.mk ?_ (Chk.mk ?_ (Chk.mk ?_ (Chk.mk ?_ (Chk.mk ?_ (Chk.mk ?_ ⟨.inl rfl, end_plain ⟨rfl, ?_⟩ rfl rfl⟩))))))))))))))))))
    all_goals (revert n; decide +kernel)
  · cases h
theorem g78 {l : List (Nat × Ct)} (g : Good P T l) : Good P T ((125, c78) :: l) := g.add (k78 g) (plainCt_mono _) (body_of Try.func125 (c := code Try.f125) rfl (by decide))

theorem k76 {l : List (Nat × Ct)} (g0 : Good P T l) : COk P 123 c78 := by
  have g := g78 g0
  refine cok (C := tabC _) g.ok Try.func123 (c := code Try.f123) rfl fun fr args H out h hp => ?_
  simp only [c78, plainCt] at h
  split at h
  · rename_i x
    cases h
    refine walk_plain rfl (Nat.le_of_ble_eq_true rfl) fun G hG => ?_
    refine Br.mk (fun h => by cases h) (fun _ => Chk.mk hp ⟨.inl rfl, end_plain ⟨rfl, rfl⟩ rfl rfl⟩)
  · cases h
theorem g76 {l : List (Nat × Ct)} (g : Good P T l) : Good P T ((123, c78) :: l) := g.add (k76 g) (plainCt_mono _) (body_of Try.func123 (c := code Try.f123) rfl (by decide))
theorem k75 {l : List (Nat × Ct)} (g0 : Good P T l) : COk P 122 c78 := by
  have g := g76 g0
  refine cok (C := tabC _) g.ok Try.func122 (c := code Try.f122) rfl fun fr args H out h hp => ?_
  simp only [c78, plainCt] at h
  split at h
  · rename_i x
    cases h
    refine walk_plain rfl (Nat.le_of_ble_eq_true rfl) fun G hG => ?_
    exact Chk.mk hp ⟨.inl rfl, end_plain ⟨rfl, rfl⟩ rfl rfl⟩
  · cases h
theorem g75 {l : List (Nat × Ct)} (g : Good P T l) : Good P T ((122, c78) :: l) := g.add (k75 g) (plainCt_mono _) (body_of Try.func122 (c := code Try.f122) rfl (by decide))

/-- Does a stack come before another one? -/
def lessB (x y : Int) : Bool := decide ((sizeN x.toNat : Int) < sizeN y.toNat) || (decide ((sizeN x.toNat : Int) = sizeN y.toNat) && decide (x < y))
def c74 : Ct := plainCt fun
  | [.si .u64 x, .si .u64 y] => some ⟨some (0 ≤ x ∧ x < 256 ∧ 0 ≤ y ∧ y < 256), none, .sb (lessB x y), []⟩
  | _ => none
theorem k74 {l : List (Nat × Ct)} (g0 : Good P T l) : COk P 117 c74 := by
  have g := g75 g0
  refine cok (C := tabC _) g.ok Try.func117 (c := code Try.f117) rfl fun fr args H out h hp => ?_
  simp only [c74, plainCt] at h
  split at h
  · rename_i x y
    cases h
    obtain ⟨h0, h1, h2, h3⟩ : 0 ≤ x ∧ x < 256 ∧ 0 ≤ y ∧ y < 256 := hp
    refine walk_plain rfl (Nat.le_of_ble_eq_true rfl) fun G hG => ?_
    exact Chk.mk ⟨h0, h1⟩ (Chk.mk ⟨h2, h3⟩ (Chk.mk (fun _ => ⟨h0, h1⟩) (Chk.mk (fun _ => ⟨h2, h3⟩) ⟨.inl rfl, end_plain rfl rfl rfl⟩)))
  · cases h
theorem g74 {l : List (Nat × Ct)} (g : Good P T l) : Good P T ((117, c74) :: l) := g.add (k74 g) (plainCt_mono _) (body_of Try.func117 (c := code Try.f117) rfl (by decide))

end Go.X.S
end

section
set_option linter.unusedVariables false
set_option linter.unusedSimpArgs false
set_option linter.unusedSectionVars false
/- Stack: ask, answer. -/
set_option linter.unusedVariables false
set_option linter.unusedSimpArgs false
set_option maxRecDepth 10000
set_option maxHeartbeats 1000000
namespace Go.X.S
open Go Go.Proofs Go.X

def refP (e : Int) : List PanicEntry := [{ v := .iface 148 (.int .i64 e), recovered := false }]
def c53 : Ct := plainCt fun
  | [.sb b, .si .i64 e] => some ⟨none, some (!b, refP e), .tup [], []⟩
  | _ => none
theorem k53 {l : List (Nat × Ct)} (g : Good P T l) : COk P 65 c53 := by
  refine cok (C := tabC _) g.ok Try.func65 (c := code Try.f65) rfl fun fr args H out h hp => ?_
  simp only [c53, plainCt] at h
  split at h
  · rename_i b e
    cases h
    refine walk_plain rfl (Nat.le_of_ble_eq_true rfl) fun G hG => ?_
    refine Br.mk (fun h => ?_) (fun h => ?_)
    · refine fb_panic cont_std rfl rfl rfl ?_
      exact ⟨by rw [h]; rfl, trivial⟩
    · exact ⟨.inr ⟨_, by rw [h]⟩, end_plain trivial rfl rfl⟩
  · cases h
theorem g53 {l : List (Nat × Ct)} (g : Good P T l) : Good P T ((65, c53) :: l) := g.add (k53 g) (plainCt_mono _) (body_of Try.func65 (c := code Try.f65) rfl (by decide))

theorem answer_ok : AnswerOk P 61 148 44 := by
  refine answer_of (T := T) (tabP_ok pl_ok) Try.func61 rfl (by decide) rfl rfl rfl rfl rfl rfl rfl rfl (by decide) (by decide) (by decide) (by decide) (by decide) ?_ ?_
  · intro x G hG
    refine Br.mk (fun h => by cases h) (fun _ => rfl)
  · intro x k m G hG
    refine Br.mk (fun _ => ?_) (fun h => by cases h)
    refine Br.mk (fun h => by cases h) (fun _ => rfl)

end Go.X.S
end

section
set_option linter.unusedVariables false
set_option linter.unusedSimpArgs false
set_option linter.unusedSectionVars false
/- Stack: functions of a set of blocks. -/
set_option linter.unusedVariables false
set_option linter.unusedSimpArgs false
set_option maxRecDepth 10000
set_option maxHeartbeats 1000000
namespace Go.X.S
open Go Go.Proofs Go.X

/-- A contract of a function of a set of blocks, and of more that holds no ids. -/
def stCt (k : List Span → Int → Int → List SV → Option (Option Prop × SV)) : Ct := fun _ args H =>
  match args with
  | .agg [.sl id, .si .i64 lo, .si .i64 hi] :: r => (match sliceOf 2 H id with
    | some (n, get) => (match k (spanL n get) lo hi r with
      | some (p, v) => some ⟨some (Spans n get ∧ knL 0 [] r = true ∧ PreH p), none, v, []⟩
      | none => none)
    | none => none)
  | _ => none
theorem stCt_mono (k : List Span → Int → Int → List SV → Option (Option Prop × SV)) : CtMono (stCt k) := by
  intro fr args H H' out hH h
  unfold stCt at h ⊢
  split at h
  · rename_i id lo hi r
    split at h
    · rename_i n get e
      simp only [sliceOf_mono hH e]
      exact h
    · cases h
  · cases h

/-- Its walk. -/
theorem stWalk {C : Nat → Option Ct} {fn : Func} {c : Code} {k : List Span → Int → Int → List SV → Option (Option Prop × SV)} {fr : Nat} {args : List SV} {H : LH} {out : COut} (ho : stCt k fr args H = some out) (hp : PreH out.pre)
    (h : ∀ (n : Nat) (sp : Nat → Span) (lo hi : Int) (r : List SV) (p : Option Prop) (v : SV) (Rv : SV → St → Prop) (Rp : List PanicEntry → St → Prop), k ((List.range n).map sp) lo hi r = some (p, v) → PreH p →
      (∀ v' st, SVeq v' v → knSV 0 [] v' = true → Rv v' st) → r.length + 1 ≤ fn.ntmps ∧
      ∀ G : Base, (∀ j, 1 ≤ j → G.ρ j = none) → exec ⟨P, T, C, G, none, fn.ntmps⟩ c (start (.agg [.sl 0, .si .i64 lo, .si .i64 hi] :: r) [(0, .ro 2 n fun i => spanC (sp i))] 1) (Fin ⟨P, T, C, G, none, fn.ntmps⟩ fn.results.toList Rv Rp)) :
    Walk P T C fn c H args fr out := by
  unfold stCt at ho
  split at ho
  · rename_i id lo hi r
    split at ho
    · rename_i n get e
      split at ho
      · rename_i p v hk
        cases ho
        obtain ⟨hs, hr, hp⟩ : Spans n get ∧ knL 0 [] r = true ∧ PreH p := hp
        have hh : Hand H [(id, .ro 2 n fun i => spanC (spanAt get i))] := hand_one e (fun i => rfl) (fun i hi => (hs i hi).symm)
        have h0 := h n (spanAt get) lo hi r p v (fun v' st => ((none : Option (Bool × List PanicEntry)) = none ∨ ∃ ch, (none : Option (Bool × List PanicEntry)) = some (false, ch)) ∧ EndOk [(id, .ro 2 n fun i => spanC (spanAt get i))] [] fr ⟨some (Spans n get ∧ knL 0 [] r = true ∧ PreH p), none, v, []⟩ v' st)
          (fun ch st => (none : Option (Bool × List PanicEntry)) = some (true, ch) ∧ keepP st.H [(0, .ro 2 n fun i => spanC (spanAt get i))]) hk hp
          (fun v' st h1 h2 => ⟨.inl rfl, end_noid h1 h2 rfl ⟨trivial, trivial⟩⟩)
        refine ⟨[(id, .ro 2 n fun i => spanC (spanAt get i))], .agg [.sl 0, .si .i64 lo, .si .i64 hi] :: r, [(0, .ro 2 n fun i => spanC (spanAt get i))], 1, [], ?_, ?_, h0.1, hh, rfl, rfl, h0.2⟩
        · show _ = renSV _ _ :: renL _ r
          rw [renL_none r hr]
          rfl
        · show (match knSV 1 [] (.agg [.sl 0, .si .i64 lo, .si .i64 hi]) with
            | true => knL 1 [] r
            | false => false) = true
          exact knL_up r hr
      · cases ho
    · cases ho
  · cases ho

/-! ### far, isSet, Set -/
/-! ### Of -/
def sumB (f : Nat → Int) (set : Nat) : Nat → Int
  | 0 => 0
  | n + 1 => sumB f set n + if set.testBit n then f n else 0
/-- How long a stack is: the blocks, and a film between each two. -/
def ofS (n : Nat) (sp : Nat → Span) (lo hi : Int) (set : Nat) : Span :=
  (((sizeN set : Int) - 1) * lo + sumB (fun i => (sp i).1) set n, ((sizeN set : Int) - 1) * hi + sumB (fun i => (sp i).2) set n)
def ofL (L : List Span) (lo hi : Int) (set : Nat) : Span := ofS L.length (fun i => L.getD i (0, 0)) lo hi set
end Go.X.S
end

section
set_option linter.unusedVariables false
set_option linter.unusedSimpArgs false
set_option linter.unusedSectionVars false
/- Stack: is a set of blocks valid; and what follows from it. -/
set_option linter.unusedVariables false
set_option linter.unusedSimpArgs false
set_option maxRecDepth 10000
set_option maxHeartbeats 1000000
namespace Go.X.S
open Go Go.Proofs Go.X

def blockNo (x : Span) : Bool := decide (x.1 < 1) || decide (x.2 < x.1) || decide (500 < x.2) || decide (6 < x.2 - x.1)
def headNo (n lo hi : Int) : Bool := decide (8 < n) || decide (lo < 0) || decide (hi < lo) || decide (5 < hi)
/-- Is a set of blocks valid? -/
def setOk (L : List Span) (lo hi : Int) : Bool := !headNo L.length lo hi && L.all fun x => !blockNo x

def c34 : Ct := stCt fun L lo hi r => match r with
  | [] => some (none, .sb (setOk L lo hi))
  | _ => none
theorem k34 {l : List (Nat × Ct)} (g : Good P T l) : COk P 20 c34 := by
  refine cok (C := tabC _) g.ok Try.func20 (c := code Try.f20) rfl fun fr args H out h hp => stWalk h hp fun n sp lo hi r p v Rv Rp hk hp hR => ?_
  split at hk
  · cases hk
    refine ⟨Nat.le_of_ble_eq_true rfl, fun G hG => ?_⟩
    refine Br.mk (fun h => ?_) (fun h => ?_)
    · have h : headNo n lo hi = true := h
      refine hR _ _ ?_ rfl
      show (false : Bool) = setOk _ lo hi
      simp [setOk, h]
    · have h : headNo n lo hi = false := h
      refine loop_ok (g.ok _ _ _) (fun x : {i : Nat // i ≤ n ∧ ∀ j, j < i → blockNo (sp j) = false} => ⟨[(1, ⟨[], .sp 1 0⟩), (3, ⟨[], .si .i64 x.1⟩)], [],
        [(0, .ro 2 n fun i => spanC (sp i)), (1, .cells 30 [.sl 0, .si .i64 lo, .si .i64 hi])], 2, []⟩) (fun x => n - x.1) (fun _ j hj => hG j (by have : 2 ≤ j := hj; omega)) ⟨0, Nat.zero_le _, fun j hj => by omega⟩ ?_ ?_
      · refine ⟨?_, ?_, rfl, rfl, rfl⟩
        · repeat' (first | exact trivial | exact rfl | refine And.intro ?_ ?_)
        · exact ⟨⟨rfl, fun i hi => rfl, rfl⟩, ⟨⟨rfl, rfl, ⟨rfl, rfl⟩, ⟨rfl, rfl⟩, trivial⟩, rfl, rfl⟩, trivial⟩
      · rintro ⟨i, hin, hall⟩
        refine Br.mk (fun h1 => ?_) (fun h1 => ?_)
        · have h1 : (i : Int) < (n : Int) := of_decide_eq_true h1
          refine Chk.mk (show (0 : Int) ≤ (i : Int) ∧ (i : Int) < (n : Int) from ⟨by omega, h1⟩) ?_
          refine Chk.mk ?_ ?_
          · show (decide ((sp i).1 < 1) || decide ((sp i).2 < (sp i).1) || decide (500 < (sp i).2)) = false → InK .i64 ((sp i).2 - (sp i).1)
            intro hb
            simp only [Bool.or_eq_false_iff, decide_eq_false_iff_not] at hb
            show _ ≤ (sp i).2 - (sp i).1 ∧ (sp i).2 - (sp i).1 ≤ _
            omega
          refine Br.mk (fun h2 => ?_) (fun h2 => ?_)
          · have h2 : blockNo (sp i) = true := h2
            refine hR _ _ ?_ rfl
            show (false : Bool) = setOk _ lo hi
            have : (List.map sp (List.range n)).all (fun x => !blockNo x) = false := by
              rw [List.all_eq_false]
              exact ⟨sp i, List.mem_map.2 ⟨i, List.mem_range.2 (by omega), rfl⟩, by simp [h2]⟩
            simp [setOk, this]
          · have h2 : blockNo (sp i) = false := h2
            refine Chk.mk (show _ ∧ _ from ?_) ⟨⟨i + 1, (by omega : i + 1 ≤ n), ?_⟩, ?_, ?_⟩
            · show _ ≤ (i : Int) + 1 ∧ (i : Int) + 1 ≤ _
              have h8 := h
              simp only [headNo, Bool.or_eq_false_iff, decide_eq_false_iff_not] at h8
              omega
            · intro j hj
              rcases Nat.lt_or_ge j i with h3 | h3
              · exact hall j h3
              · rw [show j = i by omega]; exact h2
            · refine ⟨?_, ?_, rfl, rfl, rfl⟩
              · repeat' (first | exact trivial | exact rfl | refine And.intro ?_ ?_)
              · exact ⟨⟨rfl, fun i hi => rfl, rfl⟩, ⟨⟨rfl, rfl, ⟨rfl, rfl⟩, ⟨rfl, rfl⟩, trivial⟩, rfl, rfl⟩, trivial⟩
            · show n - (i + 1) < n - i
              omega
        · have h1 : ¬ (i : Int) < (n : Int) := of_decide_eq_false h1
          have hin' : i = n := by omega
          refine hR _ _ ?_ rfl
          show (true : Bool) = setOk _ lo hi
          have : (List.map sp (List.range n)).all (fun x => !blockNo x) = true := by
            rw [List.all_eq_true]
            intro x hx
            obtain ⟨j, hj, rfl⟩ := List.mem_map.1 hx
            rw [hall j (by rw [hin']; exact List.mem_range.1 hj)]
            rfl
          simp [setOk, this, h]
  · cases hk

/-! ### Set, check, right, Off -/
/-! ### Off -/
end Go.X.S
end

section
set_option linter.unusedVariables false
set_option linter.unusedSimpArgs false
set_option linter.unusedSectionVars false
/- Stack: the document's exported functions: Long, Right. -/
set_option linter.unusedVariables false
set_option linter.unusedSimpArgs false
set_option maxRecDepth 10000
set_option maxHeartbeats 1000000
namespace Go.X.S
open Go Go.Proofs Go.X

def errV (L : List Span) (lo hi : Int) (b : Bool) : Int := if setOk L lo hi then (if b then 0 else 2) else 1
theorem errV_zero {L : List Span} {lo hi : Int} {b : Bool} (h : errV L lo hi b = 0) : setOk L lo hi = true ∧ b = true := by
  unfold errV at h
  cases hs : setOk L lo hi <;> cases b <;> simp [hs] at h ⊢
theorem setOk_len {L : List Span} {lo hi : Int} (h : setOk L lo hi = true) : L.length ≤ 8 ∧ 0 ≤ lo ∧ lo ≤ hi ∧ hi ≤ 5 ∧ ∀ x ∈ L, 1 ≤ x.1 ∧ x.1 ≤ x.2 ∧ x.2 ≤ 500 ∧ x.2 - x.1 ≤ 6 := by
  simp only [setOk, headNo, Bool.and_eq_true, Bool.not_eq_true', Bool.or_eq_false_iff, decide_eq_false_iff_not, List.all_eq_true] at h
  obtain ⟨⟨⟨⟨h1, h2⟩, h3⟩, h4⟩, h5⟩ := h
  refine ⟨by omega, by omega, by omega, by omega, fun x hx => ?_⟩
  have := h5 x hx
  simp only [blockNo, Bool.or_eq_false_iff, decide_eq_false_iff_not] at this
  omega
def isWantB (a b : Int) : Bool := decide (0 ≤ a) && decide (a ≤ b) && decide (b ≤ 5000)
end Go.X.S
end

section
set_option linter.unusedVariables false
set_option linter.unusedSimpArgs false
set_option linter.unusedSectionVars false
/- Stack: open. -/
set_option linter.unusedVariables false
set_option linter.unusedSimpArgs false
set_option maxRecDepth 10000
set_option maxHeartbeats 1000000
namespace Go.X.S
open Go Go.Proofs Go.X

def c41 : Ct := fun fr args H =>
  match args with
  | [.agg [.sl id, .si .i64 lo, .si .i64 hi], .sb is] => (match sliceOf 2 H id with
    | some (n, get) => some ⟨some (Spans n get), some (!decide (errV (spanL n get) lo hi is = 0), refP (errV (spanL n get) lo hi is)), .sp fr 0,
        [(fr, .cells 151 [.sl (fr + 1), .si .i64 lo, .si .i64 hi]), (fr + 1, .ro 2 n fun i => spanC (spanAt get i))]⟩
    | none => none)
  | _ => none
theorem c41_mono : CtMono c41 := by
  intro fr args H H' out hH h
  unfold c41 at h ⊢
  split at h
  · split at h
    · rename_i e
      simp only [sliceOf_mono hH e]
      exact h
    · cases h
  · cases h

def blockYes (x : Span) : Bool := decide (1 ≤ x.1) && decide (x.1 ≤ x.2) && decide (x.2 ≤ 500) && decide (x.2 - x.1 ≤ 6)
theorem blockYes_eq (x : Span) : blockYes x = !blockNo x := by
  simp only [blockYes, blockNo, Bool.not_or, ← Bool.decide_and]
  rw [Bool.eq_iff_iff]
  simp
def headYes (n lo hi : Int) : Bool := decide (n ≤ 8) && decide (0 ≤ lo) && decide (lo ≤ hi) && decide (hi ≤ 5)
theorem headYes_eq (n lo hi : Int) : headYes n lo hi = !headNo n lo hi := by
  simp only [headYes, headNo]
  rw [Bool.eq_iff_iff]
  simp

theorem k41 {l : List (Nat × Ct)} (g0 : Good P T l) : COk P 62 c41 := by
  have g := g53 g0
  refine cok (C := tabC _) g.ok Try.func62 (c := code Try.f62) rfl fun fr args H out h hp => ?_
  unfold c41 at h
  split at h
  · rename_i id lo hi is
    split at h
    · rename_i n get e
      cases h
      have hs : Spans n get := hp
      have hh : Hand H [(id, .ro 2 n fun i => spanC (spanAt get i))] := hand_one e (fun i => rfl) (fun i hi => (hs i hi).symm)
      refine ⟨[(id, .ro 2 n fun i => spanC (spanAt get i))], [.agg [.sl 0, .si .i64 lo, .si .i64 hi], .sb is], [(0, .ro 2 n fun i => spanC (spanAt get i))], 1, [3, 2], rfl, rfl, Nat.le_of_ble_eq_true rfl, hh, rfl, rfl, fun G hG => ?_⟩
      generalize hsp : spanAt get = sp
      have hE : errV (spanL n get) lo hi is = if headYes n lo hi = true then (if (List.range n).all (fun i => blockYes (sp i)) = true then (if is then 0 else 2) else 1) else 1 := by
        have h1 : (spanL n get).all (fun x => !blockNo x) = (List.range n).all (fun i => blockYes (sp i)) := by
          subst hsp
          simp only [spanL, List.all_map]
          congr 1
          funext i
          exact (blockYes_eq _).symm
        have h2 : (spanL n get).length = n := by simp [spanL]
        simp only [errV, setOk, h1, h2, headYes_eq]
        cases headNo (n : Int) lo hi <;> simp
      generalize errV (spanL n get) lo hi is = E at hE
      refine Br.mk (fun h => ?_) (fun h => ?_)
      · have h : (!headYes n lo hi) = true := h
        have h : headYes n lo hi = false := by simpa only [Bool.not_eq_true'] using h
        rw [h] at hE
        simp at hE
        subst hE
        exact ⟨rfl, trivial, trivial⟩
      · have h : (!headYes n lo hi) = false := h
        have h : headYes n lo hi = true := by simpa only [Bool.not_eq_false'] using h
        rw [h] at hE
        simp only [if_true] at hE
        have h8 : n ≤ 8 := by
          simp only [headYes, Bool.and_eq_true, decide_eq_true_eq] at h
          omega
        refine loop_ok (g.ok _ _ _) (fun x : {i : Nat // i ≤ n ∧ ∀ j, j < i → blockYes (sp j) = true} => ⟨[(1, ⟨[], .sb is⟩), (2, ⟨[], .sp 1 0⟩), (35, ⟨[], .sl 0⟩), (36, ⟨[], .si .i64 n⟩), (37, ⟨[], .si .i64 x.1⟩)], [],
          [(0, .ro 2 n fun i => spanC (sp i)), (1, .cells 30 [.sl 0, .si .i64 lo, .si .i64 hi])], 2, []⟩) (fun x => n - x.1) (fun _ j hj => hG j (by have : 2 ≤ j := hj; omega)) ⟨0, Nat.zero_le _, fun j hj => by omega⟩ ?_ ?_
        · refine ⟨?_, ?_, rfl, rfl, rfl⟩
          · repeat' (first | exact trivial | exact rfl | refine And.intro ?_ ?_)
          · exact ⟨⟨rfl, fun i hi => rfl, rfl⟩, ⟨⟨rfl, rfl, ⟨rfl, rfl⟩, ⟨rfl, rfl⟩, trivial⟩, rfl, rfl⟩, trivial⟩
        · rintro ⟨i, hin, hall⟩
          refine Br.mk (fun h1 => ?_) (fun h1 => ?_)
          · have h1 : (i : Int) < (n : Int) := of_decide_eq_true h1
            refine Chk.mk (show (0 : Int) ≤ (i : Int) ∧ (i : Int) < (n : Int) from ⟨by omega, h1⟩) ?_
            refine Chk.mk ?_ ?_
            · show (decide (1 ≤ (sp i).1) && decide ((sp i).1 ≤ (sp i).2) && decide ((sp i).2 ≤ 500)) = true → InK .i64 ((sp i).2 - (sp i).1)
              intro hb
              simp only [Bool.and_eq_true, decide_eq_true_eq] at hb
              show _ ≤ (sp i).2 - (sp i).1 ∧ (sp i).2 - (sp i).1 ≤ _
              omega
            refine Br.mk (fun h2 => ?_) (fun h2 => ?_)
            · have h2 : (!blockYes (sp i)) = true := h2
              have h2 : blockYes (sp i) = false := by simpa only [Bool.not_eq_true'] using h2
              have h3 : (List.range n).all (fun i => blockYes (sp i)) = false := by
                rw [List.all_eq_false]
                exact ⟨i, List.mem_range.2 (by omega), by simp [h2]⟩
              rw [h3] at hE
              simp at hE
              subst hE
              exact ⟨rfl, trivial, trivial⟩
            · have h2 : (!blockYes (sp i)) = false := h2
              have h2 : blockYes (sp i) = true := by simpa only [Bool.not_eq_false'] using h2
              refine Chk.mk (show _ ∧ _ from ?_) ⟨⟨i + 1, (by omega : i + 1 ≤ n), ?_⟩, ?_, ?_⟩
              · show _ ≤ (i : Int) + 1 ∧ (i : Int) + 1 ≤ _
                omega
              · intro j hj
                rcases Nat.lt_or_ge j i with h3 | h3
                · exact hall j h3
                · rw [show j = i by omega]; exact h2
              · refine ⟨?_, ?_, rfl, rfl, rfl⟩
                · repeat' (first | exact trivial | exact rfl | refine And.intro ?_ ?_)
                · exact ⟨⟨rfl, fun i hi => rfl, rfl⟩, ⟨⟨rfl, rfl, ⟨rfl, rfl⟩, ⟨rfl, rfl⟩, trivial⟩, rfl, rfl⟩, trivial⟩
              · show n - (i + 1) < n - i
                omega
          · have h1 : ¬ (i : Int) < (n : Int) := of_decide_eq_false h1
            have hin' : i = n := by omega
            have h3 : (List.range n).all (fun i => blockYes (sp i)) = true := by
              rw [List.all_eq_true]
              intro j hj
              exact hall j (by rw [hin']; exact List.mem_range.1 hj)
            rw [h3] at hE
            simp only [if_true] at hE
            refine Br.mk (fun h2 => ?_) (fun h2 => ?_)
            · have h2 : (!is) = true := h2
              have h2 : is = false := by simpa only [Bool.not_eq_true'] using h2
              subst h2
              simp at hE
              subst hE
              exact ⟨rfl, trivial, trivial⟩
            · have h2 : (!is) = false := h2
              have h2 : is = true := by simpa only [Bool.not_eq_false'] using h2
              subst h2
              simp at hE
              subst hE
              refine fb_makeVec n (g.ok _ _ _) cont_std rfl rfl rfl rfl rfl rfl rfl rfl rfl rfl (by decide) (by omega) rfl rfl ?_
              refine fb_copy 2 0 n n _ (fun i => spanC (sp i)) (fun i => spanC (sp i)) (g.ok _ _ _) cont_std rfl rfl rfl rfl rfl rfl rfl rfl rfl rfl rfl rfl rfl rfl rfl (by decide) (fun i hi => by rw [if_pos hi]) ?_
              exact ⟨.inr ⟨_, rfl⟩, ⟨⟨rfl, rfl⟩, rfl, ⟨rfl, ⟨⟨rfl, rfl, ⟨rfl, rfl⟩, ⟨rfl, rfl⟩, trivial⟩, rfl⟩, rfl, ⟨rfl, rfl, fun i hi => ⟨rfl, rfl⟩⟩, trivial⟩, ⟨trivial, trivial⟩, rfl, rfl⟩⟩
    · cases h
  · cases h
theorem g41 {l : List (Nat × Ct)} (g : Good P T l) : Good P T ((62, c41) :: l) := g.add (k41 g) c41_mono (body_of Try.func62 (c := code Try.f62) rfl (by decide))

end Go.X.S
end

section
set_option linter.unusedVariables false
set_option linter.unusedSimpArgs false
set_option linter.unusedSectionVars false
/- Stack: functions of a set that is looked at; of. -/
set_option linter.unusedVariables false
set_option linter.unusedSimpArgs false
set_option maxRecDepth 10000
set_option maxHeartbeats 1000000
namespace Go.X.S
open Go Go.Proofs Go.X

def setP (sid id n : Nat) (lo hi : Int) (sp : Nat → Span) : List (Nat × HB) := [(sid, .cells 151 [.sl 1, .si .i64 lo, .si .i64 hi]), (id, .ro 2 n fun i => spanC (sp i))]
theorem setHand {H : LH} {sid id n : Nat} {lo hi : Int} {get : Nat → List SV} (h1 : H sid = some (.cells 151 [.sl id, .si .i64 lo, .si .i64 hi])) (h2 : sliceOf 2 H id = some (n, get)) (hs : Spans n get) :
    Hand H (setP sid id n lo hi (spanAt get)) where
  ok j c hb h := by
    match j, h with
    | 0, h => simp [setP] at h; obtain ⟨rfl, rfl⟩ := h; exact h1
    | 1, h =>
      simp [setP] at h; obtain ⟨rfl, rfl⟩ := h
      exact sliceOf_piece h2 fun i hi => by rw [hs i hi]; rfl
    | j + 2, h => simp [setP] at h
  ids j c hb h := by
    match j, h with
    | 0, h => simp [setP] at h; obtain ⟨rfl, rfl⟩ := h; exact ⟨by show 1 < 2; decide, trivial, trivial, trivial⟩
    | 1, h => simp [setP] at h; obtain ⟨rfl, rfl⟩ := h; exact fun i hi => ⟨trivial, trivial, trivial⟩
    | j + 2, h => simp [setP] at h
  inj i j c hb hb' h1 h2 o1 o2 := by
    match i, j, h1, h2 with
    | 0, 0, _, _ => rfl
    | 1, 1, _, _ => rfl
    | 0, 1, h1, h2 => simp [setP] at h2; obtain ⟨_, rfl⟩ := h2; cases o2
    | 1, 0, h1, h2 => simp [setP] at h1; obtain ⟨_, rfl⟩ := h1; cases o1
    | i + 2, _, h, _ => simp [setP] at h
    | _, j + 2, _, h => simp [setP] at h

def setH (n : Nat) (lo hi : Int) (sp : Nat → Span) : List (Nat × HB) := [(0, .cells 151 [.sl 1, .si .i64 lo, .si .i64 hi]), (1, .ro 2 n fun i => spanC (sp i))]
/-! ### of -/
def cntB (set : Nat) : Nat → Nat
  | 0 => 0
  | n + 1 => cntB set n + if set.testBit n then 1 else 0
def wS (f : Nat → Int) (film : Int) (set : Nat) : Nat → Int
  | 0 => 0
  | n + 1 => if set.testBit n then (if 0 < cntB set n then wS f film set n + film else wS f film set n) + f n else wS f film set n
theorem cntB_zero {set : Nat} : ∀ {n}, cntB set n = 0 → ∀ (f : Nat → Int) film, wS f film set n = 0
  | 0, _, _, _ => rfl
  | n + 1, h, f, film => by
    simp only [cntB] at h
    have h1 : cntB set n = 0 := by omega
    have h2 : set.testBit n = false := by
      cases hb : set.testBit n with
      | false => rfl
      | true => rw [hb] at h; simp at h
    simp only [wS, h2]
    exact cntB_zero h1 f film
theorem wS_eq (f : Nat → Int) (film : Int) (set : Nat) : ∀ n, 0 < cntB set n → wS f film set n = ((cntB set n : Int) - 1) * film + sumB f set n
  | 0, h => by simp [cntB] at h
  | n + 1, h => by
    cases hb : set.testBit n with
    | false =>
      have e : cntB set (n + 1) = cntB set n := by simp [cntB, hb]
      simp only [wS, sumB, hb, e]
      rw [e] at h
      have := wS_eq f film set n h
      simp
      exact this
    | true =>
      have e : cntB set (n + 1) = cntB set n + 1 := by simp [cntB, hb]
      simp only [wS, sumB, hb, if_true, e]
      rcases Nat.eq_zero_or_pos (cntB set n) with h0 | h0
      · have s0 : ∀ m, cntB set m = 0 → sumB f set m = 0 := by
          intro m
          induction m with
          | zero => intro _; rfl
          | succ m ih =>
            intro hm
            simp only [cntB] at hm
            have h2 : set.testBit m = false := by
              cases hb : set.testBit m with
              | false => rfl
              | true => rw [hb] at hm; simp at hm
            simp [sumB, h2, ih (by omega)]
        rw [h0, cntB_zero h0, s0 n h0]
        simp
      · rw [if_pos h0, wS_eq f film set n h0]
        have : ((cntB set n + 1 : Nat) : Int) - 1 = ((cntB set n : Int) - 1) + 1 := by omega
        rw [this, Int.add_mul ((cntB set n : Int) - 1) 1 film]
        omega
/-- How long a stack of a set is, and of how many blocks. -/
def ofW (L : List Span) (lo hi : Int) (set : Nat) : Int × Int × Int :=
  (wS (fun i => (L.getD i (0, 0)).1) lo set L.length, wS (fun i => (L.getD i (0, 0)).2) hi set L.length, cntB set L.length)
theorem wS_congr {f g : Nat → Int} {film : Int} {set : Nat} : ∀ n, (∀ i, i < n → f i = g i) → wS f film set n = wS g film set n
  | 0, _ => rfl
  | n + 1, h => by
    have := wS_congr (f := f) (g := g) (film := film) (set := set) n (fun i hi => h i (by omega))
    simp only [wS, this, h n (by omega)]
theorem getD_map {n i : Nat} {sp : Nat → Span} (h : i < n) : ((List.range n).map sp).getD i (0, 0) = sp i := by
  simp [List.getD_eq_getElem?_getD, List.getElem?_map, List.getElem?_range h]
theorem ofW_map {n : Nat} {sp : Nat → Span} {lo hi : Int} {set : Nat} : ofW ((List.range n).map sp) lo hi set = (wS (fun i => (sp i).1) lo set n, wS (fun i => (sp i).2) hi set n, (cntB set n : Int)) := by
  simp only [ofW, List.length_map, List.length_range]
  rw [wS_congr (f := fun i => (((List.range n).map sp).getD i (0, 0)).1) (g := fun i => (sp i).1) n (fun i hi => by rw [getD_map hi]), wS_congr (f := fun i => (((List.range n).map sp).getD i (0, 0)).2) (g := fun i => (sp i).2) n (fun i hi => by rw [getD_map hi])]

def okP (x : Int) : Prop := 0 ≤ x ∧ x ≤ 1000
/-- What is asked of a set of blocks that is looked at. -/
def okSet (L : List Span) (lo hi : Int) : Prop := L.length ≤ 8 ∧ okP lo ∧ okP hi ∧ ∀ x ∈ L, okP x.1 ∧ okP x.2
end Go.X.S
end

section
set_option linter.unusedVariables false
set_option linter.unusedSimpArgs false
set_option linter.unusedSectionVars false
/- Stack: Long, Right. -/
set_option linter.unusedVariables false
set_option linter.unusedSimpArgs false
set_option maxRecDepth 10000
set_option maxHeartbeats 1000000
namespace Go.X.S
open Go Go.Proofs Go.X

/-- The walk of a function of a set of blocks with a deferred answer. -/
theorem stWalkD {C : Nat → Option Ct} {fn : Func} {c : Code} {k : List Span → Int → Int → List SV → Option (Option Prop × SV)} {fr : Nat} {args : List SV} {H : LH} {out : COut} (ho : stCt k fr args H = some out) (hp : PreH out.pre)
    (h : ∀ (n : Nat) (sp : Nat → Span) (lo hi : Int) (r : List SV) (p : Option Prop) (v : SV) (Rv : SV → St → Prop), k ((List.range n).map sp) lo hi r = some (p, v) → PreH p →
      (∀ v' st, SVeq v' v → knSV 0 [] v' = true → Rv v' st) → r.length + 1 ≤ fn.ntmps ∧
      ∀ G : Base, (∀ j, 1 ≤ j → G.ρ j = none) → exec ⟨P, T, C, G, none, fn.ntmps⟩ c (start (.agg [.sl 0, .si .i64 lo, .si .i64 hi] :: r) [(0, .ro 2 n fun i => spanC (sp i))] 1) (FinD ⟨P, T, C, G, none, fn.ntmps⟩ 61 148 44 fn.results.toList Rv)) :
    WalkD P T C 61 148 44 fn c H args fr out := by
  unfold stCt at ho
  split at ho
  · rename_i id lo hi r
    split at ho
    · rename_i n get e
      split at ho
      · rename_i p v hk
        cases ho
        obtain ⟨hs, hr, hp⟩ : Spans n get ∧ knL 0 [] r = true ∧ PreH p := hp
        have hh : Hand H [(id, .ro 2 n fun i => spanC (spanAt get i))] := hand_one e (fun i => rfl) (fun i hi => (hs i hi).symm)
        have h0 := h n (spanAt get) lo hi r p v (fun v' st => ((none : Option (Bool × List PanicEntry)) = none ∨ ∃ ch, (none : Option (Bool × List PanicEntry)) = some (false, ch)) ∧ EndOk [(id, .ro 2 n fun i => spanC (spanAt get i))] [] fr ⟨some (Spans n get ∧ knL 0 [] r = true ∧ PreH p), none, v, []⟩ v' st)
          hk hp
          (fun v' st h1 h2 => ⟨.inl rfl, end_noid h1 h2 rfl ⟨trivial, trivial⟩⟩)
        refine ⟨[(id, .ro 2 n fun i => spanC (spanAt get i))], .agg [.sl 0, .si .i64 lo, .si .i64 hi] :: r, [(0, .ro 2 n fun i => spanC (spanAt get i))], 1, [], ?_, ?_, h0.1, hh, rfl, rfl, h0.2⟩
        · show _ = renSV _ _ :: renL _ r
          rw [renL_none r hr]
          rfl
        · show (match knSV 1 [] (.agg [.sl 0, .si .i64 lo, .si .i64 hi]) with
            | true => knL 1 [] r
            | false => false) = true
          exact knL_up r hr
      · cases ho
    · cases ho
  · cases ho

theorem spans_sp (n : Nat) (sp : Nat → Span) : Spans n (fun i => spanC (sp i)) := fun i hi => rfl
theorem cntB_half (set : Nat) : ∀ n, cntB set (n + 1) = set % 2 + cntB (set / 2) n
  | 0 => by
    simp only [cntB, Nat.testBit_zero]
    have : set % 2 = 0 ∨ set % 2 = 1 := by omega
    rcases this with h | h <;> simp [h]
  | n + 1 => by
    have ih := cntB_half set n
    rw [cntB, ih]
    simp only [cntB, Nat.testBit_succ]
    omega
theorem cntB_size : ∀ (n set : Nat), set < 2 ^ n → cntB set n = sizeN set
  | 0, set, h => by
    have : set = 0 := by simpa using h
    subst this; simp [cntB, sizeN]
  | n + 1, set, h => by
    rw [cntB_half]
    rcases Nat.eq_zero_or_pos set with rfl | hp
    · have : cntB 0 n = sizeN 0 := cntB_size n 0 (Nat.pow_pos (by decide))
      simp [this, sizeN]
    · rw [sizeN_pos hp, cntB_size n (set / 2) (by rw [Nat.pow_succ] at h; omega)]
theorem sizeN_ge {set : Nat} (h : 0 < set) : 0 < sizeN set := by
  induction set using Nat.strongRecOn with
  | _ set ih =>
    rw [sizeN_pos h]
    rcases Nat.eq_zero_or_pos (set / 2) with h2 | h2
    · have : set % 2 = 1 := by omega
      omega
    · have := ih (set / 2) (by omega) h2
      omega
/-- A stack's length as the program finds it is the document's. -/
theorem ofW_ofL {L : List Span} {lo hi : Int} {set : Nat} (h : 0 < set) (h2 : set < 2 ^ L.length) : ofW L lo hi set = ((ofL L lo hi set).1, (ofL L lo hi set).2, (sizeN set : Int)) := by
  have hc := cntB_size L.length set h2
  have hp := sizeN_ge h
  simp only [ofW, ofL, ofS]
  rw [wS_eq _ lo set _ (by omega), wS_eq _ hi set _ (by omega), hc]
theorem okSet_of {L : List Span} {lo hi : Int} (h : setOk L lo hi = true) : okSet L lo hi := by
  obtain ⟨a1, a2, a3, a4, a5⟩ := setOk_len h
  refine ⟨a1, ⟨by omega, by omega⟩, ⟨by omega, by omega⟩, fun x hx => ?_⟩
  have := a5 x hx
  exact ⟨⟨by omega, by omega⟩, by omega, by omega⟩

end Go.X.S
end

section
set_option linter.unusedVariables false
set_option linter.unusedSimpArgs false
set_option linter.unusedSectionVars false
/- Stack: Right. -/
set_option linter.unusedVariables false
set_option linter.unusedSimpArgs false
set_option maxRecDepth 10000
set_option maxHeartbeats 1000000
namespace Go.X.S
open Go Go.Proofs Go.X

def meetsB (w : Span) (x : Int × Int × Int) : Bool := decide (w.1 ≤ x.2.1) && decide (x.1 ≤ w.2)
def insideB (w : Span) (x : Int × Int × Int) : Bool := decide (w.1 ≤ x.1) && decide (x.2.1 ≤ w.2)
def c95 : Ct := plainCt fun
  | [.agg [.si .i64 c, .si .i64 d], .agg [.si .i64 a, .si .i64 b, .si .i64 n]] => some ⟨none, none, .sb (insideB (c, d) (a, b, n)), []⟩
  | _ => none
theorem k95 {l : List (Nat × Ct)} (g : Good P T l) : COk P 141 c95 := by
  refine cok (C := tabC _) g.ok Try.func141 (c := code Try.f141) rfl fun fr args H out h hp => ?_
  simp only [c95, plainCt] at h
  split at h
  · cases h
    refine walk_plain rfl (Nat.le_of_ble_eq_true rfl) fun G hG => ?_
    exact ⟨.inl rfl, end_plain rfl rfl rfl⟩
  · cases h
theorem m74 : MethOk P 105 "blockworks/stack.is" 141 := meth_of' (by kernel_rfl)
theorem b95 : Body P 141 := body_of Try.func141 (c := code Try.f141) rfl (by decide)

end Go.X.S
end

section
set_option linter.unusedVariables false
set_option linter.unusedSimpArgs false
set_option linter.unusedSectionVars false
/- Stack: what is found of several, joined. -/
set_option linter.unusedVariables false
set_option linter.unusedSimpArgs false
set_option maxRecDepth 10000
set_option maxHeartbeats 1000000
namespace Go.X.S
open Go Go.Proofs Go.X

structure Fd where
  many : Nat
  least : Nat
  each : Nat
  some : Nat
deriving DecidableEq
def encF (x : Fd) : SV := .agg [.si .i64 x.many, .si .u64 x.least, .si .u64 x.each, .si .u64 x.some]
def encFL (x : Fd) : List SV := [.si .i64 x.many, .si .u64 x.least, .si .u64 x.each, .si .u64 x.some]
def foundAt (get : Nat → List SV) (i : Nat) : Fd := match get i with
  | [.si .i64 a, .si .u64 b, .si .u64 c, .si .u64 d] => ⟨a.toNat, b.toNat, c.toNat, d.toNat⟩
  | _ => ⟨0, 0, 0, 0⟩
def Founds (n : Nat) (get : Nat → List SV) : Prop := ∀ i, i < n → get i = encFL (foundAt get i)
theorem founds_enc (n : Nat) (f : Nat → Fd) : Founds n (fun i => encFL (f i)) := fun i hi => by simp [foundAt, encFL]
theorem foundAt_enc (f : Nat → Fd) (i : Nat) : foundAt (fun i => encFL (f i)) i = f i := by simp [foundAt, encFL]

def lessN (x y : Nat) : Bool := decide (sizeN x < sizeN y) || (decide (sizeN x = sizeN y) && decide (x < y))
theorem lessB_nat (x y : Nat) : lessB x y = lessN x y := by
  simp only [lessB, lessN, Int.toNat_natCast]
  rw [Bool.eq_iff_iff]
  simp only [Bool.or_eq_true, Bool.and_eq_true, decide_eq_true_eq]
  constructor <;> intro h <;> omega
def join (f x : Fd) : Fd := ⟨f.many + x.many, if lessN x.least f.least = true then x.least else f.least, f.each &&& x.each, f.some ||| x.some⟩
def jn (f : Nat → Fd) : Nat → Fd
  | 0 => ⟨0, 0, 0, 0⟩
  | n + 1 => if n = 0 then f 0 else join (jn f n) (f n)
def okF (x : Fd) : Prop := x.many ≤ 1000000 ∧ x.least < 256 ∧ x.each < 256 ∧ x.some < 256
theorem jn_ok {f : Nat → Fd} : ∀ n, (∀ i, i < n → okF (f i)) → (jn f n).many ≤ n * 1000000 ∧ (jn f n).least < 256 ∧ (jn f n).each < 256 ∧ (jn f n).some < 256
  | 0, _ => by simp [jn]
  | n + 1, h => by
    have ih := jn_ok n (fun i hi => h i (by omega))
    have h0 := h n (by omega)
    unfold okF at h0
    simp only [jn]
    split
    · rename_i e; subst e
      omega
    · simp only [join]
      refine ⟨by omega, by split <;> omega, ?_, ?_⟩
      · exact Nat.lt_of_le_of_lt Nat.and_le_left ih.2.2.1
      · exact Nat.or_lt_two_pow (n := 8) ih.2.2.2 h0.2.2.2
def c66 : Ct := fun fr args H =>
  match args with
  | [.sl id] => (match sliceOf 4 H id with
    | some (n, get) => some ⟨some (Founds n get ∧ n ≤ 1000 ∧ ∀ i, i < n → okF (foundAt get i)), none, encF (jn (foundAt get) n), []⟩
    | none => none)
  | [.sv (.slice none 0 0)] => some ⟨none, none, encF ⟨0, 0, 0, 0⟩, []⟩
  | _ => none
theorem c66_mono : CtMono c66 := by
  intro fr args H H' out hH h
  unfold c66 at h ⊢
  split at h
  · split at h
    · rename_i e
      simp only [sliceOf_mono hH e]
      exact h
    · cases h
  · exact h
  · cases h

theorem k66 {l : List (Nat × Ct)} (g0 : Good P T l) : COk P 103 c66 := by
  have g := g74 g0
  refine cok (C := tabC _) g.ok Try.func103 (c := code Try.f103) rfl fun fr args H out h hp => ?_
  unfold c66 at h
  split at h
  · rename_i id
    split at h
    · rename_i n get e
      cases h
      obtain ⟨hs, hn, hb⟩ : Founds n get ∧ n ≤ 1000 ∧ ∀ i, i < n → okF (foundAt get i) := hp
      have hh : Hand H [(id, .ro 4 n fun i => encFL (foundAt get i))] := hand_one e (fun i => rfl) (fun i hi => (hs i hi).symm)
      refine ⟨[(id, .ro 4 n fun i => encFL (foundAt get i))], [.sl 0], [(0, .ro 4 n fun i => encFL (foundAt get i))], 1, [], rfl, rfl, Nat.le_of_ble_eq_true rfl, hh, rfl, rfl, fun G hG => ?_⟩
      generalize foundAt get = f at hb ⊢
      refine loop_ok (g.ok _ _ _) (fun x : {i : Nat // i ≤ n} => ⟨[(2, ⟨[], .sp 1 0⟩), (5, ⟨[], .sl 0⟩), (6, ⟨[], .si .i64 n⟩), (7, ⟨[], .si .i64 x.1⟩)], [],
        [(0, .ro 4 n fun i => encFL (f i)), (1, .cells 98 (encFL (jn f x.1)))], 2, []⟩) (fun x => n - x.1) (fun _ j hj => hG j (by have : 2 ≤ j := hj; omega)) ⟨0, Nat.zero_le _⟩ ?_ ?_
      · refine ⟨?_, ?_, rfl, rfl, rfl⟩
        · repeat' (first | exact trivial | exact rfl | refine And.intro ?_ ?_)
        · exact ⟨⟨rfl, fun i hi => rfl, rfl⟩, ⟨⟨rfl, ⟨rfl, rfl⟩, ⟨rfl, rfl⟩, ⟨rfl, rfl⟩, ⟨rfl, rfl⟩, trivial⟩, rfl, rfl⟩, trivial⟩
      · rintro ⟨i, hin⟩
        refine Br.mk (fun h => ?_) (fun h => ?_)
        · have h : (i : Int) < (n : Int) := of_decide_eq_true h
          refine Chk.mk (show (0 : Int) ≤ (i : Int) ∧ (i : Int) < (n : Int) from ⟨by omega, h⟩) ?_
          refine Br.mk (fun h1 => ?_) (fun h1 => ?_)
          · have h1 : (i : Int) = 0 := of_decide_eq_true h1
            have h1 : i = 0 := by omega
            subst h1
            refine Chk.mk (show (-9223372036854775808 : Int) ≤ 0 + 1 ∧ (0 : Int) + 1 ≤ 9223372036854775807 by decide) ⟨⟨1, (by omega : 1 ≤ n)⟩, ?_, ?_⟩
            · refine ⟨?_, ?_, rfl, rfl, rfl⟩
              · repeat' (first | exact trivial | exact rfl | refine And.intro ?_ ?_)
              · exact ⟨⟨rfl, fun i hi => rfl, rfl⟩, ⟨⟨rfl, ⟨rfl, rfl⟩, ⟨rfl, rfl⟩, ⟨rfl, rfl⟩, ⟨rfl, rfl⟩, trivial⟩, rfl, rfl⟩, trivial⟩
            · show n - 1 < n - 0
              omega
          · have h1 : ¬ (i : Int) = 0 := of_decide_eq_false h1
            have hj := jn_ok i (fun j hj => hb j (by omega))
            have hx := hb i (by omega)
            unfold okF at hx
            obtain ⟨J, hJ⟩ : ∃ J, jn f i = J := ⟨_, rfl⟩
            rw [hJ] at hj
            have hnext : jn f (i + 1) = join J (f i) := by
              simp only [jn]
              rw [if_neg (by omega), hJ]
            refine Chk.mk (show (-9223372036854775808 : Int) ≤ ((jn f i).many : Int) + ((f i).many : Int) ∧ ((jn f i).many : Int) + ((f i).many : Int) ≤ 9223372036854775807 by rw [hJ]; omega) ?_
            refine drawn_ok (g.ok _ _ _) fol [0,1,0,4,15,0,32,0,128,480,127,1151,4095,8191] [(11,1),(13,1)] 14 (by kernel_rfl) ?_
            refine Chk.mk (show 0 ≤ ((jn f i).each : Int) ∧ 0 ≤ ((f i).each : Int) ∧ (0 ≤ ((jn f i).each : Int) ∧ ((jn f i).each : Int) ≤ 18446744073709551615) ∧ (0 ≤ ((f i).each : Int) ∧ ((f i).each : Int) ≤ 18446744073709551615) by rw [hJ]; omega) ?_
            refine Chk.mk (show 0 ≤ ((jn f i).some : Int) ∧ 0 ≤ ((f i).some : Int) ∧ (0 ≤ ((jn f i).some : Int) ∧ ((jn f i).some : Int) ≤ 18446744073709551615) ∧ (0 ≤ ((f i).some : Int) ∧ ((f i).some : Int) ≤ 18446744073709551615) by rw [hJ]; omega) ?_
            refine Chk.mk (show 0 ≤ ((f i).least : Int) ∧ ((f i).least : Int) < 256 ∧ 0 ≤ ((jn f i).least : Int) ∧ ((jn f i).least : Int) < 256 by rw [hJ]; omega) ?_
            refine Br.mk (fun h2 => ?_) (fun h2 => ?_)
            · have h2 : lessB ((f i).least : Int) ((jn f i).least : Int) = true := h2
              rw [lessB_nat, hJ] at h2
              refine Chk.mk (show (-9223372036854775808 : Int) ≤ (i : Int) + 1 ∧ (i : Int) + 1 ≤ 9223372036854775807 by omega) ⟨⟨i + 1, (by omega : i + 1 ≤ n)⟩, ?_, ?_⟩
              · refine ⟨?_, ?_, rfl, rfl, rfl⟩
                · repeat' (first | exact trivial | exact rfl | refine And.intro ?_ ?_)
                · refine ⟨⟨rfl, fun i hi => rfl, rfl⟩, ⟨⟨rfl, ⟨rfl, ?_⟩, ⟨rfl, ?_⟩, ⟨rfl, ?_⟩, ⟨rfl, ?_⟩, trivial⟩, rfl, rfl⟩, trivial⟩
                  · show ((jn f i).many : Int) + ((f i).many : Int) = ((jn f (i + 1)).many : Int)
                    rw [hnext, hJ]; simp [join]
                  · show ((f i).least : Int) = ((jn f (i + 1)).least : Int)
                    rw [hnext]; simp [join, h2]
                  · show ((((jn f i).each : Int).toNat &&& ((f i).each : Int).toNat : Nat) : Int) = ((jn f (i + 1)).each : Int)
                    rw [hnext, hJ]; simp [join]
                  · show ((((jn f i).some : Int).toNat ||| ((f i).some : Int).toNat : Nat) : Int) = ((jn f (i + 1)).some : Int)
                    rw [hnext, hJ]; simp [join]
              · show n - (i + 1) < n - i
                omega
            · have h2 : lessB ((f i).least : Int) ((jn f i).least : Int) = false := h2
              rw [lessB_nat, hJ] at h2
              refine Chk.mk (show (-9223372036854775808 : Int) ≤ (i : Int) + 1 ∧ (i : Int) + 1 ≤ 9223372036854775807 by omega) ⟨⟨i + 1, (by omega : i + 1 ≤ n)⟩, ?_, ?_⟩
              · refine ⟨?_, ?_, rfl, rfl, rfl⟩
                · repeat' (first | exact trivial | exact rfl | refine And.intro ?_ ?_)
                · refine ⟨⟨rfl, fun i hi => rfl, rfl⟩, ⟨⟨rfl, ⟨rfl, ?_⟩, ⟨rfl, ?_⟩, ⟨rfl, ?_⟩, ⟨rfl, ?_⟩, trivial⟩, rfl, rfl⟩, trivial⟩
                  · show ((jn f i).many : Int) + ((f i).many : Int) = ((jn f (i + 1)).many : Int)
                    rw [hnext, hJ]; simp [join]
                  · show ((jn f i).least : Int) = ((jn f (i + 1)).least : Int)
                    rw [hnext, hJ]; simp [join, h2]
                  · show ((((jn f i).each : Int).toNat &&& ((f i).each : Int).toNat : Nat) : Int) = ((jn f (i + 1)).each : Int)
                    rw [hnext, hJ]; simp [join]
                  · show ((((jn f i).some : Int).toNat ||| ((f i).some : Int).toNat : Nat) : Int) = ((jn f (i + 1)).some : Int)
                    rw [hnext, hJ]; simp [join]
              · show n - (i + 1) < n - i
                omega
        · have h : ¬ (i : Int) < (n : Int) := of_decide_eq_false h
          have : i = n := by omega
          subst this
          exact ⟨.inl rfl, end_noid ⟨⟨rfl, rfl⟩, ⟨rfl, rfl⟩, ⟨rfl, rfl⟩, ⟨rfl, rfl⟩, trivial⟩ rfl rfl ⟨trivial, trivial⟩⟩
    · cases h
  · cases h
    refine walk_plain rfl (Nat.le_of_ble_eq_true rfl) fun G hG => ?_
    refine loop_ok (g.ok _ _ _) (fun x : Unit => ⟨[(2, ⟨[], .sp 0 0⟩), (5, ⟨[], .sv (.slice none 0 0)⟩), (6, ⟨[], .si .i64 0⟩), (7, ⟨[], .si .i64 0⟩)], [],
        [(0, .cells 98 (encFL ⟨0, 0, 0, 0⟩))], 1, []⟩) (fun x => 0) (fun _ j hj => hG j (Nat.zero_le _)) () ?_ ?_
    · refine ⟨?_, ?_, rfl, rfl, rfl⟩
      · repeat' (first | exact trivial | exact rfl | refine And.intro ?_ ?_)
      · exact ⟨⟨⟨rfl, ⟨rfl, rfl⟩, ⟨rfl, rfl⟩, ⟨rfl, rfl⟩, ⟨rfl, rfl⟩, trivial⟩, rfl, rfl⟩, trivial⟩
    · intro _
      refine Br.mk (fun h => by cases h) (fun h => ?_)
      exact ⟨.inl rfl, end_plain ⟨⟨rfl, rfl⟩, ⟨rfl, rfl⟩, ⟨rfl, rfl⟩, ⟨rfl, rfl⟩, trivial⟩ rfl rfl⟩
  · cases h
theorem g66 {l : List (Nat × Ct)} (g : Good P T l) : Good P T ((103, c66) :: l) := g.add (k66 g) c66_mono (body_of Try.func103 (c := code Try.f103) rfl (by decide))

end Go.X.S
end

section
set_option linter.unusedVariables false
set_option linter.unusedSimpArgs false
set_option linter.unusedSectionVars false
/- Stack: what is found of lengths; plain mathematics. -/
set_option linter.unusedVariables false
set_option linter.unusedSimpArgs false
set_option linter.unusedSectionVars false
set_option maxRecDepth 10000
set_option maxHeartbeats 1000000
namespace Go.X.S
open Go Go.Proofs Go.X

theorem lessN_iff {x y : Nat} : lessN x y = true ↔ sizeN x < sizeN y ∨ (sizeN x = sizeN y ∧ x < y) := by
  simp only [lessN, Bool.or_eq_true, Bool.and_eq_true, decide_eq_true_eq]
theorem lessN_no {x y : Nat} : ¬ lessN x y = true ↔ sizeN y < sizeN x ∨ (sizeN x = sizeN y ∧ y ≤ x) := by
  rw [lessN_iff]; omega
/-- The one that comes first. -/
def minN (x y : Nat) : Nat := if lessN y x = true then y else x
theorem minN_comm (x y : Nat) : minN x y = minN y x := by
  unfold minN
  by_cases h1 : lessN y x = true <;> by_cases h2 : lessN x y = true
  · rw [lessN_iff] at h1 h2; omega
  · rw [if_pos h1, if_neg h2]
  · rw [if_neg h1, if_pos h2]
  · rw [if_neg h1, if_neg h2]
    rw [lessN_no] at h1 h2; omega
theorem minN_assoc (x y z : Nat) : minN (minN x y) z = minN x (minN y z) := by
  unfold minN
  by_cases h1 : lessN y x = true <;> by_cases h2 : lessN z y = true <;> by_cases h3 : lessN z x = true <;>
    simp only [h1, h2, h3, if_true, if_false, Bool.false_eq_true] <;> simp only [lessN_no, lessN_iff] at h1 h2 h3 <;> omega
theorem join_eq (f x : Fd) : join f x = ⟨f.many + x.many, minN f.least x.least, f.each &&& x.each, f.some ||| x.some⟩ := rfl
theorem join_comm (f x : Fd) : join f x = join x f := by
  simp only [join_eq, minN_comm f.least, Nat.add_comm f.many, Nat.and_comm f.each, Nat.or_comm f.some]
theorem join_assoc (f x y : Fd) : join (join f x) y = join f (join x y) := by
  simp only [join_eq, minN_assoc, Nat.add_assoc, Nat.and_assoc, Nat.or_assoc]

/-- One more. -/
def jo (o : Option Fd) (x : Fd) : Option Fd := match o with
  | none => some x
  | some y => some (join y x)
def J (l : List Fd) : Option Fd := l.foldl jo none
def jj (a b : Option Fd) : Option Fd := match b with
  | none => a
  | some y => jo a y
theorem foldl_jo (l : List Fd) (o : Option Fd) : l.foldl jo o = jj o (J l) := by
  have key : ∀ (l : List Fd) (o p : Option Fd), l.foldl jo (jj o p) = jj o (l.foldl jo p) := by
    intro l
    induction l with
    | nil => intro o p; rfl
    | cons x r ih =>
      intro o p
      simp only [List.foldl_cons]
      have : jo (jj o p) x = jj o (jo p x) := by
        cases p with
        | none => rfl
        | some y => cases o with
          | none => rfl
          | some z => simp only [jj, jo, join_assoc]
      rw [this, ih]
  exact key l o none
theorem J_append (a b : List Fd) : J (a ++ b) = jj (J a) (J b) := by
  simp only [J, List.foldl_append]
  exact foldl_jo b _
theorem J_cons (x : Fd) (l : List Fd) : J (x :: l) = jj (some x) (J l) := by
  have := J_append [x] l
  simpa [J, jo] using this
theorem jj_none (a : Option Fd) : jj none a = a := by cases a <;> rfl
theorem jj_comm (a b : Option Fd) : jj a b = jj b a := by
  cases a <;> cases b <;> simp only [jj, jo]
  rw [join_comm]
theorem jj_assoc (a b c : Option Fd) : jj (jj a b) c = jj a (jj b c) := by
  cases a <;> cases b <;> cases c <;> simp only [jj, jo]
  rw [join_assoc]
theorem J_perm {a b : List Fd} (h : a.Perm b) : J a = J b := by
  induction h with
  | nil => rfl
  | cons x _ ih => rw [J_cons, J_cons, ih]
  | swap x y l => rw [J_cons, J_cons, J_cons, J_cons, ← jj_assoc, ← jj_assoc, jj_comm (some y) (some x)]
  | trans _ _ h1 h2 => rw [h1, h2]
theorem J_none {l : List Fd} : J l = none ↔ l = [] := by
  constructor
  · intro h
    cases l with
    | nil => rfl
    | cons x r => rw [J_cons] at h; cases hj : J r <;> rw [hj] at h <;> simp [jj, jo] at h
  · rintro rfl; rfl
theorem jn_J (f : Nat → Fd) : ∀ n, jn f n = (J ((List.range n).map f)).getD ⟨0, 0, 0, 0⟩
  | 0 => rfl
  | n + 1 => by
    have ih := jn_J f n
    rw [List.range_succ, List.map_append, J_append]
    simp only [jn]
    split
    · rename_i e; subst e; rfl
    · rename_i e
      rw [ih]
      cases hj : J ((List.range n).map f) with
      | none => rw [J_none] at hj; simp at hj; exact absurd hj e
      | some y => rfl

section
variable {κ : Type} [DecidableEq κ]
/-- What is found of a key. -/
def Gk (S : List (κ × Fd)) (k : κ) : Option Fd := J ((S.filter (fun p => decide (p.1 = k))).map (·.2))
theorem Gk_append (a b : List (κ × Fd)) (k : κ) : Gk (a ++ b) k = jj (Gk a k) (Gk b k) := by
  simp only [Gk, List.filter_append, List.map_append, J_append]
theorem Gk_one (k' : κ) (f : Fd) (k : κ) : Gk [(k', f)] k = if k' = k then some f else none := by
  simp only [Gk, List.filter_cons, List.filter_nil]
  split <;> rename_i h
  · simp at h; subst h; simp [J, jo]
  · simp at h; simp [J, h]
theorem Gk_perm {a b : List (κ × Fd)} (h : a.Perm b) (k : κ) : Gk a k = Gk b k := J_perm ((h.filter _).map _)
def putA (m : List (κ × Fd)) (k : κ) (f : Fd) : List (κ × Fd) := updA m k (match lookA m k with
  | some old => join old f
  | none => f)
def group (S : List (κ × Fd)) : List (κ × Fd) := S.foldl (fun m p => putA m p.1 p.2) []
theorem lookA_updA (m : List (κ × Fd)) (k : κ) (v : Fd) (k' : κ) : lookA (updA m k v) k' = if k' = k then some v else lookA m k' := by
  induction m with
  | nil => simp only [updA, lookA]; split <;> split <;> simp_all
  | cons p r ih =>
    simp only [updA]
    split
    · rename_i e; simp only [lookA]
      by_cases h : k = k'
      · subst h; simp
      · rw [if_neg h, if_neg (fun e' => h e'.symm), if_neg (fun e' => h (e.symm.trans e'))]
    · rename_i e; simp only [lookA, ih]
      by_cases h : p.1 = k'
      · subst h; simp [e]
      · simp [h]
theorem lookA_putA (m : List (κ × Fd)) (k : κ) (f : Fd) (k' : κ) : lookA (putA m k f) k' = if k' = k then jo (lookA m k) f else lookA m k' := by
  rw [putA, lookA_updA]
  split
  · cases lookA m k <;> rfl
  · rfl
theorem group_look (S : List (κ × Fd)) (k : κ) : lookA (group S) k = Gk S k := by
  have key : ∀ (S : List (κ × Fd)) (m : List (κ × Fd)), lookA (S.foldl (fun m p => putA m p.1 p.2) m) k = jj (lookA m k) (Gk S k) := by
    intro S
    induction S with
    | nil => intro m; rfl
    | cons p r ih =>
      intro m
      simp only [List.foldl_cons]
      rw [ih, lookA_putA]
      have : Gk (p :: r) k = jj (Gk [p] k) (Gk r k) := Gk_append [p] r k
      rw [this, Gk_one, ← jj_assoc]
      by_cases h : k = p.1
      · subst h; simp [jj]
      · rw [if_neg h, if_neg (fun e => h e.symm)]
        simp [jj]
  have := key S []
  rw [group, this]
  exact jj_none _
theorem putA_keys (m : List (κ × Fd)) (k : κ) (f : Fd) (h : (m.map (·.1)).Nodup) : ((putA m k f).map (·.1)).Nodup := by
  have key : ∀ (m : List (κ × Fd)) v, (m.map (·.1)).Nodup → ((updA m k v).map (·.1)).Nodup ∧ ∀ x, x ∈ (updA m k v).map (·.1) → x ∈ m.map (·.1) ∨ x = k := by
    intro m v
    induction m with
    | nil => intro _; simp [updA]
    | cons p r ih =>
      intro h
      simp only [List.map_cons, List.nodup_cons] at h
      obtain ⟨ih1, ih2⟩ := ih h.2
      simp only [updA]
      split
      · rename_i e; subst e
        refine ⟨by simpa using h, fun x hx => ?_⟩
        simp only [List.map_cons, List.mem_cons] at hx ⊢
        rcases hx with hx | hx
        · exact .inr hx
        · exact .inl (.inr hx)
      · rename_i e
        simp only [List.map_cons, List.nodup_cons, List.mem_cons]
        refine ⟨⟨fun hm => ?_, ih1⟩, fun x hx => ?_⟩
        · rcases ih2 _ hm with hm | hm
          · exact h.1 hm
          · exact e hm
        · rcases hx with hx | hx
          · exact .inl (.inl hx)
          · rcases ih2 _ hx with hx | hx
            · exact .inl (.inr hx)
            · exact .inr hx
  exact (key m _ h).1
theorem group_snoc (S : List (κ × Fd)) (p : κ × Fd) : group (S ++ [p]) = putA (group S) p.1 p.2 := by
  simp only [group, List.foldl_append, List.foldl_cons, List.foldl_nil]
theorem group_keys (S : List (κ × Fd)) : ((group S).map (·.1)).Nodup := by
  have key : ∀ (S m : List (κ × Fd)), (m.map (·.1)).Nodup → ((S.foldl (fun m p => putA m p.1 p.2) m).map (·.1)).Nodup := by
    intro S
    induction S with
    | nil => intro m h; exact h
    | cons p r ih => intro m h; exact ih _ (putA_keys m _ _ h)
  exact key S [] (by simp)
/-- Two maps with the same entries. -/
theorem perm_of_look {a b : List (κ × Fd)} (ha : (a.map (·.1)).Nodup) (hb : (b.map (·.1)).Nodup) (h : ∀ k, lookA a k = lookA b k) : a.Perm b := by
  have mem : ∀ {a b : List (κ × Fd)}, (a.map (·.1)).Nodup → (∀ k, lookA a k = lookA b k) → ∀ p, p ∈ a → p ∈ b := by
    intro a b ha h p hp
    have h1 := lookA_of_mem (l := a) (k := p.1) (v := p.2) ha hp
    rw [h] at h1
    exact lookA_mem h1
  have nd : ∀ {a : List (κ × Fd)}, (a.map (·.1)).Nodup → a.Nodup := by
    intro a h
    unfold List.Nodup at h ⊢
    rw [List.pairwise_map] at h
    exact h.imp fun hne e => hne (by rw [e])
  rw [List.perm_ext_iff_of_nodup (nd ha) (nd hb)]
  exact fun p => ⟨mem ha h p, mem hb (fun k => (h k).symm) p⟩

/-- Sums of what is found do not depend on how it was grouped. -/
def sumM (S : List (κ × Fd)) : Nat := (S.map (·.2.many)).sum
theorem sumM_updA (m : List (κ × Fd)) (k : κ) (v : Fd) : sumM (updA m k v) + (match lookA m k with | some o => o.many | none => 0) = sumM m + v.many := by
  induction m with
  | nil => simp [updA, lookA, sumM]
  | cons p r ih =>
    simp only [updA, lookA]
    split
    · simp [sumM]; omega
    · simp only [sumM, List.map_cons, List.sum_cons] at ih ⊢
      omega
theorem sumM_putA (m : List (κ × Fd)) (k : κ) (f : Fd) : sumM (putA m k f) = sumM m + f.many := by
  have := sumM_updA m k (match lookA m k with | some old => join old f | none => f)
  unfold putA
  cases h : lookA m k with
  | none => rw [h] at this; simpa using this
  | some o => rw [h] at this; simp only [join] at this ⊢; omega
theorem sumM_group (S : List (κ × Fd)) : sumM (group S) = sumM S := by
  have key : ∀ (S m : List (κ × Fd)), sumM (S.foldl (fun m p => putA m p.1 p.2) m) = sumM m + sumM S := by
    intro S
    induction S with
    | nil => intro m; simp [sumM]
    | cons p r ih => intro m; rw [List.foldl_cons, ih, sumM_putA]; simp [sumM]; omega
  have := key S []
  simpa [group, sumM] using this
theorem sumM_perm {a b : List (κ × Fd)} (h : a.Perm b) : sumM a = sumM b := (h.map _).sum_nat
theorem sumM_mem {S : List (κ × Fd)} {p : κ × Fd} (h : p ∈ S) : p.2.many ≤ sumM S := by
  induction S with
  | nil => cases h
  | cons q r ih =>
    simp only [sumM, List.map_cons, List.sum_cons] at ih ⊢
    rcases List.mem_cons.1 h with rfl | h
    · omega
    · have := ih h; omega
/-- A bound that joining keeps. -/
theorem group_all (P : Fd → Prop) (hP : ∀ f x, P f → P x → P (join f x)) {S : List (κ × Fd)} (h : ∀ p ∈ S, P p.2) : ∀ p ∈ group S, P p.2 := by
  have upd : ∀ (m : List (κ × Fd)) k v, (∀ p ∈ m, P p.2) → P v → ∀ p ∈ updA m k v, P p.2 := by
    intro m k v
    induction m with
    | nil => intro _ hv p hp; simp [updA] at hp; subst hp; exact hv
    | cons q r ih =>
      intro hm hv p hp
      simp only [updA] at hp
      split at hp
      · rcases List.mem_cons.1 hp with rfl | hp
        · exact hv
        · exact hm p (List.mem_cons_of_mem _ hp)
      · rcases List.mem_cons.1 hp with rfl | hp
        · exact hm p List.mem_cons_self
        · exact ih (fun p hp => hm p (List.mem_cons_of_mem _ hp)) hv p hp
  have key : ∀ (S m : List (κ × Fd)), (∀ p ∈ S, P p.2) → (∀ p ∈ m, P p.2) → ∀ p ∈ S.foldl (fun m p => putA m p.1 p.2) m, P p.2 := by
    intro S
    induction S with
    | nil => intro m _ hm; exact hm
    | cons q r ih =>
      intro m hS hm
      refine ih _ (fun p hp => hS p (List.mem_cons_of_mem _ hp)) (upd m _ _ hm ?_)
      cases hl : lookA m q.1 with
      | none => exact hS q List.mem_cons_self
      | some o => exact hP _ _ (hm _ (lookA_mem hl)) (hS q List.mem_cons_self)
  exact key S [] h (fun p hp => by cases hp)
end
end Go.X.S
end

section
set_option linter.unusedVariables false
set_option linter.unusedSimpArgs false
set_option linter.unusedSectionVars false
/- Stack: all lengths; keys and entries of the map; the map block by block. -/
set_option linter.unusedVariables false
set_option linter.unusedSimpArgs false
set_option linter.unusedSectionVars false
set_option maxRecDepth 10000
set_option maxHeartbeats 1000000
namespace Go.X.S
open Go Go.Proofs Go.X

structure Lg where
  lo : Int
  hi : Int
  many : Int
deriving DecidableEq
def encL (x : Lg) : SV := .agg [.si .i64 x.lo, .si .i64 x.hi, .si .i64 x.many]
theorem encL_key : KeyT T 159 encL where
  ty := ⟨_, rfl⟩
  chk := fun a => by kernel_rfl
  eq := fun a b => by
    have h : eqC T 9 159 (encL a) (encL b) = some ((decide (a.lo = b.lo) && (decide (a.hi = b.hi) && true)) && (decide (a.many = b.many) && true)) := by kernel_rfl
    rw [h]
    congr 1
    rw [Bool.eq_iff_iff]
    obtain ⟨a1, a2, a3⟩ := a
    obtain ⟨b1, b2, b3⟩ := b
    simp [and_assoc]
  cl := fun a => ⟨.agg #[.int .i64 a.lo, .int .i64 a.hi, .int .i64 a.many], rfl⟩
  same := fun a => by
    have : cv (encL a) = .agg #[.int .i64 a.lo, .int .i64 a.hi, .int .i64 a.many] := rfl
    rw [this]
    simp [Instr.sameBits]
theorem encF_cl : Closed encF := fun a => ⟨.agg #[.int .i64 a.many, .int .u64 a.least, .int .u64 a.each, .int .u64 a.some], rfl⟩

def zeroL : Lg := ⟨0, 0, 0⟩
def withL (film b : Span) (k : Lg) : Lg := ⟨(if 0 < k.many then k.lo + film.1 else k.lo) + b.1, (if 0 < k.many then k.hi + film.2 else k.hi) + b.2, k.many + 1⟩
def withF (i : Nat) (f : Fd) : Fd := ⟨f.many, f.least ||| 2 ^ i, f.each ||| 2 ^ i, f.some ||| 2 ^ i⟩
def stepE (film b : Span) (i : Nat) (p : Lg × Fd) : List (Lg × Fd) := [p, (withL film b p.1, withF i p.2)]
def listS (film : Span) (sp : Nat → Span) : Nat → List (Lg × Fd)
  | 0 => [(zeroL, ⟨1, 0, 0, 0⟩)]
  | i + 1 => (listS film sp i).flatMap (stepE film (sp i) i)

theorem sizeN_or {x i : Nat} (h : x < 2 ^ i) : sizeN (x ||| 2 ^ i) = sizeN x + 1 := by
  have h2 : x ||| 2 ^ i < 2 ^ (i + 1) := Nat.or_lt_two_pow (by rw [Nat.pow_succ]; omega) (Nat.pow_lt_pow_right (by decide) (by omega))
  rw [← cntB_size (i + 1) _ h2, ← cntB_size i x h]
  have hc : ∀ j, j ≤ i → cntB (x ||| 2 ^ i) j = cntB x j := by
    intro j
    induction j with
    | zero => intro _; rfl
    | succ j ih =>
      intro hj
      simp only [cntB, ih (by omega), Nat.testBit_or]
      have : (2 ^ i).testBit j = false := by rw [Nat.testBit_two_pow]; simp; omega
      simp [this]
  simp only [cntB, hc i (Nat.le_refl _), Nat.testBit_or]
  simp [Nat.testBit_two_pow_self]
theorem or_add {x i : Nat} (h : x < 2 ^ i) : x ||| 2 ^ i = x + 2 ^ i := by
  rw [Nat.or_comm]
  have := Nat.two_pow_add_eq_or_of_lt h 1
  simp at this
  rw [← this]; omega
theorem lessN_or {x y i : Nat} (hx : x < 2 ^ i) (hy : y < 2 ^ i) : lessN (x ||| 2 ^ i) (y ||| 2 ^ i) = lessN x y := by
  rw [Bool.eq_iff_iff, lessN_iff, lessN_iff, sizeN_or hx, sizeN_or hy, or_add hx, or_add hy]
  omega
theorem minN_or {x y i : Nat} (hx : x < 2 ^ i) (hy : y < 2 ^ i) : minN (x ||| 2 ^ i) (y ||| 2 ^ i) = minN x y ||| 2 ^ i := by
  unfold minN
  rw [lessN_or hy hx]
  split <;> rfl
theorem withF_join {f x : Fd} {i : Nat} (hf : f.least < 2 ^ i) (hx : x.least < 2 ^ i) : withF i (join f x) = join (withF i f) (withF i x) := by
  simp only [withF, join_eq, minN_or hf hx, Fd.mk.injEq, true_and]
  constructor
  · apply Nat.eq_of_testBit_eq; intro j
    simp only [Nat.testBit_or, Nat.testBit_and]
    cases f.each.testBit j <;> cases x.each.testBit j <;> cases (2 ^ i).testBit j <;> rfl
  · apply Nat.eq_of_testBit_eq; intro j
    simp only [Nat.testBit_or]
    cases f.some.testBit j <;> cases x.some.testBit j <;> cases (2 ^ i).testBit j <;> rfl

/-- The step does not look at how it was grouped. -/
theorem step_group (film b : Span) (i : Nat) (S : List (Lg × Fd)) (h : ∀ p ∈ S, p.2.least < 2 ^ i) (k : Lg) : Gk ((group S).flatMap (stepE film b i)) k = Gk (S.flatMap (stepE film b i)) k := by
  have key : ∀ (r S : List (Lg × Fd)), (∀ p ∈ S, p.2.least < 2 ^ i) → (∀ p ∈ r, p.2.least < 2 ^ i) → Gk ((group S).flatMap (stepE film b i)) k = Gk (S.flatMap (stepE film b i)) k →
      Gk ((group (S ++ r)).flatMap (stepE film b i)) k = Gk ((S ++ r).flatMap (stepE film b i)) k := by
    intro r
    induction r with
    | nil => intro S _ _ h; simpa using h
    | cons p r ih =>
      intro S hS hr h
      have e : S ++ p :: r = (S ++ [p]) ++ r := by simp
      rw [e]
      refine ih (S ++ [p]) (fun q hq => ?_) (fun q hq => hr q (List.mem_cons_of_mem _ hq)) ?_
      · rcases List.mem_append.1 hq with hq | hq
        · exact hS q hq
        · simp at hq; subst hq; exact hr q List.mem_cons_self
      · rw [group_snoc, List.flatMap_append, Gk_append, ← h]
        have hp := hr p List.mem_cons_self
        cases hl : lookA (group S) p.1 with
        | none =>
          rw [putA, hl, updA_new (lookA_none.1 hl), List.flatMap_append, Gk_append]
        | some o =>
          have ho : o.least < 2 ^ i := by
            refine group_all (fun f => f.least < 2 ^ i) (fun f x h1 h2 => ?_) hS _ (lookA_mem hl)
            simp only [join_eq, minN]
            split <;> assumption
          obtain ⟨u, v, e1, e2⟩ := updA_old (v := join o p.2) (group_keys S) (lookA_mem hl)
          rw [putA, hl, e2, e1]
          simp only [List.flatMap_append, List.flatMap_cons, Gk_append, List.flatMap_nil, List.append_nil]
          have hone : ∀ (k' : Lg) (x y : Fd), Gk [(k', join x y)] k = jj (Gk [(k', x)] k) (Gk [(k', y)] k) := by
            intro k' x y
            simp only [Gk_one]
            by_cases h1 : k' = k
            · simp only [h1, if_true, jj, jo]
            · simp only [h1, if_false, jj]
          have jj4 : ∀ a b c d : Option Fd, jj (jj a b) (jj c d) = jj (jj a c) (jj b d) := by
            intro a b c d
            rw [jj_assoc, jj_assoc, ← jj_assoc b, ← jj_assoc c, jj_comm b c]
          have hs : Gk (stepE film b i (p.1, join o p.2)) k = jj (Gk (stepE film b i (p.1, o)) k) (Gk (stepE film b i p) k) := by
            have split2 : ∀ (q : Lg × Fd), Gk (stepE film b i q) k = jj (Gk [q] k) (Gk [(withL film b q.1, withF i q.2)] k) := fun q => Gk_append [q] [(withL film b q.1, withF i q.2)] k
            obtain ⟨pk, pf⟩ := p
            rw [split2, split2, split2, withF_join ho hp, hone, hone, jj4]
          rw [hs]
          rw [jj_assoc _ _ (Gk (stepE film b i p) k), jj_assoc _ _ (Gk (List.flatMap (stepE film b i) v) k), jj_assoc _ (Gk (List.flatMap (stepE film b i) v) k), jj_comm (Gk (stepE film b i p) k)]
  have := key S [] (fun p hp => by cases hp) h rfl
  simpa using this

theorem listS_ok (film : Span) (sp : Nat → Span) : ∀ i, (∀ p ∈ listS film sp i, p.2.least < 2 ^ i ∧ p.2.each < 2 ^ i ∧ p.2.some < 2 ^ i ∧ p.2.many = 1) ∧ sumM (listS film sp i) = 2 ^ i ∧ (listS film sp i).length = 2 ^ i
  | 0 => by
    refine ⟨fun p hp => ?_, rfl, rfl⟩
    simp [listS] at hp; subst hp; simp
  | i + 1 => by
    obtain ⟨h1, h2, h3⟩ := listS_ok film sp i
    have hp2 : 2 ^ i < 2 ^ (i + 1) := Nat.pow_lt_pow_right (by decide) (by omega)
    refine ⟨fun p hp => ?_, ?_, ?_⟩
    · simp only [listS, List.mem_flatMap] at hp
      obtain ⟨q, hq, hp⟩ := hp
      have hb := h1 q hq
      simp only [stepE, List.mem_cons, List.not_mem_nil, or_false] at hp
      rcases hp with rfl | rfl
      · omega
      · refine ⟨?_, ?_, ?_, hb.2.2.2⟩ <;> exact Nat.or_lt_two_pow (by omega) hp2
    · have : ∀ (S : List (Lg × Fd)), sumM (S.flatMap (stepE film (sp i) i)) = 2 * sumM S := by
        intro S
        induction S with
        | nil => rfl
        | cons p r ih =>
          simp only [List.flatMap_cons, sumM, List.map_append, List.sum_append, List.map_cons, List.sum_cons] at ih ⊢
          rw [ih]
          simp [stepE, withF]
          omega
      rw [listS, this, h2, Nat.pow_succ]; omega
    · have : ∀ (S : List (Lg × Fd)), (S.flatMap (stepE film (sp i) i)).length = 2 * S.length := by
        intro S
        induction S with
        | nil => rfl
        | cons p r ih => simp only [List.flatMap_cons, List.length_append, ih, List.length_cons]; simp [stepE]; omega
      rw [listS, this, h3, Nat.pow_succ]; omega
end Go.X.S
end

section
set_option linter.unusedVariables false
set_option linter.unusedSimpArgs false
set_option linter.unusedSectionVars false
/- Stack: all lengths, the walk. -/
set_option linter.unusedVariables false
set_option linter.unusedSimpArgs false
set_option linter.unusedSectionVars false
set_option maxRecDepth 10000
set_option maxHeartbeats 2000000
namespace Go.X.S
open Go Go.Proofs Go.X

def lenM (film : Span) (n : Nat) (sp : Nat → Span) : List (Lg × Fd) := group ((listS film sp n).filter fun p => decide (p.1 ≠ zeroL))
def c57 : Ct := fun fr args H =>
  match args with
  | [.sp sid 0] => (match H sid with
    | some (.cells 151 [.sl id, .si .i64 lo, .si .i64 hi]) => (match sliceOf 2 H id with
      | some (n, get) => some ⟨some (Spans n get ∧ okSet (spanL n get) lo hi), none, .sm fr, [(fr, .mp (encM encL encF (lenM (lo, hi) n (spanAt get))))]⟩
      | none => none)
    | _ => none)
  | _ => none
theorem c57_mono : CtMono c57 := by
  intro fr args H H' out hH h
  unfold c57 at h ⊢
  split at h
  · split at h
    · rename_i e1
      rw [hH _ _ e1]
      split at h
      · rename_i e
        simp only [sliceOf_mono hH e]
        exact h
      · cases h
    · cases h
  · cases h

/-- What the map holds after some blocks. -/
def MapOk (film : Span) (sp : Nat → Span) (i : Nat) (m : List (Lg × Fd)) : Prop := (m.map (·.1)).Nodup ∧ ∀ k, lookA m k = Gk (listS film sp i) k
theorem mapOk_perm {film : Span} {sp : Nat → Span} {i : Nat} {m : List (Lg × Fd)} (h : MapOk film sp i m) : m.Perm (group (listS film sp i)) :=
  perm_of_look h.1 (group_keys _) fun k => by rw [h.2, group_look]
theorem group_fst {S : List (Lg × Fd)} (P : Lg → Prop) (h : ∀ p ∈ S, P p.1) : ∀ p ∈ group S, P p.1 := by
  intro p hp
  have h1 := lookA_of_mem (k := p.1) (v := p.2) (group_keys S) hp
  rw [group_look] at h1
  by_cases hn : (S.filter (fun q => decide (q.1 = p.1))) = []
  · rw [Gk, hn] at h1; cases h1
  · obtain ⟨q, hq⟩ := List.exists_mem_of_ne_nil _ hn
    have := List.mem_filter.1 hq
    have e : q.1 = p.1 := by simpa using this.2
    rw [← e]; exact h q this.1
theorem listS_keys {film : Span} {sp : Nat → Span} {n : Nat} (hf : (0 ≤ film.1 ∧ film.1 ≤ 1000) ∧ (0 ≤ film.2 ∧ film.2 ≤ 1000)) (hb : ∀ i, i < n → (0 ≤ (sp i).1 ∧ (sp i).1 ≤ 1000) ∧ (0 ≤ (sp i).2 ∧ (sp i).2 ≤ 1000)) :
    ∀ i, i ≤ n → ∀ p ∈ listS film sp i, 0 ≤ p.1.lo ∧ p.1.lo ≤ i * 2000 ∧ 0 ≤ p.1.hi ∧ p.1.hi ≤ i * 2000 ∧ 0 ≤ p.1.many ∧ p.1.many ≤ i
  | 0, _, p, hp => by simp [listS] at hp; subst hp; simp [zeroL]
  | i + 1, hi, p, hp => by
    simp only [listS, List.mem_flatMap] at hp
    obtain ⟨q, hq, hp⟩ := hp
    have h1 := listS_keys hf hb i (by omega) q hq
    have h2 := hb i (by omega)
    simp only [stepE, List.mem_cons, List.not_mem_nil, or_false] at hp
    rcases hp with rfl | rfl
    · omega
    · simp only [withL]
      split <;> omega
theorem mapOk_mem {film : Span} {sp : Nat → Span} {n i : Nat} {m : List (Lg × Fd)} (h : MapOk film sp i m) (hi : i ≤ n) (hf : (0 ≤ film.1 ∧ film.1 ≤ 1000) ∧ (0 ≤ film.2 ∧ film.2 ≤ 1000)) (hb : ∀ i, i < n → (0 ≤ (sp i).1 ∧ (sp i).1 ≤ 1000) ∧ (0 ≤ (sp i).2 ∧ (sp i).2 ≤ 1000)) :
    sumM m = 2 ^ i ∧ ∀ p ∈ m, (p.2.least < 2 ^ i ∧ p.2.each < 2 ^ i ∧ p.2.some < 2 ^ i) ∧ 0 ≤ p.1.lo ∧ p.1.lo ≤ i * 2000 ∧ 0 ≤ p.1.hi ∧ p.1.hi ≤ i * 2000 ∧ 0 ≤ p.1.many ∧ p.1.many ≤ i := by
  have hp := mapOk_perm h
  obtain ⟨a1, a2, a3⟩ := listS_ok film sp i
  refine ⟨by rw [sumM_perm hp, sumM_group, a2], fun p hm => ?_⟩
  have hm' := hp.mem_iff.1 hm
  refine ⟨group_all (fun f => f.least < 2 ^ i ∧ f.each < 2 ^ i ∧ f.some < 2 ^ i) (fun f x h1 h2 => ?_) (fun q hq => ⟨(a1 q hq).1, (a1 q hq).2.1, (a1 q hq).2.2.1⟩) p hm', group_fst (fun k => 0 ≤ k.lo ∧ k.lo ≤ i * 2000 ∧ 0 ≤ k.hi ∧ k.hi ≤ i * 2000 ∧ 0 ≤ k.many ∧ k.many ≤ i) (listS_keys hf hb i hi) p hm'⟩
  simp only [join_eq]
  refine ⟨?_, Nat.lt_of_le_of_lt Nat.and_le_left h1.2.1, Nat.or_lt_two_pow h1.2.2 h2.2.2⟩
  unfold minN; split
  · exact h2.1
  · exact h1.1
theorem sumM_step (film b : Span) (i : Nat) (S : List (Lg × Fd)) : sumM (S.flatMap (stepE film b i)) = 2 * sumM S := by
  induction S with
  | nil => rfl
  | cons p r ih =>
    simp only [List.flatMap_cons, sumM, List.map_append, List.sum_append, List.map_cons, List.sum_cons] at ih ⊢
    rw [ih]
    simp [stepE, withF]
    omega
/-- What the next map holds, after some entries. -/
theorem next_ok {film b : Span} {i : Nat} {m vis rest : List (Lg × Fd)} {M : List (Lg × Fd)} {r : List (Lg × Fd)} (hi : i < 8) (hp : m.Perm (vis ++ rest)) (hs : sumM m = 2 ^ i) (hm : ∀ p ∈ m, p.2.least < 2 ^ i ∧ p.2.each < 2 ^ i ∧ p.2.some < 2 ^ i) (hr : ∀ p ∈ r, ∃ q ∈ rest, p = q)
    (hM : group (vis.flatMap (stepE film b i) ++ r) = M) : ∀ p ∈ M, p.2.many ≤ 2 * 2 ^ i + sumM r ∧ p.2.least < 256 ∧ p.2.each < 256 ∧ p.2.some < 256 := by
  subst hM
  have h256 : (2 : Nat) ^ (i + 1) ≤ 2 ^ 8 := Nat.pow_le_pow_right (by decide) (by omega)
  have hp2 : 2 ^ i < 2 ^ (i + 1) := Nat.pow_lt_pow_right (by decide) (by omega)
  have hsv : sumM vis ≤ 2 ^ i := by
    have := sumM_perm hp
    rw [hs] at this
    simp only [sumM, List.map_append, List.sum_append] at this ⊢
    omega
  have e8 : (2 : Nat) ^ 8 = 256 := rfl
  intro p hmem
  refine ⟨?_, ?_⟩
  · have h1 := sumM_mem hmem
    rw [sumM_group] at h1
    have h2 := sumM_step film b i vis
    simp only [sumM, List.map_append, List.sum_append] at h1 h2 ⊢
    simp only [sumM] at hsv
    omega
  · refine group_all (fun f => f.least < 256 ∧ f.each < 256 ∧ f.some < 256) (fun f x h1 h2 => ?_) (fun q hq => ?_) p hmem
    · simp only [join_eq]
      refine ⟨?_, Nat.lt_of_le_of_lt Nat.and_le_left h1.2.1, Nat.or_lt_two_pow (n := 8) h1.2.2 h2.2.2⟩
      unfold minN; split
      · exact h2.1
      · exact h1.1
    · rcases List.mem_append.1 hq with hq | hq
      · simp only [List.mem_flatMap] at hq
        obtain ⟨u, hu, hq⟩ := hq
        have hb := hm u (hp.mem_iff.2 (List.mem_append_left _ hu))
        simp only [stepE, List.mem_cons, List.not_mem_nil, or_false] at hq
        rcases hq with rfl | rfl
        · omega
        · have o1 : ∀ x, x < 2 ^ i → x ||| 2 ^ i < 256 := fun x hx => by
            have := Nat.or_lt_two_pow (n := i + 1) (x := x) (y := 2 ^ i) (by omega) hp2
            omega
          exact ⟨o1 _ hb.1, o1 _ hb.2.1, o1 _ hb.2.2⟩
      · obtain ⟨q', hq', rfl⟩ := hr q hq
        have hb := hm q (hp.mem_iff.2 (List.mem_append_right _ hq'))
        omega
theorem putA_some {m : List (Lg × Fd)} {k : Lg} {o f : Fd} (h : lookA m k = some o) : putA m k f = updA m k (join o f) := by simp only [putA, h]
theorem putA_none {m : List (Lg × Fd)} {k : Lg} {f : Fd} (h : lookA m k = none) : putA m k f = updA m k f := by simp only [putA, h]
theorem next_look {film : Span} {sp : Nat → Span} {i : Nat} {m V : List (Lg × Fd)} (hv : V.Perm m) (hm : MapOk film sp i m) (k : Lg) : lookA (group (V.flatMap (stepE film (sp i) i))) k = Gk (listS film sp (i + 1)) k := by
  rw [group_look, listS, ← step_group film (sp i) i (listS film sp i) (fun p hp => ((listS_ok film sp i).1 p hp).1)]
  exact Gk_perm ((hv.trans (mapOk_perm hm)).flatMap_right _) k
theorem lookA_delA {m : List (Lg × Fd)} (hn : (m.map (·.1)).Nodup) (k k' : Lg) : lookA (delA m k) k' = if k' = k then none else lookA m k' := by
  induction m with
  | nil => simp [delA, lookA]
  | cons p r ih =>
    simp only [List.map_cons, List.nodup_cons] at hn
    simp only [delA]
    split
    · rename_i e; subst e
      split
      · rename_i e2; subst e2; exact lookA_none.2 hn.1
      · rename_i e2; simp only [lookA]; rw [if_neg (fun e => e2 e.symm)]
    · rename_i e
      simp only [lookA, ih hn.2]
      by_cases h : p.1 = k'
      · subst h; simp [e]
      · simp [h]
theorem Gk_filter (S : List (Lg × Fd)) (z k : Lg) : Gk (S.filter fun p => decide (p.1 ≠ z)) k = if k = z then none else Gk S k := by
  simp only [Gk, List.filter_filter]
  split
  · rename_i e; subst e
    have : S.filter (fun a => decide (a.1 = k) && decide (a.1 ≠ k)) = [] := by
      rw [List.filter_eq_nil_iff]; intro a _; simp
    rw [this]; rfl
  · rename_i e
    congr 2
    apply List.filter_congr
    intro a _
    by_cases h : a.1 = k
    · simp [h, e]
    · simp [h]
theorem del_perm {film : Span} {sp : Nat → Span} {n : Nat} {m : List (Lg × Fd)} (hm : MapOk film sp n m) : (encM encL encF (delA m zeroL)).Perm (encM encL encF (lenM film n sp)) := by
  refine List.Perm.map _ (perm_of_look ?_ (group_keys _) fun k => ?_)
  · have : ∀ (m : List (Lg × Fd)), ((delA m zeroL).map (·.1)).Sublist (m.map (·.1)) := by
      intro m
      induction m with
      | nil => exact .slnil
      | cons p r ih =>
        simp only [delA]
        split
        · exact List.sublist_cons_self _ _
        · exact ih.cons_cons _
    exact (this m).nodup hm.1
  · rw [lookA_delA hm.1, hm.2, lenM, group_look, Gk_filter]
theorem b71 : Body P 119 := body_of Try.func119 (c := code Try.f119) rfl (by decide)
theorem k57 : COk P 116 c57 := by
  have g := g63 (g72 (g66 good0))
  refine cok (C := tabC _) g.ok Try.func116 (c := code Try.f116) rfl fun fr args H out h hp => ?_
  unfold c57 at h
  split at h
  · rename_i sid
    split at h
    · rename_i id lo hi e1
      split at h
      · rename_i n get e
        cases h
        obtain ⟨hs, hok⟩ : Spans n get ∧ okSet (spanL n get) lo hi := hp
        have hh := setHand e1 e hs
        refine ⟨setP sid id n lo hi (spanAt get), [.sp 0 0], setH n lo hi (spanAt get), 2, [2], rfl, rfl, Nat.le_of_ble_eq_true rfl, hh, rfl, rfl, fun G hG => ?_⟩
        have hb : ∀ i, i < n → okP (spanAt get i).1 ∧ okP (spanAt get i).2 := fun i hi => hok.2.2.2 _ (List.mem_map.2 ⟨i, List.mem_range.2 hi, rfl⟩)
        have hn : n ≤ 8 := by have := hok.1; simpa [spanL] using this
        have hlo := hok.2.1
        have hhi := hok.2.2.1
        clear hok hh hs e e1
        generalize spanAt get = sp at hb ⊢
        unfold okP at hb hlo hhi
        refine fb_makeMap (g.ok _ _ _) cont_std rfl rfl rfl rfl rfl ?_
        refine fb_update encL encF [] zeroL ⟨1, 0, 0, 0⟩ [(zeroL, ⟨1, 0, 0, 0⟩)] rfl 2 (g.ok _ _ _) cont_std rfl (.inr rfl) rfl rfl rfl rfl encL_key encF_cl rfl rfl rfl rfl ?_
        intro _
        refine loop_okR (g.ok _ _ _) 2 (fun x : {p : Nat × List (Lg × Fd) // p.1 ≤ n ∧ MapOk (lo, hi) sp p.1 p.2} => ⟨[(0, ⟨[], .sp 0 0⟩), (3, ⟨[], .sm 2⟩), (4, ⟨[], .fn (.func 119) [] []⟩), (17, ⟨[], .sl 1⟩), (18, ⟨[], .si .i64 n⟩), (19, ⟨[], .si .i64 x.1.1⟩)], [],
          (2, .mp (encM encL encF x.1.2)) :: setH n lo hi sp, 3, []⟩) (fun x => n - x.1.1) hG ⟨(0, [(zeroL, ⟨1, 0, 0, 0⟩)]), Nat.zero_le _, ⟨by simp, fun k => by rw [listS, Gk_one]; rfl⟩⟩ (fun j => j) ?_ ?_
        · refine ⟨?_, ?_, rfl, rfl, rfl, rfl, trivial⟩
          · repeat' (first | exact trivial | exact rfl | refine And.intro ?_ ?_)
          · exact ⟨⟨List.Perm.refl _, rfl⟩, ⟨⟨rfl, ⟨rfl, ⟨rfl, rfl⟩, ⟨rfl, rfl⟩, trivial⟩, rfl⟩, rfl⟩, ⟨⟨rfl, rfl, fun i hi => ⟨rfl, rfl⟩⟩, rfl⟩, trivial⟩
        · rintro ⟨⟨i, m⟩, hin, hm⟩
          refine Br.mk (fun h => ?_) (fun h => ?_)
          · have h : (i : Int) < (n : Int) := of_decide_eq_true h
            refine Chk.mk (show (0 : Int) ≤ (i : Int) ∧ (i : Int) < (n : Int) from ⟨by omega, h⟩) ?_
            refine fb_makeMap (g.ok _ _ _) cont_std rfl rfl rfl rfl rfl ?_
            refine fb_range encL encF m 2 (g.ok _ _ _) cont_std rfl rfl rfl rfl rfl rfl rfl encL_key encF_cl rfl rfl ?_
            intro hnd ts clock hts
            refine loop_ok (g.ok _ _ _) (fun x : {p : List ((Lg × Fd) × Nat) × List ((Lg × Fd) × Nat) // ts.Perm (p.1 ++ p.2)} => ⟨[(0, ⟨[], .sp 0 0⟩), (3, ⟨[], .sm 2⟩), (4, ⟨[], .fn (.func 119) [] []⟩), (5, ⟨[], .si .i64 i⟩), (6, ⟨[], .sp 3 0⟩), (7, ⟨[], .sm 4⟩), (17, ⟨[], .sl 1⟩), (18, ⟨[], .si .i64 n⟩), (19, ⟨[], .si .i64 i⟩), (26, ⟨[], .sp 5 0⟩)], [],
              (5, .it 2 clock (x.1.1.map (·.2)) clock) :: (2, .map (encS encL encF ts) clock) :: (4, .mp (encM encL encF (group ((x.1.1.map (·.1)).flatMap (stepE (lo, hi) (sp i) i))))) :: (3, .cells 24 (spanC (sp i))) :: setH n lo hi sp, 6, []⟩)
              (fun x => x.1.2.length) (fun _ j hj => hG j (by have : 6 ≤ j := hj; omega)) ⟨([], ts), by simp⟩ ?_ ?_
            · refine ⟨?_, ?_, rfl, rfl, rfl⟩
              · repeat' (first | exact trivial | exact rfl | refine And.intro ?_ ?_)
              · refine ⟨⟨rfl, ?_, rfl⟩, ⟨rfl, trivial, rfl⟩, ⟨rfl, trivial, rfl⟩, ⟨⟨rfl, ⟨rfl, rfl⟩, ⟨rfl, rfl⟩, trivial⟩, rfl, rfl⟩, ⟨⟨rfl, rfl, ⟨rfl, rfl⟩, ⟨rfl, rfl⟩, trivial⟩, rfl, rfl⟩, ⟨rfl, fun i hi => rfl, rfl⟩, trivial⟩
                show (2 : Nat) < 6
                decide
            · rintro ⟨⟨vis, rest⟩, hp⟩
              refine fb_next encL encF 2 5 clock ts vis rest (g.ok _ _ _) cont_std rfl rfl rfl rfl rfl encL_key encF_cl rfl rfl rfl hp ⟨fun hr => ?_, ?_⟩
              · subst hr
                have hmb := mapOk_mem hm hin ⟨hlo, hhi⟩ (fun i hi => ⟨(hb i hi).1, (hb i hi).2⟩)
                have hpm : (vis.map (·.1)).Perm m := by
                  have := hts.symm.trans (hp.map _)
                  simpa using this.symm
                refine Br.mk (fun h => by cases h) (fun _ => ?_)
                refine Chk.mk (show (-9223372036854775808 : Int) ≤ (i : Int) + 1 ∧ (i : Int) + 1 ≤ 9223372036854775807 by omega) ⟨⟨(i + 1, group ((vis.map (·.1)).flatMap (stepE (lo, hi) (sp i) i))), (by show i + 1 ≤ n; omega), group_keys _, fun k => next_look hpm hm k⟩, (fun j => match j with | 2 => 4 | k => k), ?_, ?_⟩
                · refine ⟨?_, ?_, rfl, rfl, rfl, rfl, trivial⟩
                  · repeat' (first | exact trivial | exact rfl | refine And.intro ?_ ?_)
                  · exact ⟨⟨List.Perm.refl _, rfl⟩, ⟨⟨rfl, ⟨rfl, ⟨rfl, rfl⟩, ⟨rfl, rfl⟩, trivial⟩, rfl⟩, rfl⟩, ⟨⟨rfl, rfl, fun i hi => ⟨rfl, rfl⟩⟩, rfl⟩, trivial⟩
                · show n - (i + 1) < n - i
                  omega
              · rintro ⟨⟨⟨ka, kb, kc⟩, ⟨fm, fl, fe, fs⟩⟩, b⟩ rest' hrest
                refine Br.mk (fun _ => ?_) (fun h => by cases h)
                refine fb_entry encL encF 2 5 clock ts vis ⟨⟨⟨ka, kb, kc⟩, ⟨fm, fl, fe, fs⟩⟩, b⟩ (g.ok _ _ _) cont_std rfl rfl rfl rfl rfl encL_key encF_cl rfl rfl rfl ?_ ?_
                · refine hp.mem_iff.2 (List.mem_append_right _ (hrest.mem_iff.2 List.mem_cons_self))
                · have hmb := mapOk_mem hm hin ⟨hlo, hhi⟩ (fun i hi => ⟨(hb i hi).1, (hb i hi).2⟩)
                  have hpm : m.Perm (vis.map (·.1) ++ rest.map (·.1)) := by rw [← List.map_append]; exact hts.symm.trans (hp.map _)
                  have hpr : (rest.map (·.1)).Perm ((⟨ka, kb, kc⟩, ⟨fm, fl, fe, fs⟩) :: rest'.map (·.1)) := hrest.map _
                  have hi8 : i < 8 := by omega
                  have hin1 : ((⟨ka, kb, kc⟩, ⟨fm, fl, fe, fs⟩) : Lg × Fd) ∈ rest.map (·.1) := hpr.mem_iff.2 List.mem_cons_self
                  have hin2 : ((⟨ka, kb, kc⟩, ⟨fm, fl, fe, fs⟩) : Lg × Fd) ∈ m := hpm.mem_iff.2 (List.mem_append_right _ hin1)
                  have hkf := hmb.2 _ hin2
                  have hfm := sumM_mem hin2
                  rw [hmb.1] at hfm
                  simp only at hkf hfm
                  have hpw : 2 ^ i ≤ 128 := (show 2 ^ i ≤ 2 ^ 7 from Nat.pow_le_pow_right (by decide) (by omega))
                  have hM1 := next_ok (film := (lo, hi)) (b := sp i) (r := []) hi8 hpm hmb.1 (fun p hp => (hmb.2 p hp).1) (fun p hp => by cases hp) rfl
                  have hM2 := next_ok (film := (lo, hi)) (b := sp i) (r := [(⟨ka, kb, kc⟩, ⟨fm, fl, fe, fs⟩)]) hi8 hpm hmb.1 (fun p hp => (hmb.2 p hp).1) (fun p hp => ⟨_, hin1, by simpa using hp⟩) rfl
                  rw [group_snoc] at hM2
                  rw [List.append_nil] at hM1
                  simp only [sumM, List.map_nil, List.sum_nil, List.map_cons, List.sum_cons] at hM1 hM2
                  generalize hM : group ((vis.map (·.1)).flatMap (stepE (lo, hi) (sp i) i)) = M at hM1 hM2 ⊢
                  refine fb_call (g.ok _ _ _) cont_std rfl rfl rfl rfl ?_
                  refine ⟨b71, callS_to g.ok Try.func119 (c := code Try.f119) rfl (Nat.le_of_ble_eq_true rfl) (.tup []) ((4, .mp (encM encL encF (putA M ⟨ka, kb, kc⟩ ⟨fm, fl, fe, fs⟩))) :: (7, .cells 98 (encFL ⟨fm, fl, fe, fs⟩)) :: (6, .cells 159 [.si .i64 ka, .si .i64 kb, .si .i64 kc]) :: (5, .it 2 clock (List.map (fun x : (Lg × Fd) × Nat => x.2) (vis ++ [((⟨ka, kb, kc⟩, ⟨fm, fl, fe, fs⟩), b)])) clock) :: (2, .map (encS encL encF ts) clock) :: (3, .cells 24 (spanC (sp i))) :: setH n lo hi sp) 8 (fun G1 hG1 => ?_) ?_⟩
                  · refine fb_lookup encL encF M ⟨ka, kb, kc⟩ 4 (g.ok _ _ _) cont_std rfl rfl rfl rfl rfl rfl rfl rfl rfl encL_key encF_cl rfl rfl rfl ?_
                    intro hMn
                    refine ⟨?_, fun ho => ?_⟩
                    · rintro ⟨om, ol, oe, os⟩ ho
                      have hbo := hM1 _ (lookA_mem ho)
                      refine Br.mk (fun _ => ?_) (fun h => by cases h)
                      refine Chk.mk ⟨?_, by decide, ?_⟩ ?_
                      · intro q hq
                        rcases (show q = 0 ∨ q = 1 by omega) with rfl | rfl <;> rfl
                      · intro q hq
                        rcases (show q = 0 ∨ q = 1 by omega) with rfl | rfl
                        · show om ≤ 1000000 ∧ ol < 256 ∧ oe < 256 ∧ os < 256
                          simp only at hbo; omega
                        · show fm ≤ 1000000 ∧ fl < 256 ∧ fe < 256 ∧ fs < 256
                          omega
                      refine fb_update encL encF M ⟨ka, kb, kc⟩ (join ⟨om, ol, oe, os⟩ ⟨fm, fl, fe, fs⟩) (putA M ⟨ka, kb, kc⟩ ⟨fm, fl, fe, fs⟩) (putA_some ho) 4 (g.ok _ _ _) cont_std rfl (.inl rfl) rfl rfl rfl rfl encL_key encF_cl rfl rfl rfl rfl ?_
                      intro _
                      exact ⟨fun j => j, ⟨⟨⟨List.Perm.refl _, rfl⟩, ⟨⟨rfl, ⟨⟨rfl, rfl⟩, ⟨rfl, rfl⟩, ⟨rfl, rfl⟩, ⟨rfl, rfl⟩, trivial⟩, rfl⟩, rfl⟩, ⟨⟨rfl, ⟨⟨rfl, rfl⟩, ⟨rfl, rfl⟩, ⟨rfl, rfl⟩, trivial⟩, rfl⟩, rfl⟩, ⟨⟨rfl, rfl, rfl, rfl, rfl⟩, rfl⟩, ⟨⟨rfl, rfl⟩, rfl⟩, ⟨⟨rfl, ⟨⟨rfl, rfl⟩, ⟨rfl, rfl⟩, trivial⟩, rfl⟩, rfl⟩, ⟨⟨rfl, ⟨rfl, ⟨rfl, rfl⟩, ⟨rfl, rfl⟩, trivial⟩, rfl⟩, rfl⟩, ⟨⟨rfl, rfl, fun i hi => ⟨rfl, rfl⟩⟩, rfl⟩, trivial⟩, trivial, rfl, rfl, rfl, rfl⟩⟩
                    · refine Br.mk (fun h => by cases h) (fun _ => ?_)
                      refine fb_update encL encF M ⟨ka, kb, kc⟩ ⟨fm, fl, fe, fs⟩ (putA M ⟨ka, kb, kc⟩ ⟨fm, fl, fe, fs⟩) (putA_none ho) 4 (g.ok _ _ _) cont_std rfl (.inl rfl) rfl rfl rfl rfl encL_key encF_cl rfl rfl rfl rfl ?_
                      intro _
                      exact ⟨fun j => j, ⟨⟨⟨List.Perm.refl _, rfl⟩, ⟨⟨rfl, ⟨⟨rfl, rfl⟩, ⟨rfl, rfl⟩, ⟨rfl, rfl⟩, ⟨rfl, rfl⟩, trivial⟩, rfl⟩, rfl⟩, ⟨⟨rfl, ⟨⟨rfl, rfl⟩, ⟨rfl, rfl⟩, ⟨rfl, rfl⟩, trivial⟩, rfl⟩, rfl⟩, ⟨⟨rfl, rfl, rfl, rfl, rfl⟩, rfl⟩, ⟨⟨rfl, rfl⟩, rfl⟩, ⟨⟨rfl, ⟨⟨rfl, rfl⟩, ⟨rfl, rfl⟩, trivial⟩, rfl⟩, rfl⟩, ⟨⟨rfl, ⟨rfl, ⟨rfl, rfl⟩, ⟨rfl, rfl⟩, trivial⟩, rfl⟩, rfl⟩, ⟨⟨rfl, rfl, fun i hi => ⟨rfl, rfl⟩⟩, rfl⟩, trivial⟩, trivial, rfl, rfl, rfl, rfl⟩⟩
                  have hsp := hb i (by omega)
                  have hor : ∀ x, x < 2 ^ i → x ||| 2 ^ i < 256 := fun x hx => by
                    have h1 : 2 ^ i < 2 ^ (i + 1) := Nat.pow_lt_pow_right (by decide) (by omega)
                    have h2 : (2 : Nat) ^ (i + 1) ≤ 2 ^ 8 := Nat.pow_le_pow_right (by decide) (by omega)
                    have := Nat.or_lt_two_pow (n := i + 1) (x := x) (y := 2 ^ i) (by omega) h1
                    omega
                  refine drawn_ok (g.ok _ _ _) fol [0,0,0,0,0,16,48,112,252,0,512,0,2048,0,14844,0,32768,0,260604,0,524288,0,4192764,8388604,16777215] [] 24 (by kernel_rfl) ?_
                  refine Chk.mk (show okB ka ∧ okB kb ∧ okB kc ∧ okB (sp i).1 ∧ okB (sp i).2 ∧ okB lo ∧ okB hi from ?_) ?_
                  · unfold okB; omega
                  refine Chk.mk (show (0 : Int) ≤ (fl : Int) ∧ (fl : Int) ≤ 1000000 ∧ (0 : Int) ≤ (i : Int) ∧ (i : Int) ≤ 40 by omega) ?_
                  refine Chk.mk (show (0 : Int) ≤ (fe : Int) ∧ (fe : Int) ≤ 1000000 ∧ (0 : Int) ≤ (i : Int) ∧ (i : Int) ≤ 40 by omega) ?_
                  refine Chk.mk (show (0 : Int) ≤ (fs : Int) ∧ (fs : Int) ≤ 1000000 ∧ (0 : Int) ≤ (i : Int) ∧ (i : Int) ≤ 40 by omega) ?_
                  refine fb_call (g.ok _ _ _) cont_std rfl rfl rfl rfl ?_
                  refine ⟨b71, callS_to g.ok Try.func119 (c := code Try.f119) rfl (Nat.le_of_ble_eq_true rfl) (.tup []) ((4, .mp (encM encL encF (putA (putA M ⟨ka, kb, kc⟩ ⟨fm, fl, fe, fs⟩) (withL (lo, hi) (sp i) ⟨ka, kb, kc⟩) (withF i ⟨fm, fl, fe, fs⟩)))) :: (7, .cells 98 (encFL ⟨fm, fl, fe, fs⟩)) :: (6, .cells 159 [.si .i64 ka, .si .i64 kb, .si .i64 kc]) :: (5, .it 2 clock (List.map (fun x : (Lg × Fd) × Nat => x.2) (vis ++ [((⟨ka, kb, kc⟩, ⟨fm, fl, fe, fs⟩), b)])) clock) :: (2, .map (encS encL encF ts) clock) :: (3, .cells 24 (spanC (sp i))) :: setH n lo hi sp) 104 (fun G1 hG1 => ?_) ?_⟩
                  · refine fb_lookup encL encF (putA M ⟨ka, kb, kc⟩ ⟨fm, fl, fe, fs⟩) (withL (lo, hi) (sp i) ⟨ka, kb, kc⟩) 4 (g.ok _ _ _) cont_std rfl rfl rfl rfl rfl rfl rfl rfl rfl encL_key encF_cl rfl rfl rfl ?_
                    intro hMn
                    refine ⟨?_, fun ho => ?_⟩
                    · rintro ⟨om, ol, oe, os⟩ ho
                      have hbo := hM2 _ (lookA_mem ho)
                      refine Br.mk (fun _ => ?_) (fun h => by cases h)
                      refine Chk.mk ⟨?_, by decide, ?_⟩ ?_
                      · intro q hq
                        rcases (show q = 0 ∨ q = 1 by omega) with rfl | rfl <;> rfl
                      · intro q hq
                        rcases (show q = 0 ∨ q = 1 by omega) with rfl | rfl
                        · show om ≤ 1000000 ∧ ol < 256 ∧ oe < 256 ∧ os < 256
                          simp only at hbo; omega
                        · show fm ≤ 1000000 ∧ (fl ||| 2 ^ i) < 256 ∧ (fe ||| 2 ^ i) < 256 ∧ (fs ||| 2 ^ i) < 256
                          exact ⟨by omega, hor _ hkf.1.1, hor _ hkf.1.2.1, hor _ hkf.1.2.2⟩
                      refine fb_update encL encF (putA M ⟨ka, kb, kc⟩ ⟨fm, fl, fe, fs⟩) (withL (lo, hi) (sp i) ⟨ka, kb, kc⟩) (join ⟨om, ol, oe, os⟩ (withF i ⟨fm, fl, fe, fs⟩)) (putA (putA M ⟨ka, kb, kc⟩ ⟨fm, fl, fe, fs⟩) (withL (lo, hi) (sp i) ⟨ka, kb, kc⟩) (withF i ⟨fm, fl, fe, fs⟩)) (putA_some ho) 4 (g.ok _ _ _) cont_std rfl (.inl rfl) rfl rfl rfl rfl encL_key encF_cl rfl rfl rfl rfl ?_
                      intro _
                      exact ⟨fun j => j, ⟨⟨⟨List.Perm.refl _, rfl⟩, ⟨⟨rfl, ⟨⟨rfl, rfl⟩, ⟨rfl, rfl⟩, ⟨rfl, rfl⟩, ⟨rfl, rfl⟩, trivial⟩, rfl⟩, rfl⟩, ⟨⟨rfl, ⟨⟨rfl, rfl⟩, ⟨rfl, rfl⟩, ⟨rfl, rfl⟩, trivial⟩, rfl⟩, rfl⟩, ⟨⟨rfl, rfl, rfl, rfl, rfl⟩, rfl⟩, ⟨⟨rfl, rfl⟩, rfl⟩, ⟨⟨rfl, ⟨⟨rfl, rfl⟩, ⟨rfl, rfl⟩, trivial⟩, rfl⟩, rfl⟩, ⟨⟨rfl, ⟨rfl, ⟨rfl, rfl⟩, ⟨rfl, rfl⟩, trivial⟩, rfl⟩, rfl⟩, ⟨⟨rfl, rfl, fun i hi => ⟨rfl, rfl⟩⟩, rfl⟩, trivial⟩, trivial, rfl, rfl, rfl, rfl⟩⟩
                    · refine Br.mk (fun h => by cases h) (fun _ => ?_)
                      refine fb_update encL encF (putA M ⟨ka, kb, kc⟩ ⟨fm, fl, fe, fs⟩) (withL (lo, hi) (sp i) ⟨ka, kb, kc⟩) (withF i ⟨fm, fl, fe, fs⟩) (putA (putA M ⟨ka, kb, kc⟩ ⟨fm, fl, fe, fs⟩) (withL (lo, hi) (sp i) ⟨ka, kb, kc⟩) (withF i ⟨fm, fl, fe, fs⟩)) (putA_none ho) 4 (g.ok _ _ _) cont_std rfl (.inl rfl) rfl rfl rfl rfl encL_key encF_cl rfl rfl rfl rfl ?_
                      intro _
                      exact ⟨fun j => j, ⟨⟨⟨List.Perm.refl _, rfl⟩, ⟨⟨rfl, ⟨⟨rfl, rfl⟩, ⟨rfl, rfl⟩, ⟨rfl, rfl⟩, ⟨rfl, rfl⟩, trivial⟩, rfl⟩, rfl⟩, ⟨⟨rfl, ⟨⟨rfl, rfl⟩, ⟨rfl, rfl⟩, ⟨rfl, rfl⟩, trivial⟩, rfl⟩, rfl⟩, ⟨⟨rfl, rfl, rfl, rfl, rfl⟩, rfl⟩, ⟨⟨rfl, rfl⟩, rfl⟩, ⟨⟨rfl, ⟨⟨rfl, rfl⟩, ⟨rfl, rfl⟩, trivial⟩, rfl⟩, rfl⟩, ⟨⟨rfl, ⟨rfl, ⟨rfl, rfl⟩, ⟨rfl, rfl⟩, trivial⟩, rfl⟩, rfl⟩, ⟨⟨rfl, rfl, fun i hi => ⟨rfl, rfl⟩⟩, rfl⟩, trivial⟩, trivial, rfl, rfl, rfl, rfl⟩⟩
                  refine ⟨⟨(vis ++ [((⟨ka, kb, kc⟩, ⟨fm, fl, fe, fs⟩), b)], rest'), ?_⟩, ?_, ?_⟩
                  · rw [List.append_assoc]
                    exact hp.trans (List.Perm.append_left _ hrest)
                  · refine ⟨?_, ?_, rfl, rfl, rfl⟩
                    · repeat' (first | exact trivial | exact rfl | refine And.intro ?_ ?_)
                    · refine ⟨⟨rfl, ?_, rfl⟩, ⟨rfl, trivial, rfl⟩, ⟨?_, trivial, rfl⟩, ⟨⟨rfl, ⟨rfl, rfl⟩, ⟨rfl, rfl⟩, trivial⟩, rfl, rfl⟩, ⟨⟨rfl, rfl, ⟨rfl, rfl⟩, ⟨rfl, rfl⟩, trivial⟩, rfl, rfl⟩, ⟨rfl, fun i hi => rfl, rfl⟩, trivial⟩
                      · show (2 : Nat) < 6
                        decide
                      · show HB.mp (encM encL encF (putA (putA M ⟨ka, kb, kc⟩ ⟨fm, fl, fe, fs⟩) (withL (lo, hi) (sp i) ⟨ka, kb, kc⟩) (withF i ⟨fm, fl, fe, fs⟩))) = HB.mp (encM encL encF (group ((List.map (fun x : (Lg × Fd) × Nat => x.1) (vis ++ [((⟨ka, kb, kc⟩, ⟨fm, fl, fe, fs⟩), b)])).flatMap (stepE (lo, hi) (sp i) i))))
                        rw [List.map_append, List.flatMap_append]
                        have e1 : ∀ (A : List (Lg × Fd)), group (A ++ (stepE (lo, hi) (sp i) i ((⟨ka, kb, kc⟩, ⟨fm, fl, fe, fs⟩) : Lg × Fd))) = putA (putA (group A) ⟨ka, kb, kc⟩ ⟨fm, fl, fe, fs⟩) (withL (lo, hi) (sp i) ⟨ka, kb, kc⟩) (withF i ⟨fm, fl, fe, fs⟩) := fun A => by
                          rw [show A ++ (stepE (lo, hi) (sp i) i ((⟨ka, kb, kc⟩, ⟨fm, fl, fe, fs⟩) : Lg × Fd)) = (A ++ [(⟨ka, kb, kc⟩, ⟨fm, fl, fe, fs⟩)]) ++ [(withL (lo, hi) (sp i) ⟨ka, kb, kc⟩, withF i ⟨fm, fl, fe, fs⟩)] by simp [stepE]]
                          rw [group_snoc, group_snoc]
                        have e2 := e1 ((vis.map (·.1)).flatMap (stepE (lo, hi) (sp i) i))
                        rw [hM] at e2
                        rw [← e2]
                        simp
                  · show rest'.length < rest.length
                    rw [hrest.length_eq]; simp
          · have h : ¬ (i : Int) < (n : Int) := of_decide_eq_false h
            have hin' : i = n := by omega
            subst hin'
            refine fb_delete encL encF m zeroL 2 (g.ok _ _ _) cont_std rfl rfl rfl rfl rfl rfl rfl rfl rfl encL_key encF_cl rfl rfl rfl ?_
            intro _
            exact ⟨.inl rfl, ⟨rfl, rfl, ⟨rfl, del_perm hm, trivial⟩, ⟨⟨rfl, rfl, ⟨rfl, rfl⟩, ⟨rfl, rfl⟩, trivial⟩, trivial, trivial⟩, rfl, rfl⟩⟩
      · cases h
    · cases h
  · cases h
theorem g57 {l : List (Nat × Ct)} (g : Good P T l) : Good P T ((116, c57) :: l) := g.add k57 c57_mono (body_of Try.func116 (c := code Try.f116) rfl (by decide))

end Go.X.S
end

section
set_option linter.unusedVariables false
set_option linter.unusedSimpArgs false
set_option linter.unusedSectionVars false
/- Stack: all of which something is so. -/
set_option linter.unusedVariables false
set_option linter.unusedSimpArgs false
set_option linter.unusedSectionVars false
set_option maxRecDepth 10000
set_option maxHeartbeats 2000000
namespace Go.X.S
open Go Go.Proofs Go.X

def isP (t : Nat) (w : Span) (k : Lg) : Bool := if t = 73 then meetsB w (k.lo, k.hi, k.many) else insideB w (k.lo, k.hi, k.many)
def allL (film : Span) (n : Nat) (sp : Nat → Span) (p : Lg → Bool) : List Fd := ((lenM film n sp).filter fun e => p e.1).map (·.2)
def zeroF : Fd := ⟨0, 0, 0, 0⟩
def c50 : Ct := fun fr args H =>
  match args with
  | [.sp sid 0, .ifc t (.agg [.si .i64 a, .si .i64 b])] => (match H sid with
    | some (.cells 151 [.sl id, .si .i64 lo, .si .i64 hi]) => (match sliceOf 2 H id with
      | some (n, get) => some ⟨some (t = 105 ∧ Spans n get ∧ okSet (spanL n get) lo hi), none,
          .tup [encF ((J (allL (lo, hi) n (spanAt get) (isP t (a, b)))).getD zeroF), .sb (decide (0 < (allL (lo, hi) n (spanAt get) (isP t (a, b))).length))], []⟩
      | none => none)
    | _ => none)
  | _ => none
theorem c50_mono : CtMono c50 := by
  intro fr args H H' out hH h
  unfold c50 at h ⊢
  split at h
  · split at h
    · rename_i e1
      rw [hH _ _ e1]
      split at h
      · rename_i e
        simp only [sliceOf_mono hH e]
        exact h
      · cases h
    · cases h
  · cases h

/-- What is found of those that were gone through. -/
def selL (p : Lg → Bool) (vis : List ((Lg × Fd) × Nat)) : List Fd := ((vis.map (·.1)).filter fun e => p e.1).map (·.2)
theorem putA_len (m : List (Lg × Fd)) (k : Lg) (f : Fd) : (putA m k f).length ≤ m.length + 1 := by
  have upd : ∀ (m : List (Lg × Fd)) k v, (updA m k v).length ≤ m.length + 1 := by
    intro m k v
    induction m with
    | nil => simp [updA]
    | cons q r ih =>
      simp only [updA]
      split
      · simp
      · simp only [List.length_cons]; omega
  exact upd _ _ _
theorem group_len (S : List (Lg × Fd)) : (group S).length ≤ S.length := by
  have key : ∀ (S m : List (Lg × Fd)), (S.foldl (fun m p => putA m p.1 p.2) m).length ≤ m.length + S.length := by
    intro S
    induction S with
    | nil => intro m; exact Nat.le_refl _
    | cons p r ih =>
      intro m
      have := putA_len m p.1 p.2
      have h2 := ih (putA m p.1 p.2)
      simp only [List.foldl_cons, List.length_cons] at h2 ⊢
      omega
  have := key S []
  simp only [List.length_nil, Nat.zero_add] at this
  exact this
theorem pow_le8 {n : Nat} (h : n ≤ 8) : 2 ^ n ≤ 256 := Nat.le_trans (Nat.pow_le_pow_right (by decide) h) (by decide)
theorem lenM_len {film : Span} {n : Nat} {sp : Nat → Span} (h : n ≤ 8) : (lenM film n sp).length ≤ 256 :=
  Nat.le_trans (group_len _) (Nat.le_trans (List.length_filter_le _ _) ((listS_ok film sp n).2.2 ▸ pow_le8 h))
theorem lenM_okF {film : Span} {n : Nat} {sp : Nat → Span} (h : n ≤ 8) : ∀ p ∈ lenM film n sp, okF p.2 := by
  intro p hp
  have h1 := group_all (fun f => f.least < 256 ∧ f.each < 256 ∧ f.some < 256) (fun f x hf hx => by
    refine ⟨?_, Nat.lt_of_le_of_lt Nat.and_le_left hf.2.1, Nat.or_lt_two_pow (n := 8) hf.2.2 hx.2.2⟩
    simp only [join]
    split
    · exact hx.1
    · exact hf.1) (S := (listS film sp n).filter fun p => decide (p.1 ≠ zeroL)) (fun q hq => by
      have := (listS_ok film sp n).1 q (List.mem_filter.1 hq).1
      have h8 := pow_le8 h
      omega) p hp
  have h2 : p.2.many ≤ sumM (lenM film n sp) := sumM_mem hp
  rw [lenM, sumM_group] at h2
  have h3 : sumM ((listS film sp n).filter fun p => decide (p.1 ≠ zeroL)) ≤ sumM (listS film sp n) := by
    generalize listS film sp n = S
    induction S with
    | nil => exact Nat.le_refl _
    | cons q r ih =>
      rw [List.filter_cons]
      split <;> simp only [sumM, List.map_cons, List.sum_cons] at ih ⊢ <;> omega
  rw [(listS_ok film sp n).2.1] at h3
  have h8 := pow_le8 h
  exact ⟨by omega, h1⟩
theorem selL_len (p : Lg → Bool) (vis : List ((Lg × Fd) × Nat)) : (selL p vis).length ≤ vis.length := by
  simp only [selL, List.length_map]
  exact Nat.le_trans (List.length_filter_le _ _) (by simp)
theorem selL_mem {p : Lg → Bool} {vis : List ((Lg × Fd) × Nat)} {x : Fd} (h : x ∈ selL p vis) : ∃ q ∈ vis, x = q.1.2 := by
  simp only [selL, List.mem_map, List.mem_filter] at h
  obtain ⟨a, ⟨⟨q, hq, rfl⟩, _⟩, rfl⟩ := h
  exact ⟨q, hq, rfl⟩
theorem selL_perm {film : Span} {n : Nat} {sp : Nat → Span} {p : Lg → Bool} {ts vis : List ((Lg × Fd) × Nat)} (h : (ts.map fun x => x.1).Perm (lenM film n sp)) (hv : ts.Perm vis) : (selL p vis).Perm (allL film n sp p) := by
  refine List.Perm.map _ (List.Perm.filter _ ?_)
  exact ((hv.map _).symm.trans h)
theorem range_getD (l : List Fd) (z : Fd) : (List.range l.length).map (fun i => l.getD i z) = l := by
  apply List.ext_getElem
  · simp
  · intro i h1 h2
    simp [List.getElem_map, List.getElem_range, List.getD_eq_getElem?_getD, List.getElem?_eq_getElem h2]
theorem sel_join {film : Span} {n : Nat} {sp : Nat → Span} {p : Lg → Bool} {L : List Fd} (h : L.Perm (allL film n sp p)) : jn (foundAt (fun i => encFL (L.getD i zeroF))) L.length = (J (allL film n sp p)).getD zeroF := by
  rw [show foundAt (fun i => encFL (L.getD i zeroF)) = fun i => L.getD i zeroF from funext fun i => foundAt_enc _ i, jn_J, range_getD, J_perm h]
  rfl
theorem b65 : Body P 102 := body_of Try.func102 (c := code Try.f102) rfl (by decide)
theorem b73 : Body P 115 := body_of Try.func115 (c := code Try.f115) rfl (by decide)
theorem is_call {t fid : Nat} (ht : t = 105 ∧ fid = 141) : MethOk P t "blockworks/stack.is" fid ∧ Body P fid ∧ ∀ (a b ka kb kc : Int) (H : List (Nat × HB)) (nx : Nat) (Rv : SV → List (Nat × HB) → Nat → Prop) (Rp : List PanicEntry → List (Nat × HB) → Nat → Prop),
    Rv (.sb (isP t (a, b) ⟨ka, kb, kc⟩)) H (nx + 4) → CallS P fid [.agg [.si .i64 a, .si .i64 b], .agg [.si .i64 ka, .si .i64 kb, .si .i64 kc]] H nx Rv Rp := by
  obtain ⟨rfl, rfl⟩ := ht
  exact ⟨m74, b95, fun a b ka kb kc H nx Rv Rp h => callS_ct (k95 good0) (out := ⟨none, none, .sb (insideB (a, b) (ka, kb, kc)), []⟩) rfl trivial (fun _ => h) (fun ch h => by cases h)⟩

theorem k50 : COk P 64 c50 := by
  have g := g57 (g66 good0)
  refine cokM (C := tabC _) g.ok Try.func64 (c := code Try.f64) rfl fun fr args H out h hp => ?_
  unfold c50 at h
  split at h
  · rename_i sid t a b
    split at h
    · rename_i id lo hi e1
      split at h
      · rename_i n get e
        cases h
        obtain ⟨ht, hs, hok⟩ : t = 105 ∧ Spans n get ∧ okSet (spanL n get) lo hi := hp
        obtain ⟨fid, hfid⟩ : ∃ fid, t = 105 ∧ fid = 141 := ⟨141, ht, rfl⟩
        obtain ⟨hmeth, hbody, hcall⟩ := is_call hfid
        have hh := setHand e1 e hs
        refine ⟨setP sid id n lo hi (spanAt get), [.sp 0 0, .ifc t (.agg [.si .i64 a, .si .i64 b])], setH n lo hi (spanAt get), 2, [], rfl, rfl, Nat.le_of_ble_eq_true rfl, hh, rfl, rfl, fun G hG => ?_⟩
        have hspans : Spans n (fun i => spanC (spanAt get i)) := spans_sp _ _
        have hok' : okSet (spanL n (fun i => spanC (spanAt get i))) lo hi := hok
        generalize spanAt get = sp at hspans hok' ⊢
        refine fb_call (g.ok _ _ _) cont_std rfl rfl rfl rfl ?_
        refine ⟨b65, callS_exec g.ok Try.func102 (c := code Try.f102) rfl (Nat.le_of_ble_eq_true rfl) fun G1 hG1 => ?_⟩
        refine rangeFunc_ok (g.ok _ _ _) rfl rfl rfl b73 ?_
        intro fn
        refine callS_exec g.ok Try.func115 (c := code Try.f115) rfl (Nat.le_of_ble_eq_true rfl) fun G2 hG2 => ?_
        refine Chk.mk ⟨hspans, hok'⟩ ?_
        refine fb_range encL encF (lenM (lo, hi) n sp) 8 (g.ok _ _ _) cont_std rfl rfl rfl rfl rfl rfl rfl encL_key encF_cl rfl rfl ?_
        intro hnd ts clock hts
        refine nil_cell 3 154 98 4 (fun i => encFL zeroF) rfl ?_
        obtain ⟨p, hpd⟩ : ∃ p : Lg → Bool, isP t (a, b) = p := ⟨_, rfl⟩
        refine loop_okR (g.ok _ _ _) 8 (fun x : {p : List ((Lg × Fd) × Nat) × List ((Lg × Fd) × Nat) // ts.Perm (p.1 ++ p.2)} => ⟨[(0, ⟨[], .fy 7⟩), (1, ⟨[], .sp 4 0⟩), (2, ⟨[], .sp 5 0⟩), (8, ⟨[], .sp 12 0⟩)], [],
          (12, .it 8 clock (x.1.1.map (·.2)) clock) :: (8, .map (encS encL encF ts) clock) :: (3, .cells 154 [.sl 13]) :: (13, .vec 98 4 (selL p x.1.1).length (fun i => encFL ((selL p x.1.1).getD i zeroF))) ::
            (7, .loop [(6, .sp 3 0)] Try.f64.ntmps fn [12, 13] (rfA (code Try.f64)) (rfB (code Try.f64)) 6 .ready none) :: (6, .dfr) :: (5, .cells 153 [.ifc t (.agg [.si .i64 a, .si .i64 b])]) :: (4, .cells 100 [.sp 0 0]) :: (2, .cells 98 (encFL zeroF)) :: setH n lo hi sp, 14, []⟩)
          (fun x => x.1.2.length) hG2 ⟨([], ts), by simp⟩ (fun j => j) ?_ ?_
        · refine ⟨?_, ?_, rfl, rfl, rfl, rfl, trivial⟩
          · repeat' (first | exact trivial | exact rfl | refine And.intro ?_ ?_)
          · refine ⟨⟨⟨rfl, rfl, rfl, rfl, rfl⟩, rfl⟩, ⟨⟨rfl, rfl⟩, rfl⟩, ⟨⟨rfl, ⟨rfl, trivial⟩, rfl⟩, rfl⟩, ⟨⟨rfl, rfl, rfl, fun i hi => absurd hi (Nat.not_lt_zero _)⟩, rfl⟩, ⟨⟨rfl, rfl, rfl, rfl, rfl, rfl, rfl, rfl, rfl, ?_⟩, rfl⟩, ⟨trivial, rfl⟩, ⟨⟨rfl, ⟨rfl, trivial⟩, rfl⟩, rfl⟩, ⟨⟨rfl, ⟨⟨rfl, rfl⟩, trivial⟩, rfl⟩, rfl⟩, ⟨⟨rfl, ⟨⟨rfl, rfl⟩, ⟨rfl, rfl⟩, ⟨rfl, rfl⟩, ⟨rfl, rfl⟩, trivial⟩, rfl⟩, rfl⟩, ⟨⟨rfl, ⟨rfl, ⟨rfl, rfl⟩, ⟨rfl, rfl⟩, trivial⟩, rfl⟩, rfl⟩, ⟨⟨rfl, rfl, fun i hi => ⟨rfl, rfl⟩⟩, rfl⟩, trivial⟩
            intro t' v hv
            simp only [findV] at hv
            split at hv
            · rename_i e6
              have h6 : 6 = t' := by simpa using e6
              subst h6
              cases hv
              exact ⟨rfl, rfl⟩
            · cases hv
        · rintro ⟨⟨vis, rest⟩, hp⟩
          refine fb_next encL encF 8 12 clock ts vis rest (g.ok _ _ _) cont_std rfl rfl rfl rfl rfl encL_key encF_cl rfl rfl rfl hp ⟨fun hr => ?_, ?_⟩
          · replace hr : rest = [] := hr
            subst hr
            have hv : ts.Perm vis := by simpa using hp
            have hsl := selL_perm (p := p) hts hv
            have hl1 : (selL p vis).length ≤ 256 := Nat.le_trans (selL_len p vis) (by
              have := hts.length_eq
              rw [List.length_map, hv.length_eq] at this
              rw [this]
              exact lenM_len (by have := hok'.1; simpa [spanL] using this))
            refine Br.mk (fun h => by cases h) (fun _ => ?_)
            refine drawn_ok (g.ok _ _ _) fol [0,1,0,4,12,3,63] [(5,2)] 7 (by kernel_rfl) ?_
            refine Chk.mk ⟨founds_enc _ _, by show (selL p vis).length ≤ 1000; omega, fun i hi => ?_⟩ ?_
            · rw [foundAt_enc (fun i => (selL p vis).getD i zeroF)]
              have hi : i < (selL p vis).length := hi
              rw [List.getD_eq_getElem?_getD, List.getElem?_eq_getElem hi]
              obtain ⟨q, hq, e⟩ := selL_mem (List.getElem_mem hi)
              simp only [Option.getD_some]
              rw [e]
              have h8 : n ≤ 8 := by have := hok'.1; simpa [spanL] using this
              exact lenM_okF h8 _ (hts.mem_iff.1 (List.mem_map_of_mem (hv.mem_iff.2 hq)))
            have hj := sel_join hsl
            refine ⟨.inl rfl, ⟨?_, rfl, trivial, ⟨⟨rfl, rfl, ⟨rfl, rfl⟩, ⟨rfl, rfl⟩, trivial⟩, trivial, trivial⟩, rfl, rfl⟩⟩
            · show SVeq (.tup [encF (jn (foundAt (fun i => encFL ((selL p vis).getD i zeroF))) (selL p vis).length), .sb (decide ((0 : Int) < ((selL p vis).length : Int)))]) (.tup [encF ((J (allL (lo, hi) n sp (isP t (a, b)))).getD zeroF), .sb (decide (0 < (allL (lo, hi) n sp (isP t (a, b))).length))])
              rw [hpd, hj, hsl.length_eq]
              refine ⟨⟨⟨rfl, rfl⟩, ⟨rfl, rfl⟩, ⟨rfl, rfl⟩, ⟨rfl, rfl⟩, trivial⟩, ?_, trivial⟩
              refine decide_eq_decide.2 ?_
              omega
          · rintro ⟨⟨⟨ka, kb, kc⟩, ⟨fm, fl, fe, fs⟩⟩, b'⟩ rest' hrest
            refine Br.mk (fun _ => ?_) (fun h => by cases h)
            refine fb_entry encL encF 8 12 clock ts vis ⟨⟨⟨ka, kb, kc⟩, ⟨fm, fl, fe, fs⟩⟩, b'⟩ (g.ok _ _ _) cont_std rfl rfl rfl rfl rfl encL_key encF_cl rfl rfl rfl ?_ ?_
            · refine hp.mem_iff.2 (List.mem_append_right _ (hrest.mem_iff.2 List.mem_cons_self))
            · refine fb_invoke fid (g.ok _ _ _) cont_std rfl rfl rfl rfl rfl rfl rfl hmeth hbody ?_
              refine hcall a b ka kb kc _ _ _ _ ?_
              rw [hpd]
              have hsel : selL p (vis ++ [(((⟨ka, kb, kc⟩ : Lg), (⟨fm, fl, fe, fs⟩ : Fd)), b')]) = if p ⟨ka, kb, kc⟩ = true then selL p vis ++ [⟨fm, fl, fe, fs⟩] else selL p vis := by
                simp only [selL, List.map_append, List.filter_append, List.map_cons, List.map_nil, List.filter_cons, List.filter_nil]
                split <;> simp
              have hpm : ts.Perm ((vis ++ [(((⟨ka, kb, kc⟩ : Lg), (⟨fm, fl, fe, fs⟩ : Fd)), b')]) ++ rest') := by
                rw [List.append_assoc]
                exact hp.trans (List.Perm.append_left _ hrest)
              have hless : rest'.length < rest.length := by rw [hrest.length_eq]; simp
              refine Br.mk (fun h => ?_) (fun h => ?_)
              · have h : p ⟨ka, kb, kc⟩ = false := by simpa using h
                rw [h] at hsel
                refine ⟨⟨(vis ++ [(((⟨ka, kb, kc⟩ : Lg), (⟨fm, fl, fe, fs⟩ : Fd)), b')], rest'), hpm⟩, (fun j => j), ?_, hless⟩
                simp only [Bool.false_eq_true, if_false] at hsel
                refine ⟨?_, ?_, rfl, rfl, rfl, rfl, trivial⟩
                · repeat' (first | exact trivial | exact rfl | refine And.intro ?_ ?_)
                · refine ⟨⟨⟨rfl, rfl, rfl, rfl, rfl⟩, rfl⟩, ⟨⟨rfl, rfl⟩, rfl⟩, ⟨⟨rfl, ⟨rfl, trivial⟩, rfl⟩, rfl⟩, ⟨⟨rfl, rfl, ?_, ?_⟩, rfl⟩, ⟨⟨rfl, rfl, rfl, rfl, rfl, rfl, rfl, rfl, rfl, ?_⟩, rfl⟩, ⟨trivial, rfl⟩, ⟨⟨rfl, ⟨rfl, trivial⟩, rfl⟩, rfl⟩, ⟨⟨rfl, ⟨⟨rfl, rfl⟩, trivial⟩, rfl⟩, rfl⟩, ⟨⟨rfl, ⟨⟨rfl, rfl⟩, ⟨rfl, rfl⟩, ⟨rfl, rfl⟩, ⟨rfl, rfl⟩, trivial⟩, rfl⟩, rfl⟩, ⟨⟨rfl, ⟨rfl, ⟨rfl, rfl⟩, ⟨rfl, rfl⟩, trivial⟩, rfl⟩, rfl⟩, ⟨⟨rfl, rfl, fun i hi => ⟨rfl, rfl⟩⟩, rfl⟩, trivial⟩
                  · show (selL p vis).length = (selL p (vis ++ [(((⟨ka, kb, kc⟩ : Lg), (⟨fm, fl, fe, fs⟩ : Fd)), b')])).length
                    rw [hsel]
                  · intro i hi
                    show encFL ((selL p vis).getD i zeroF) = renL (fun j => j) (encFL ((selL p (vis ++ [(((⟨ka, kb, kc⟩ : Lg), (⟨fm, fl, fe, fs⟩ : Fd)), b')])).getD i zeroF)) ∧ _
                    rw [hsel]
                    exact ⟨rfl, rfl⟩
                  · intro t' v hv
                    simp only [findV] at hv
                    split at hv
                    · rename_i e6
                      have h6 : 6 = t' := by simpa using e6
                      subst h6
                      cases hv
                      exact ⟨rfl, rfl⟩
                    · cases hv
              · have h : p ⟨ka, kb, kc⟩ = true := by simpa using h
                rw [if_pos h] at hsel
                refine fb_yield 7 g.ok (g.ok _ _ _) cont_std rfl rfl rfl rfl rfl rfl rfl rfl rfl (by decide) ?_
                intro G3 r hG3
                refine fb_append (Te := 0) 13 21 (selL p vis).length 1 _ _ (fun i => encFL ((selL p vis ++ [(⟨fm, fl, fe, fs⟩ : Fd)]).getD i zeroF)) (g.ok _ _ _) cont_std rfl rfl rfl rfl rfl rfl rfl rfl rfl rfl rfl rfl (by decide) (by decide) rfl rfl rfl rfl ?_ ?_ ?_
                · have h1 := selL_len p vis
                  have h2 : vis.length ≤ ts.length := by rw [hp.length_eq]; simp
                  have h3 : ts.length ≤ 256 := by
                    have := hts.length_eq
                    rw [List.length_map] at this
                    rw [this]
                    exact lenM_len (by have := hok'.1; simpa [spanL] using this)
                  omega
                · intro i hi
                  show encFL _ = _
                  rw [List.getD_eq_getElem?_getD, List.getElem?_append]
                  split
                  · rw [List.getD_eq_getElem?_getD]
                  · rename_i h'
                    have : i - (selL p vis).length = 0 := by omega
                    rw [this]
                    rfl
                · refine Br.mk (fun h => by cases h) (fun _ => ?_)
                  refine ⟨⟨(vis ++ [(((⟨ka, kb, kc⟩ : Lg), (⟨fm, fl, fe, fs⟩ : Fd)), b')], rest'), hpm⟩, (fun j => if j = 13 then 22 else j), ?_, hless⟩
                  refine ⟨?_, ?_, rfl, rfl, rfl, rfl, trivial⟩
                  · repeat' (first | exact trivial | exact rfl | refine And.intro ?_ ?_)
                  · refine ⟨⟨⟨rfl, rfl, rfl, rfl, rfl⟩, rfl⟩, ⟨⟨rfl, rfl⟩, rfl⟩, ⟨⟨rfl, ⟨rfl, trivial⟩, rfl⟩, rfl⟩, ⟨⟨rfl, rfl, ?_, ?_⟩, rfl⟩, ⟨⟨rfl, rfl, rfl, rfl, rfl, rfl, rfl, rfl, rfl, ?_⟩, rfl⟩, ⟨trivial, rfl⟩, ⟨⟨rfl, ⟨rfl, trivial⟩, rfl⟩, rfl⟩, ⟨⟨rfl, ⟨⟨rfl, rfl⟩, trivial⟩, rfl⟩, rfl⟩, ⟨⟨rfl, ⟨⟨rfl, rfl⟩, ⟨rfl, rfl⟩, ⟨rfl, rfl⟩, ⟨rfl, rfl⟩, trivial⟩, rfl⟩, rfl⟩, ⟨⟨rfl, ⟨rfl, ⟨rfl, rfl⟩, ⟨rfl, rfl⟩, trivial⟩, rfl⟩, rfl⟩, ⟨⟨rfl, rfl, fun i hi => ⟨rfl, rfl⟩⟩, rfl⟩, trivial⟩
                    · show (selL p vis).length + 1 = (selL p (vis ++ [(((⟨ka, kb, kc⟩ : Lg), (⟨fm, fl, fe, fs⟩ : Fd)), b')])).length
                      rw [hsel, List.length_append]
                      rfl
                    · intro i hi
                      show encFL _ = renL _ (encFL ((selL p (vis ++ [(((⟨ka, kb, kc⟩ : Lg), (⟨fm, fl, fe, fs⟩ : Fd)), b')])).getD i zeroF)) ∧ _
                      rw [hsel]
                      exact ⟨rfl, rfl⟩
                    · intro t' v hv
                      simp only [findV] at hv
                      split at hv
                      · rename_i e6
                        have h6 : 6 = t' := by simpa using e6
                        subst h6
                        cases hv
                        exact ⟨rfl, rfl⟩
                      · cases hv
      · cases h
    · cases h
  · cases h
theorem g50 {l : List (Nat × Ct)} (g : Good P T l) : Good P T ((64, c50) :: l) := g.add k50 c50_mono (body_of Try.func64 (c := code Try.f64) rfl (by decide))
end Go.X.S
end

section
set_option linter.unusedVariables false
set_option linter.unusedSimpArgs false
set_option linter.unusedSectionVars false
/- Stack: what is found of all lengths is what is found of all stacks (plain law). -/
set_option linter.unusedVariables false
set_option linter.unusedSimpArgs false
set_option linter.unusedSectionVars false
namespace Go.X.S
open Go Go.Proofs Go.X

def one (x : Nat) : Fd := ⟨1, x, x, x⟩
def keyN (film : Span) (sp : Nat → Span) (n x : Nat) : Lg := ⟨wS (fun i => (sp i).1) film.1 x n, wS (fun i => (sp i).2) film.2 x n, (cntB x n : Int)⟩

theorem wS_bits {f : Nat → Int} {film : Int} {x y : Nat} : ∀ n, (∀ i, i < n → x.testBit i = y.testBit i) → wS f film x n = wS f film y n ∧ cntB x n = cntB y n
  | 0, _ => ⟨rfl, rfl⟩
  | n + 1, h => by
    obtain ⟨h1, h2⟩ := wS_bits (f := f) (film := film) n (fun i hi => h i (by omega))
    simp only [wS, cntB, h1, h2, h n (by omega), and_self]
theorem keyN_low {film : Span} {sp : Nat → Span} {n x : Nat} (h : x < 2 ^ n) : keyN film sp (n + 1) x = keyN film sp n x := by
  have hb : x.testBit n = false := Nat.testBit_lt_two_pow h
  simp only [keyN, wS, cntB, hb, if_false, Bool.false_eq_true, Nat.add_zero]
theorem keyN_high {film : Span} {sp : Nat → Span} {n x : Nat} (h : x < 2 ^ n) : keyN film sp (n + 1) (x ||| 2 ^ n) = withL film (sp n) (keyN film sp n x) := by
  have hb : (x ||| 2 ^ n).testBit n = true := by simp [Nat.testBit_or, Nat.testBit_two_pow_self]
  have hl : ∀ i, i < n → (x ||| 2 ^ n).testBit i = x.testBit i := fun i hi => by
    rw [Nat.testBit_or, Nat.testBit_two_pow_of_ne (by omega)]; simp
  have h1 := wS_bits (f := fun i => (sp i).1) (film := film.1) n hl
  have h2 := wS_bits (f := fun i => (sp i).2) (film := film.2) n hl
  simp only [keyN, wS, cntB, hb, if_true, h1.1, h1.2, h2.1, withL]
  have e : (0 < cntB x n) = (0 < (cntB x n : Int)) := by apply propext; omega
  simp only [e]
  congr 1
theorem range_double (n : Nat) : List.range (2 ^ (n + 1)) = List.range (2 ^ n) ++ (List.range (2 ^ n)).map (fun x => x ||| 2 ^ n) := by
  rw [show 2 ^ (n + 1) = 2 ^ n + 2 ^ n by rw [Nat.pow_succ]; omega, List.range_add]
  congr 1
  refine List.map_congr_left fun x hx => ?_
  rw [or_add (List.mem_range.1 hx)]; omega
theorem flat_perm {α β : Type} (f g : α → β) : ∀ l : List α, (l.flatMap fun p => [f p, g p]).Perm (l.map f ++ l.map g)
  | [] => List.Perm.refl _
  | a :: l => by
    have ih := flat_perm f g l
    simp only [List.flatMap_cons, List.map_cons, List.cons_append, List.nil_append]
    refine List.Perm.cons _ ?_
    exact (List.Perm.cons _ ih).trans List.perm_middle.symm
theorem listS_perm (film : Span) (sp : Nat → Span) : ∀ n, (listS film sp n).Perm ((List.range (2 ^ n)).map fun x => (keyN film sp n x, one x))
  | 0 => by
    refine .of_eq ?_
    simp [listS, keyN, wS, cntB, zeroL, one]
  | n + 1 => by
    have ih := listS_perm film sp n
    simp only [listS]
    refine (ih.flatMap_right _).trans ?_
    rw [range_double, List.map_append, List.map_map]
    refine (flat_perm (fun p : Lg × Fd => p) (fun p : Lg × Fd => (withL film (sp n) p.1, withF n p.2)) _).trans (.of_eq ?_)
    rw [List.map_map, List.map_map]
    congr 1
    · refine List.map_congr_left fun x hx => ?_
      simp only [Function.comp, keyN_low (List.mem_range.1 hx)]
    · refine List.map_congr_left fun x hx => ?_
      simp only [Function.comp, keyN_high (List.mem_range.1 hx)]
      rfl

theorem jo_jj1 (o : Option Fd) (x : Fd) : jo o x = jj o (some x) := by cases o <;> rfl
theorem J_upd (p : Lg → Bool) (k : Lg) (f : Fd) : ∀ m : List (Lg × Fd), J (((putA m k f).filter fun e => p e.1).map (·.2)) = if p k = true then jo (J ((m.filter fun e => p e.1).map (·.2))) f else J ((m.filter fun e => p e.1).map (·.2))
  | [] => by
    simp only [putA, lookA, updA, List.filter_cons, List.filter_nil]
    split <;> rfl
  | (k', v) :: m => by
    have ih := J_upd p k f m
    by_cases hk : k' = k
    · subst hk
      simp only [putA, lookA, updA, if_true, List.filter_cons]
      cases hp : p k' with
      | false => simp
      | true =>
        simp only [if_true, List.map_cons, J_cons, jo_jj1]
        rw [show (some (join v f)) = jj (some v) (some f) from rfl, jj_assoc, jj_comm (some f), jj_assoc]
    · have e : putA ((k', v) :: m) k f = (k', v) :: putA m k f := by
        simp only [putA, lookA, updA, if_neg hk]
      rw [e]
      simp only [List.filter_cons]
      cases hp : p k' with
      | false => simpa [hp] using ih
      | true =>
        simp only [if_true, List.map_cons, J_cons, ih]
        split
        · rw [jo_jj1, jo_jj1, jj_assoc]
        · rfl
theorem J_group (p : Lg → Bool) (S : List (Lg × Fd)) : J (((group S).filter fun e => p e.1).map (·.2)) = J ((S.filter fun e => p e.1).map (·.2)) := by
  have key : ∀ (S m : List (Lg × Fd)), J (((S.foldl (fun m p => putA m p.1 p.2) m).filter fun e => p e.1).map (·.2)) = jj (J ((m.filter fun e => p e.1).map (·.2))) (J ((S.filter fun e => p e.1).map (·.2))) := by
    intro S
    induction S with
    | nil => intro m; rfl
    | cons q r ih =>
      intro m
      simp only [List.foldl_cons]
      rw [ih, J_upd]
      simp only [List.filter_cons]
      split
      · simp only [List.map_cons, J_cons, jo_jj1, jj_assoc]
      · rfl
  have := key S []
  simp only [List.filter_nil, List.map_nil] at this
  rw [show J [] = none from rfl, jj_none] at this
  exact this

/-- The stacks of n blocks of which something is so. -/
def stacksW (n : Nat) (q : Nat → Bool) : List Nat := (List.range (2 ^ n)).filter fun x => decide (0 < x) && q x
def foundX (n : Nat) (q : Nat → Bool) : Option Fd := J ((stacksW n q).map one)
theorem keyN_zero {film : Span} {sp : Nat → Span} {n x : Nat} (h : x < 2 ^ n) : decide (keyN film sp n x ≠ zeroL) = decide (0 < x) := by
  rw [decide_eq_decide]
  rcases Nat.eq_zero_or_pos x with h0 | h0
  · subst h0
    have e : keyN film sp n 0 = zeroL := by
      have : ∀ (f : Nat → Int) (film : Int) n, wS f film 0 n = 0 ∧ cntB 0 n = 0 := by
        intro f film n
        induction n with
        | zero => exact ⟨rfl, rfl⟩
        | succ n ih => simp [wS, cntB, ih.1, ih.2]
      simp [keyN, zeroL, (this _ film.1 n).1, (this _ film.2 n).1, (this (fun i => (sp i).1) film.1 n).2]
    simp [e]
  · have := cntB_size n x h
    have h2 := sizeN_ge h0
    refine ⟨fun _ => h0, fun _ e => ?_⟩
    have e2 := congrArg Lg.many e
    simp only [keyN, zeroL] at e2
    omega
theorem allL_found (film : Span) (n : Nat) (sp : Nat → Span) (p : Lg → Bool) : J (allL film n sp p) = foundX n fun x => p (keyN film sp n x) := by
  unfold allL lenM
  rw [J_group]
  rw [List.filter_filter]
  have h := listS_perm film sp n
  rw [J_perm ((h.filter (fun e => p e.1 && decide (e.1 ≠ zeroL))).map (·.2))]
  unfold foundX stacksW
  rw [List.filter_map, List.map_map]
  congr 1
  have e : List.filter ((fun e : Lg × Fd => p e.1 && decide (e.1 ≠ zeroL)) ∘ fun x => (keyN film sp n x, one x)) (List.range (2 ^ n)) = List.filter (fun x => decide (0 < x) && p (keyN film sp n x)) (List.range (2 ^ n)) := by
    refine List.filter_congr fun x hx => ?_
    simp only [Function.comp]
    rw [keyN_zero (List.mem_range.1 hx), Bool.and_comm]
  rw [e]
  rfl
theorem allL_nil {film : Span} {n : Nat} {sp : Nat → Span} {p : Lg → Bool} : decide (0 < (allL film n sp p).length) = (foundX n fun x => p (keyN film sp n x)).isSome := by
  rw [← allL_found]
  cases h : allL film n sp p with
  | nil => rfl
  | cons x r =>
    cases hj : J (x :: r) with
    | none => exact absurd (J_none.1 hj) (by simp)
    | some f => simp
theorem keyN_ofW {film : Span} {sp : Nat → Span} {n x : Nat} : (⟨(ofW ((List.range n).map sp) film.1 film.2 x).1, (ofW ((List.range n).map sp) film.1 film.2 x).2.1, (ofW ((List.range n).map sp) film.1 film.2 x).2.2⟩ : Lg) = keyN film sp n x := by
  rw [ofW_map]; rfl
end Go.X.S
end
