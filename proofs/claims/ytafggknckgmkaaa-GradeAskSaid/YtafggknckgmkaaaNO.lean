/- Which point should be measured, and the walk of GradeAsk. -/
import Derived.Test.YtafggknckgmkaaaNA
import Derived.Test.YtafggknckgmkaaaNM
import Derived.Test.YtafggknckgmkaaaND
import Derived.Test.YtafggknckgmkaaaNE

section
set_option linter.unusedVariables false
set_option linter.unusedSimpArgs false
set_option linter.unusedSectionVars false
/- Grade: Size. -/
set_option linter.unusedVariables false
set_option linter.unusedSimpArgs false
set_option maxRecDepth 10000
set_option maxHeartbeats 2000000
namespace Go.X.Gr
open Go Go.Proofs Go.X

def sizeN : Nat → Nat
  | 0 => 0
  | n + 1 => (n + 1) % 2 + sizeN ((n + 1) / 2)
decreasing_by omega
theorem sizeN_pos {n : Nat} (h : 0 < n) : sizeN n = n % 2 + sizeN (n / 2) := by
  obtain ⟨m, rfl⟩ : ∃ m, n = m + 1 := ⟨n - 1, by omega⟩
  rw [sizeN]
theorem sizeN_le (n : Nat) : sizeN n ≤ n := by
  induction n using Nat.strongRecOn with
  | _ n ih =>
    rcases Nat.eq_zero_or_pos n with rfl | h
    · simp [sizeN]
    · rw [sizeN_pos h]
      have := ih (n / 2) (by omega)
      omega

def c38 : Ct := plainCt fun
  | [.si .i64 x] => some ⟨some (x < 4611686018427387904), none, .si .i64 (sizeN x.toNat), []⟩
  | _ => none
theorem k38 {l : List (Nat × Ct)} (g : Good P T l) : COk P 38 c38 := cok (C := tabC l) g.ok Try.func38 (c := code Try.f38) rfl fun fr args H out h hp => by
  simp only [c38, plainCt] at h
  split at h
  · rename_i x
    cases h
    have hp : x < 4611686018427387904 := hp
    refine walk_plain rfl (Nat.le_of_ble_eq_true rfl) fun G hG => ?_
    refine loop_ok (g.ok _ _ _) (fun y : {y : Int × Int // y.1 ≤ x ∧ 0 ≤ y.2 ∧ y.2 + sizeN y.1.toNat = sizeN x.toNat} => ⟨[(0, ⟨[], .si .i64 y.1.1⟩), (3, ⟨[], .si .i64 y.1.2⟩)], [], [], 0, []⟩) (fun y => y.1.1.toNat) (fun _ => hG)
      ⟨(x, 0), by refine ⟨by omega, by omega, ?_⟩; simp⟩ ?_ ?_
    · refine ⟨?_, ?_, rfl, rfl, rfl⟩ <;> repeat' (first | exact trivial | exact rfl | refine And.intro ?_ ?_)
    · rintro ⟨⟨y, n⟩, h1, h2, h3⟩
      simp only at h1 h2 h3
      have hle := sizeN_le x.toNat
      refine Br.mk (fun h => ?_) (fun h => ?_)
      · have h : (0 : Int) < y := of_decide_eq_true h
        have e1 : y.tmod 2 = y % 2 := Int.tmod_eq_emod_of_nonneg (by omega)
        have e2 : y.tdiv 2 = y / 2 := Int.tdiv_eq_ediv_of_nonneg (by omega)
        have hs := sizeN_pos (n := y.toNat) (by omega)
        refine Chk.mk (show (2 : Int) ≠ 0 by decide) (Chk.mk (show _ ∧ _ from ?_) (Chk.mk (show _ ∧ _ from ⟨by decide, ?_⟩) ⟨⟨(y / 2, n + y % 2), ?_⟩, ?_, ?_⟩))
        · show _ ≤ n + y.tmod 2 ∧ n + y.tmod 2 ≤ _
          omega
        · show _ ≤ y.tdiv 2 ∧ y.tdiv 2 ≤ _
          omega
        · have e3 : (y / 2).toNat = y.toNat / 2 := by omega
          simp only [e3]
          omega
        · refine ⟨?_, ?_, rfl, rfl, rfl⟩ <;> repeat' (first | exact trivial | exact rfl | refine And.intro ?_ ?_)
          · exact e2
          · show n + y.tmod 2 = n + y % 2
            rw [e1]
        · show (y / 2).toNat < y.toNat
          omega
      · have h : ¬ (0 : Int) < y := of_decide_eq_false h
        refine ⟨.inl rfl, end_plain ⟨rfl, ?_⟩ rfl rfl⟩
        show n = sizeN x.toNat
        rw [show y.toNat = 0 by omega] at h3
        simp [sizeN] at h3
        omega
  · cases h


theorem g38 {l : List (Nat × Ct)} (g : Good P T l) : Good P T ((38, c38) :: l) := g.add (k38 g) (plainCt_mono _) (body_of Try.func38 (c := code Try.f38) rfl (by decide))
end Go.X.Gr
end

section
set_option linter.unusedVariables false
set_option linter.unusedSimpArgs false
set_option linter.unusedSectionVars false
/- Grade: which point should be measured, by the grades that are left. -/
set_option linter.unusedVariables false
set_option linter.unusedSimpArgs false
set_option maxRecDepth 10000
set_option maxHeartbeats 4000000
namespace Go.X.Gr
open Go Go.Proofs Go.X

theorem sizeN_eq (n : Nat) : sizeN n = n % 2 + sizeN (n / 2) := by
  rcases Nat.eq_zero_or_pos n with rfl | h
  · simp [sizeN]
  · exact sizeN_pos h
theorem sizeN_pop {n : Nat} (h : n < 32) : sizeN n = popV n := by
  rw [sizeN_eq n, sizeN_eq (n / 2), sizeN_eq (n / 2 / 2), sizeN_eq (n / 2 / 2 / 2), sizeN_eq (n / 2 / 2 / 2 / 2)]
  have : n / 2 / 2 / 2 / 2 / 2 = 0 := by omega
  rw [this, show sizeN 0 = 0 by simp [sizeN]]
  unfold popV
  omega
theorem sizeN_mono {a b : Nat} (ha : a < 32) (hb : b < 32) (h : a &&& b = a) : sizeN a ≤ sizeN b := by
  rw [sizeN_pop ha, sizeN_pop hb]
  have key : ∀ a : _root_.Fin 32, ∀ b : _root_.Fin 32, a.1 &&& b.1 = a.1 → popV a.1 ≤ popV b.1 := by decide +kernel
  exact key ⟨a, ha⟩ ⟨b, hb⟩ h
theorem sub_bits {a b : Nat} (h : ∀ k, a.testBit k = true → b.testBit k = true) : a &&& b = a := by
  refine Nat.eq_of_testBit_eq fun k => ?_
  rw [Nat.testBit_and]
  cases h1 : a.testBit k with
  | false => rfl
  | true => rw [h k h1]; rfl
theorem foldMax {α : Type} (f : α → Nat) : ∀ (l : List α) (a : Nat), a ≤ l.foldl (fun m x => max m (f x)) a ∧ (∀ x ∈ l, f x ≤ l.foldl (fun m x => max m (f x)) a) ∧ (l.foldl (fun m x => max m (f x)) a = a ∨ ∃ x ∈ l, l.foldl (fun m x => max m (f x)) a = f x)
  | [], a => ⟨Nat.le_refl _, fun x hx => (by cases hx), .inl rfl⟩
  | y :: r, a => by
    obtain ⟨h1, h2, h3⟩ := foldMax f r (max a (f y))
    rw [List.foldl_cons]
    refine ⟨by omega, fun x hx => ?_, ?_⟩
    · rcases List.mem_cons.1 hx with rfl | hx
      · omega
      · exact h2 x hx
    · rcases h3 with h3 | ⟨x, hx, h3⟩
      · rcases Nat.le_total a (f y) with h | h
        · exact .inr ⟨y, List.mem_cons_self, by omega⟩
        · exact .inl (by omega)
      · exact .inr ⟨x, List.mem_cons_of_mem _ hx, h3⟩
theorem updA_nodup {κ ν : Type} [DecidableEq κ] {m : List (κ × ν)} {k : κ} {v : ν} (h : (m.map (·.1)).Nodup) : ((updA m k v).map (·.1)).Nodup := by
  by_cases hk : k ∈ m.map (·.1)
  · obtain ⟨⟨k', v0⟩, hm, rfl⟩ := List.mem_map.1 hk
    obtain ⟨a, b, e1, e2⟩ := updA_old (v := v) h hm
    rw [e2]
    rw [e1] at h
    simpa using h
  · rw [updA_new hk, List.map_append, List.nodup_append]
    refine ⟨h, by simp, fun x hx y hy => ?_⟩
    simp at hy
    rintro rfl
    exact hk (hy ▸ hx)
theorem lookA_updA {κ ν : Type} [DecidableEq κ] {k : κ} {v : ν} {x : κ} : ∀ {m : List (κ × ν)}, lookA (updA m k v) x = if k = x then some v else lookA m x
  | [] => by unfold updA lookA; rfl
  | p :: r => by
    unfold updA
    by_cases hp : p.1 = k
    · rw [if_pos hp]
      unfold lookA
      by_cases hx : k = x
      · rw [if_pos hx, if_pos hx]
      · rw [if_neg hx, if_neg hx, if_neg (by rw [hp]; exact hx)]
    · rw [if_neg hp]
      unfold lookA
      rw [lookA_updA]
      by_cases hpx : p.1 = x
      · rw [if_pos hpx, if_pos hpx, if_neg (by rintro rfl; exact hp hpx)]
      · rw [if_neg hpx, if_neg hpx]
/-- What the sets hold after some blocks. -/
structure AskI (L : List (Int × Int)) (q : Int) (l : List B5) (c : List (Int × Nat)) : Prop where
  nd : (c.map (·.1)).Nodup
  keys : ∀ k, k ∈ c.map (·.1) ↔ ∃ b ∈ l, fun5 (ptV q) b = k
  bit : ∀ k j, (lookU c k).testBit j = true ↔ ∃ b ∈ l, fun5 (ptV q) b = k ∧ ofL L (lk5 lkP b) = j
theorem askI_fold {L : List (Int × Int)} {q : Int} : ∀ (r l : List B5) (c : List (Int × Nat)), AskI L q l c → AskI L q (l ++ r) (r.foldl (fun c b => (f5 (fAsk L q) c b).1) c)
  | [], l, c, h => by rw [List.append_nil]; exact h
  | x :: r, l, c, h => by
    rw [List.foldl_cons, show l ++ x :: r = (l ++ [x]) ++ r by simp]
    refine askI_fold r _ _ ?_
    have e0 : (f5 (fAsk L q) c x).1 = updA c (fun5 (ptV q) x) (lookU c (fun5 (ptV q) x) ||| 2 ^ ofL L (lk5 lkP x)) := rfl
    rw [e0]
    refine ⟨updA_nodup h.nd, fun k => ?_, fun k j => ?_⟩
    · rw [updA_keys, h.keys]
      constructor
      · rintro (⟨b, hb, e⟩ | rfl)
        · exact ⟨b, List.mem_append_left _ hb, e⟩
        · exact ⟨x, by simp, rfl⟩
      · rintro ⟨b, hb, e⟩
        rcases List.mem_append.1 hb with hb | hb
        · exact .inl ⟨b, hb, e⟩
        · simp at hb
          subst hb
          exact .inr e.symm
    · have e2 : lookU (updA c (fun5 (ptV q) x) (lookU c (fun5 (ptV q) x) ||| 2 ^ ofL L (lk5 lkP x))) k = if fun5 (ptV q) x = k then lookU c (fun5 (ptV q) x) ||| 2 ^ ofL L (lk5 lkP x) else lookU c k := by
        unfold lookU
        rw [lookA_updA]
        by_cases hx : fun5 (ptV q) x = k
        · rw [if_pos hx, if_pos hx]
        · rw [if_neg hx, if_neg hx]
      rw [e2]
      by_cases hx : fun5 (ptV q) x = k
      · rw [if_pos hx, Nat.testBit_or, Bool.or_eq_true, h.bit, Nat.testBit_two_pow, decide_eq_true_eq]
        constructor
        · rintro (⟨b, hb, e⟩ | e)
          · exact ⟨b, List.mem_append_left _ hb, by rw [← hx]; exact e⟩
          · exact ⟨x, by simp, hx, e⟩
        · rintro ⟨b, hb, e, e'⟩
          rcases List.mem_append.1 hb with hb | hb
          · exact .inl ⟨b, hb, by rw [e, hx], e'⟩
          · simp at hb
            subst hb
            exact .inr e'
      · rw [if_neg hx, h.bit]
        constructor
        · rintro ⟨b, hb, e⟩
          exact ⟨b, List.mem_append_left _ hb, e⟩
        · rintro ⟨b, hb, e, e'⟩
          rcases List.mem_append.1 hb with hb | hb
          · exact ⟨b, hb, e, e'⟩
          · simp at hb
            subst hb
            exact absurd e hx
theorem askI_all (L : List (Int × Int)) (q : Int) (g : Pts) : AskI L q (blk g) (askM L q g) := by
  unfold askM
  rw [on0_blk, foldS_true (fun _ _ => rfl)]
  exact askI_fold (blk g) [] [] ⟨by simp, fun k => by simp, fun k j => by simp [lookU, lookA]⟩
/-- The most grades that are left, whatever a point is measured to be. -/
def mostI (g : Pts) (L : List (Int × Int)) (q : Int) : Nat := (rangeI (loP g q) (hiP g q)).foldl (fun m n => max m (sizeN (resG (atP g q n) L true))) 0
theorem ask_most {g : Pts} {L : List (Int × Int)} (h : gradeOk g L = true) {q : Int} (hq : 0 ≤ q ∧ q < 5) : askV (lims3 L) q g = mostI g L q := by
  have hI := askI_all (lims3 L) q g
  have hmem : ∀ k s, (k, s) ∈ askM (lims3 L) q g → (loP g q ≤ k ∧ k ≤ hiP g q) ∧ popV s = sizeN (resG (atP g q k) L true) := by
    intro k s hm
    obtain ⟨b, hb, e⟩ := (hI.keys k).1 (List.mem_map.2 ⟨_, hm, rfl⟩)
    have hb' := mem_blk.1 hb
    have hk : loP g q ≤ k ∧ k ≤ hiP g q := e ▸ okB_pt hq hb'
    refine ⟨hk, ?_⟩
    have hok' := gradeOk_at h hq hk
    have hh' : hasB (atP g q k) = true := hasB_iff.2 ⟨b, (okB_at hq hk).2 ⟨hb', e⟩⟩
    have hs : s = setV (lims3 L) (atP g q k) := by
      refine Nat.eq_of_testBit_eq fun j => ?_
      have : lookU (askM (lims3 L) q g) k = s := by unfold lookU; rw [lookA_of_mem hI.nd hm]
      rw [← this, Bool.eq_iff_iff, hI.bit, setV_bit]
      constructor
      · rintro ⟨b, hb, e, e'⟩
        exact ⟨b, (okB_at hq hk).2 ⟨mem_blk.1 hb, e⟩, e'⟩
      · rintro ⟨b, hb, e'⟩
        obtain ⟨h1, h2⟩ := (okB_at hq hk).1 hb
        exact ⟨b, mem_blk.2 h1, h2, e'⟩
    rw [resG_ok hok' hh', ← hs, sizeN_pop]
    rw [hs]
    exact setV_lt (gradeOk_b hok').1 (gradeOk_b h).2.2
  obtain ⟨_, a2, a3⟩ := foldMax (fun p : Int × Nat => popV p.2) (askM (lims3 L) q g) 0
  obtain ⟨_, b2, b3⟩ := foldMax (fun n => sizeN (resG (atP g q n) L true)) (rangeI (loP g q) (hiP g q)) 0
  have a2 : ∀ x ∈ askM (lims3 L) q g, popV x.2 ≤ askV (lims3 L) q g := a2
  have a3 : askV (lims3 L) q g = 0 ∨ ∃ x ∈ askM (lims3 L) q g, askV (lims3 L) q g = popV x.2 := a3
  have b2 : ∀ x ∈ rangeI (loP g q) (hiP g q), sizeN (resG (atP g q x) L true) ≤ mostI g L q := b2
  have b3 : mostI g L q = 0 ∨ ∃ x ∈ rangeI (loP g q) (hiP g q), mostI g L q = sizeN (resG (atP g q x) L true) := b3
  refine Nat.le_antisymm ?_ ?_
  · rcases a3 with a3 | ⟨⟨k, s⟩, hm, a3⟩
    · omega
    · obtain ⟨hk, e⟩ := hmem k s hm
      have := b2 k (rangeI_mem.2 hk)
      have e : popV (k, s).2 = sizeN (resG (atP g q k) L true) := e
      omega
  · rcases b3 with b3 | ⟨n, hn, b3⟩
    · omega
    · have hk := rangeI_mem.1 hn
      cases hh : hasB (atP g q n) with
      | false =>
        rw [resG, errT_ok (gradeOk_at h hq hk), hh] at b3
        have : sizeN (if (if false = true then (0 : Int) else 10) = 0 then setV (lims3 L) (atP g q n) else 0) = 0 := by simp [sizeN]
        omega
      | true =>
        obtain ⟨b, hb⟩ := hasB_iff.1 hh
        obtain ⟨h1, h2⟩ := (okB_at hq hk).1 hb
        obtain ⟨⟨k, s⟩, hm, e⟩ := List.mem_map.1 ((hI.keys n).2 ⟨b, mem_blk.2 h1, h2⟩)
        have e : k = n := e
        subst e
        have := a2 _ hm
        have := (hmem k s hm).2
        simp only at *
        omega
/-- No more grades are left than there are, and one at least. -/
theorem most_le {g : Pts} {L : List (Int × Int)} (h : gradeOk g L = true) (hh : hasB g = true) {q : Int} (hq : 0 ≤ q ∧ q < 5) : 1 ≤ mostI g L q ∧ mostI g L q ≤ sizeN (setV (lims3 L) g) := by
  obtain ⟨_, b2, b3⟩ := foldMax (fun n => sizeN (resG (atP g q n) L true)) (rangeI (loP g q) (hiP g q)) 0
  have b2 : ∀ x ∈ rangeI (loP g q) (hiP g q), sizeN (resG (atP g q x) L true) ≤ mostI g L q := b2
  have b3 : mostI g L q = 0 ∨ ∃ x ∈ rangeI (loP g q) (hiP g q), mostI g L q = sizeN (resG (atP g q x) L true) := b3
  have hS32 := setV_lt (gradeOk_b h).1 (gradeOk_b h).2.2
  constructor
  · obtain ⟨b, hb⟩ := hasB_iff.1 hh
    have hk := okB_pt hq hb
    have hb' : OkB (atP g q (fun5 (ptV q) b)) b := (okB_at hq hk).2 ⟨hb, rfl⟩
    have hok' := gradeOk_at h hq hk
    have := b2 _ (rangeI_mem.2 hk)
    rw [resG_ok hok' (hasB_iff.2 ⟨b, hb'⟩)] at this
    have hbit : (setV (lims3 L) (atP g q (fun5 (ptV q) b))).testBit (ofL (lims3 L) (lk5 lkP b)) = true := setV_bit.2 ⟨b, hb', rfl⟩
    have h32 := setV_lt (gradeOk_b hok').1 (gradeOk_b h).2.2
    have hne : 1 ≤ sizeN (setV (lims3 L) (atP g q (fun5 (ptV q) b))) := by
      rw [sizeN_pop h32]
      have hp : 0 < setV (lims3 L) (atP g q (fun5 (ptV q) b)) := Nat.pos_of_ne_zero fun h0 => by rw [h0] at hbit; simp at hbit
      have key : ∀ a : _root_.Fin 32, 0 < a.1 → 1 ≤ popV a.1 := by decide +kernel
      exact key ⟨_, h32⟩ hp
    omega
  · rcases b3 with b3 | ⟨n, hn, b3⟩
    · omega
    · rw [b3]
      have hk := rangeI_mem.1 hn
      have hok' := gradeOk_at h hq hk
      cases hh' : hasB (atP g q n) with
      | false =>
        have : resG (atP g q n) L true = 0 := by rw [resG, errT_ok hok', hh']; rfl
        rw [this]
        simp [sizeN]
      | true =>
        rw [resG_ok hok' hh']
        refine sizeN_mono (setV_lt (gradeOk_b hok').1 (gradeOk_b h).2.2) hS32 (sub_bits fun k hk' => ?_)
        obtain ⟨b, hb, e⟩ := setV_bit.1 hk'
        exact setV_bit.2 ⟨b, ((okB_at hq hk).1 hb).1, e⟩
/-- The best point is the first one of those that leave the fewest. -/
theorem bestA_ok (A : Int → Nat) : ∃ z : Int, (bestA A 5).1 = z ∧ 0 ≤ z ∧ z < 5 ∧ (bestA A 5).2 = (A z : Int) ∧ ∀ p : Int, 0 ≤ p → p < 5 → A z ≤ A p ∧ (p < z → A z < A p) := by
  have key : ∀ n : Nat, 1 ≤ n → ∃ z : Int, (bestA A n).1 = z ∧ 0 ≤ z ∧ z < n ∧ (bestA A n).2 = (A z : Int) ∧ ∀ p : Int, 0 ≤ p → p < n → A z ≤ A p ∧ (p < z → A z < A p) := by
    intro n hn
    induction n with
    | zero => omega
    | succ n ih =>
      have e : bestA A (n + 1) = stepA (A n) n (bestA A n) := rfl
      rw [e]
      rcases Nat.eq_zero_or_pos n with rfl | hpos
      · have e0 : stepA (A ((0 : Nat) : Int)) 0 (bestA A 0) = (((0 : Nat) : Int), ((A ((0 : Nat) : Int) : Nat) : Int)) := by unfold stepA; rw [if_pos (.inl rfl)]
        rw [e0]
        refine ⟨0, rfl, by omega, by omega, rfl, fun p h1 h2 => ?_⟩
        obtain rfl : p = 0 := by omega
        exact ⟨Nat.le_refl _, fun h => by omega⟩
      · obtain ⟨z, h1, h2, h3, h4, h5⟩ := ih hpos
        unfold stepA
        by_cases hlt : A n < A z
        · rw [if_pos (.inr (by rw [h4]; omega))]
          refine ⟨n, rfl, by omega, by omega, rfl, fun p hp1 hp2 => ?_⟩
          rcases (show p = (n : Int) ∨ p < n by omega) with rfl | hp
          · exact ⟨Nat.le_refl _, fun h => by omega⟩
          · have := h5 p hp1 hp
            omega
        · rw [if_neg (by rw [h4]; omega)]
          refine ⟨z, h1, h2, by omega, h4, fun p hp1 hp2 => ?_⟩
          rcases (show p = (n : Int) ∨ p < n by omega) with rfl | hp
          · exact ⟨by omega, fun h => by omega⟩
          · exact h5 p hp1 hp
  exact key 5 (by decide)
end Go.X.Gr
end

section
set_option linter.unusedVariables false
set_option linter.unusedSimpArgs false
set_option linter.unusedSectionVars false
/- Grade: how many grades are left at most, whatever a point is measured to be: the walk. -/
set_option linter.unusedVariables false
set_option linter.unusedSimpArgs false
set_option maxRecDepth 10000
set_option maxHeartbeats 4000000
namespace Go.X.Gr
open Go Go.Proofs Go.X

def c42 : Ct := fun fr args H => match args with
  | [.si .i64 q, .sp gx 0] => (match H gx with
    | some (.cells 27 gl) => gradeK H gl fun i1 g n get =>
      some ⟨some (Lims n get ∧ n ≤ 1000000 ∧ 0 ≤ q ∧ q < 5 ∧ gradeOk g (limsL n get) = true), none, .si .i64 ((mostI g (limsL n get) q : Nat) : Int), []⟩
    | _ => none)
  | _ => none
theorem c42_mono : CtMono c42 := by
  intro fr args H H' out hH h
  unfold c42 at h ⊢
  split at h
  · split at h
    · rename_i e1
      simp only [hH _ _ e1]
      exact gradeK_mono hH h
    · cases h
  · cases h
theorem b42 : Body P 42 := body_of Try.func42 (c := code Try.f42) rfl (by decide)
theorem k42 {l : List (Nat × Ct)} (g0 : Good P T l) : COk P 42 c42 := by
  have g := g37 (g21 (g38 good0))
  refine cok (C := tabC _) g.ok Try.func42 (c := code Try.f42) rfl fun fr args H out h hp => ?_
  unfold c42 at h
  split at h
  case h_2 => cases h
  rename_i q gx
  split at h
  case h_2 => cases h
  rename_i gl e4
  obtain ⟨i1, p, n, get, rfl, e1, h⟩ := gradeK_some h
  cases h
  obtain ⟨hs, hn, hq1, hq2, hok⟩ : Lims n get ∧ n ≤ 1000000 ∧ 0 ≤ q ∧ q < 5 ∧ gradeOk p (limsL n get) = true := hp
  have hh : Hand H [(i1, .ro 2 n fun i => liC (liAt get i)), (gx, .cells 27 (grA 0 p))] := hand_mk
    ⟨sliceOf_piece e1 fun i hi => by rw [hs i hi]; rfl, e4, trivial⟩
    (by repeat' (first | exact trivial | (intro i hi; exact ⟨trivial, trivial, trivial⟩) | refine And.intro ?_ ?_ | exact (by decide : (0 : Nat) < 2) | exact (by decide : (1 : Nat) < 2))) rfl
  refine ⟨_, [.si .i64 q, .sp 1 0], [(0, .ro 2 n fun i => liC (liAt get i)), (1, .cells 27 (grA 0 p))], 2, [], rfl, rfl, Nat.le_of_ble_eq_true rfl, hh, rfl, rfl, fun G hG => ?_⟩
  unfold limsL at hok ⊢
  generalize liAt get = L at hok ⊢
  have hlim : Lims n (fun i => liC (L i)) ∧ n ≤ 1000000 := ⟨lims_i _ _, hn⟩
  obtain ⟨LL, hLL⟩ : ∃ LL, (List.range n).map L = LL := ⟨_, rfl⟩
  rw [hLL] at hok
  rcases (show q = 0 ∨ q = 1 ∨ q = 2 ∨ q = 3 ∨ q = 4 by omega) with rfl | rfl | rfl | rfl | rfl
  · refine Chk.mk ⟨by decide, by decide⟩ ?_
    refine loop_okR (g.ok _ _ _) 2 (fun x : {m : Int × Nat // (loP p 0 ≤ m.1 ∧ m.1 ≤ hiP p 0 + 1) ∧ m.2 ≤ 1000 ∧ (rangeI m.1 (hiP p 0)).foldl (fun m n => max m (sizeN (resG (atP p 0 n) LL true))) m.2 = mostI p LL 0} =>
      ⟨[(0, ⟨[], .si .i64 0⟩), (1, ⟨[], .sp 1 0⟩), (4, ⟨[], .si .i64 ((x.1.2 : Nat) : Int)⟩), (5, ⟨[], .si .i64 x.1.1⟩)], [],
        [(1, .cells 27 (grA 0 p)), (0, .ro 2 n fun i => liC (L i))], 2, []⟩) (fun x => (hiP p 0 + 1 - x.1.1).toNat) hG ⟨(loP p 0, 0), ⟨Int.le_refl _, by have := gradeOk_span hok (q := 0) (by decide); simp only; omega⟩, by show 0 ≤ 1000; decide, rfl⟩ (fun j => j) ?_ ?_
    · refine ⟨?_, ?_, rfl, rfl, rfl, rfl, trivial⟩ <;> repeat' (first | exact trivial | exact rfl | (intro i hi; exact ⟨rfl, rfl⟩) | refine And.intro ?_ ?_)
    rintro ⟨⟨m, w⟩, ⟨hm1, hm2⟩, hw, hV⟩
    simp only at hm1 hm2 hw hV
    have hsp := gradeOk_span hok (q := 0) (by decide)
    show exec _ _ ⟨[(0, ⟨[], .si .i64 0⟩), (1, ⟨[], .sp 1 0⟩), (4, ⟨[], .si .i64 ((w : Nat) : Int)⟩), (5, ⟨[], .si .i64 m⟩)], [],
        [(1, .cells 27 (grA 0 p)), (0, .ro 2 n fun i => liC (L i))], 2, []⟩ _
    refine Chk.mk ⟨by decide, by decide⟩ ?_
    refine Br.mk (fun h => ?_) (fun h => ?_)
    · have hmh : m ≤ hiP p 0 := of_decide_eq_true h
      have hmq : loP p 0 ≤ m ∧ m ≤ hiP p 0 := ⟨hm1, hmh⟩
      refine Chk.mk ⟨lims_i _ _, by decide, by decide⟩ (Chk.mk hlim ?_)
      have hok' : gradeOk (atP p 0 m) LL = true := gradeOk_at hok (by decide) hmq
      have f3 : errT (atP p 0 m) LL true = if hasB (atP p 0 m) = true then 0 else 10 := errT_ok hok'
      have hS32 : resG (atP p 0 m) LL true < 32 := by
        rw [resG]
        split
        · exact setV_lt (gradeOk_b hok').1 (gradeOk_b hok).2.2
        · decide
      refine Br.mk (fun h2 => ?_) (fun _ => ?_)
      · have h2 : ((!decide (errT (atP p 0 m) ((List.range n).map L) true = 0)) && (!decide (errT (atP p 0 m) ((List.range n).map L) true = 10))) = true := h2
        rw [hLL, f3] at h2
        generalize hasB (atP p 0 m) = u at h2
        cases u <;> cases h2
      refine Chk.mk (by
        show ((resG (atP p 0 m) ((List.range n).map L) true : Nat) : Int) < 4611686018427387904
        rw [hLL]
        omega) ?_
      refine Chk.mk (show InK .i64 (m + 1) from ⟨by show (-9223372036854775808 : Int) ≤ _; omega, by show _ ≤ (9223372036854775807 : Int); omega⟩) ?_
      refine ⟨⟨(m + 1, max w (sizeN (resG (atP p 0 m) ((List.range n).map L) true))), ⟨by simp only; omega, by simp only; omega⟩, by
          have := sizeN_le (resG (atP p 0 m) LL true)
          rw [hLL]
          simp only
          omega, by
          rw [← hV, rangeI_cons hmh, List.foldl_cons, hLL]⟩, (fun j => j), ?_, by show (hiP p 0 + 1 - (m + 1)).toNat < (hiP p 0 + 1 - m).toNat; omega⟩
      refine ⟨⟨⟨⟨rfl, rfl⟩, rfl⟩, ⟨⟨rfl, rfl⟩, rfl⟩, ⟨⟨rfl, ?_⟩, rfl⟩, ⟨⟨rfl, rfl⟩, rfl⟩, trivial⟩, ?_, rfl, rfl, rfl, rfl, trivial⟩
      · show (max ((w : Nat) : Int) ((sizeN ((resG (atP p 0 m) ((List.range n).map L) true : Nat) : Int).toNat : Nat) : Int)) = (((max w (sizeN (resG (atP p 0 m) ((List.range n).map L) true)) : Nat)) : Int)
        rw [Int.toNat_natCast]
        omega
      · repeat' (first | exact trivial | exact rfl | (intro i hi; exact ⟨rfl, rfl⟩) | refine And.intro ?_ ?_)
    · have hmh : hiP p 0 < m := by
        have h : decide (m ≤ hiP p 0) = false := h
        have := of_decide_eq_false h
        omega
      rw [rangeI_nil hmh] at hV
      have hV : w = mostI p LL 0 := hV
      exact ⟨.inl rfl, end_noid ⟨rfl, (by
        show ((w : Nat) : Int) = ((mostI p ((List.range n).map L) 0 : Nat) : Int)
        rw [hLL, hV])⟩ rfl rfl (by repeat' (first | exact trivial | exact rfl | (intro i hi; exact ⟨rfl, rfl⟩) | refine And.intro ?_ ?_))⟩
  · refine Chk.mk ⟨by decide, by decide⟩ ?_
    refine loop_okR (g.ok _ _ _) 2 (fun x : {m : Int × Nat // (loP p 1 ≤ m.1 ∧ m.1 ≤ hiP p 1 + 1) ∧ m.2 ≤ 1000 ∧ (rangeI m.1 (hiP p 1)).foldl (fun m n => max m (sizeN (resG (atP p 1 n) LL true))) m.2 = mostI p LL 1} =>
      ⟨[(0, ⟨[], .si .i64 1⟩), (1, ⟨[], .sp 1 0⟩), (4, ⟨[], .si .i64 ((x.1.2 : Nat) : Int)⟩), (5, ⟨[], .si .i64 x.1.1⟩)], [],
        [(1, .cells 27 (grA 0 p)), (0, .ro 2 n fun i => liC (L i))], 2, []⟩) (fun x => (hiP p 1 + 1 - x.1.1).toNat) hG ⟨(loP p 1, 0), ⟨Int.le_refl _, by have := gradeOk_span hok (q := 1) (by decide); simp only; omega⟩, by show 0 ≤ 1000; decide, rfl⟩ (fun j => j) ?_ ?_
    · refine ⟨?_, ?_, rfl, rfl, rfl, rfl, trivial⟩ <;> repeat' (first | exact trivial | exact rfl | (intro i hi; exact ⟨rfl, rfl⟩) | refine And.intro ?_ ?_)
    rintro ⟨⟨m, w⟩, ⟨hm1, hm2⟩, hw, hV⟩
    simp only at hm1 hm2 hw hV
    have hsp := gradeOk_span hok (q := 1) (by decide)
    show exec _ _ ⟨[(0, ⟨[], .si .i64 1⟩), (1, ⟨[], .sp 1 0⟩), (4, ⟨[], .si .i64 ((w : Nat) : Int)⟩), (5, ⟨[], .si .i64 m⟩)], [],
        [(1, .cells 27 (grA 0 p)), (0, .ro 2 n fun i => liC (L i))], 2, []⟩ _
    refine Chk.mk ⟨by decide, by decide⟩ ?_
    refine Br.mk (fun h => ?_) (fun h => ?_)
    · have hmh : m ≤ hiP p 1 := of_decide_eq_true h
      have hmq : loP p 1 ≤ m ∧ m ≤ hiP p 1 := ⟨hm1, hmh⟩
      refine Chk.mk ⟨lims_i _ _, by decide, by decide⟩ (Chk.mk hlim ?_)
      have hok' : gradeOk (atP p 1 m) LL = true := gradeOk_at hok (by decide) hmq
      have f3 : errT (atP p 1 m) LL true = if hasB (atP p 1 m) = true then 0 else 10 := errT_ok hok'
      have hS32 : resG (atP p 1 m) LL true < 32 := by
        rw [resG]
        split
        · exact setV_lt (gradeOk_b hok').1 (gradeOk_b hok).2.2
        · decide
      refine Br.mk (fun h2 => ?_) (fun _ => ?_)
      · have h2 : ((!decide (errT (atP p 1 m) ((List.range n).map L) true = 0)) && (!decide (errT (atP p 1 m) ((List.range n).map L) true = 10))) = true := h2
        rw [hLL, f3] at h2
        generalize hasB (atP p 1 m) = u at h2
        cases u <;> cases h2
      refine Chk.mk (by
        show ((resG (atP p 1 m) ((List.range n).map L) true : Nat) : Int) < 4611686018427387904
        rw [hLL]
        omega) ?_
      refine Chk.mk (show InK .i64 (m + 1) from ⟨by show (-9223372036854775808 : Int) ≤ _; omega, by show _ ≤ (9223372036854775807 : Int); omega⟩) ?_
      refine ⟨⟨(m + 1, max w (sizeN (resG (atP p 1 m) ((List.range n).map L) true))), ⟨by simp only; omega, by simp only; omega⟩, by
          have := sizeN_le (resG (atP p 1 m) LL true)
          rw [hLL]
          simp only
          omega, by
          rw [← hV, rangeI_cons hmh, List.foldl_cons, hLL]⟩, (fun j => j), ?_, by show (hiP p 1 + 1 - (m + 1)).toNat < (hiP p 1 + 1 - m).toNat; omega⟩
      refine ⟨⟨⟨⟨rfl, rfl⟩, rfl⟩, ⟨⟨rfl, rfl⟩, rfl⟩, ⟨⟨rfl, ?_⟩, rfl⟩, ⟨⟨rfl, rfl⟩, rfl⟩, trivial⟩, ?_, rfl, rfl, rfl, rfl, trivial⟩
      · show (max ((w : Nat) : Int) ((sizeN ((resG (atP p 1 m) ((List.range n).map L) true : Nat) : Int).toNat : Nat) : Int)) = (((max w (sizeN (resG (atP p 1 m) ((List.range n).map L) true)) : Nat)) : Int)
        rw [Int.toNat_natCast]
        omega
      · repeat' (first | exact trivial | exact rfl | (intro i hi; exact ⟨rfl, rfl⟩) | refine And.intro ?_ ?_)
    · have hmh : hiP p 1 < m := by
        have h : decide (m ≤ hiP p 1) = false := h
        have := of_decide_eq_false h
        omega
      rw [rangeI_nil hmh] at hV
      have hV : w = mostI p LL 1 := hV
      exact ⟨.inl rfl, end_noid ⟨rfl, (by
        show ((w : Nat) : Int) = ((mostI p ((List.range n).map L) 1 : Nat) : Int)
        rw [hLL, hV])⟩ rfl rfl (by repeat' (first | exact trivial | exact rfl | (intro i hi; exact ⟨rfl, rfl⟩) | refine And.intro ?_ ?_))⟩
  · refine Chk.mk ⟨by decide, by decide⟩ ?_
    refine loop_okR (g.ok _ _ _) 2 (fun x : {m : Int × Nat // (loP p 2 ≤ m.1 ∧ m.1 ≤ hiP p 2 + 1) ∧ m.2 ≤ 1000 ∧ (rangeI m.1 (hiP p 2)).foldl (fun m n => max m (sizeN (resG (atP p 2 n) LL true))) m.2 = mostI p LL 2} =>
      ⟨[(0, ⟨[], .si .i64 2⟩), (1, ⟨[], .sp 1 0⟩), (4, ⟨[], .si .i64 ((x.1.2 : Nat) : Int)⟩), (5, ⟨[], .si .i64 x.1.1⟩)], [],
        [(1, .cells 27 (grA 0 p)), (0, .ro 2 n fun i => liC (L i))], 2, []⟩) (fun x => (hiP p 2 + 1 - x.1.1).toNat) hG ⟨(loP p 2, 0), ⟨Int.le_refl _, by have := gradeOk_span hok (q := 2) (by decide); simp only; omega⟩, by show 0 ≤ 1000; decide, rfl⟩ (fun j => j) ?_ ?_
    · refine ⟨?_, ?_, rfl, rfl, rfl, rfl, trivial⟩ <;> repeat' (first | exact trivial | exact rfl | (intro i hi; exact ⟨rfl, rfl⟩) | refine And.intro ?_ ?_)
    rintro ⟨⟨m, w⟩, ⟨hm1, hm2⟩, hw, hV⟩
    simp only at hm1 hm2 hw hV
    have hsp := gradeOk_span hok (q := 2) (by decide)
    show exec _ _ ⟨[(0, ⟨[], .si .i64 2⟩), (1, ⟨[], .sp 1 0⟩), (4, ⟨[], .si .i64 ((w : Nat) : Int)⟩), (5, ⟨[], .si .i64 m⟩)], [],
        [(1, .cells 27 (grA 0 p)), (0, .ro 2 n fun i => liC (L i))], 2, []⟩ _
    refine Chk.mk ⟨by decide, by decide⟩ ?_
    refine Br.mk (fun h => ?_) (fun h => ?_)
    · have hmh : m ≤ hiP p 2 := of_decide_eq_true h
      have hmq : loP p 2 ≤ m ∧ m ≤ hiP p 2 := ⟨hm1, hmh⟩
      refine Chk.mk ⟨lims_i _ _, by decide, by decide⟩ (Chk.mk hlim ?_)
      have hok' : gradeOk (atP p 2 m) LL = true := gradeOk_at hok (by decide) hmq
      have f3 : errT (atP p 2 m) LL true = if hasB (atP p 2 m) = true then 0 else 10 := errT_ok hok'
      have hS32 : resG (atP p 2 m) LL true < 32 := by
        rw [resG]
        split
        · exact setV_lt (gradeOk_b hok').1 (gradeOk_b hok).2.2
        · decide
      refine Br.mk (fun h2 => ?_) (fun _ => ?_)
      · have h2 : ((!decide (errT (atP p 2 m) ((List.range n).map L) true = 0)) && (!decide (errT (atP p 2 m) ((List.range n).map L) true = 10))) = true := h2
        rw [hLL, f3] at h2
        generalize hasB (atP p 2 m) = u at h2
        cases u <;> cases h2
      refine Chk.mk (by
        show ((resG (atP p 2 m) ((List.range n).map L) true : Nat) : Int) < 4611686018427387904
        rw [hLL]
        omega) ?_
      refine Chk.mk (show InK .i64 (m + 1) from ⟨by show (-9223372036854775808 : Int) ≤ _; omega, by show _ ≤ (9223372036854775807 : Int); omega⟩) ?_
      refine ⟨⟨(m + 1, max w (sizeN (resG (atP p 2 m) ((List.range n).map L) true))), ⟨by simp only; omega, by simp only; omega⟩, by
          have := sizeN_le (resG (atP p 2 m) LL true)
          rw [hLL]
          simp only
          omega, by
          rw [← hV, rangeI_cons hmh, List.foldl_cons, hLL]⟩, (fun j => j), ?_, by show (hiP p 2 + 1 - (m + 1)).toNat < (hiP p 2 + 1 - m).toNat; omega⟩
      refine ⟨⟨⟨⟨rfl, rfl⟩, rfl⟩, ⟨⟨rfl, rfl⟩, rfl⟩, ⟨⟨rfl, ?_⟩, rfl⟩, ⟨⟨rfl, rfl⟩, rfl⟩, trivial⟩, ?_, rfl, rfl, rfl, rfl, trivial⟩
      · show (max ((w : Nat) : Int) ((sizeN ((resG (atP p 2 m) ((List.range n).map L) true : Nat) : Int).toNat : Nat) : Int)) = (((max w (sizeN (resG (atP p 2 m) ((List.range n).map L) true)) : Nat)) : Int)
        rw [Int.toNat_natCast]
        omega
      · repeat' (first | exact trivial | exact rfl | (intro i hi; exact ⟨rfl, rfl⟩) | refine And.intro ?_ ?_)
    · have hmh : hiP p 2 < m := by
        have h : decide (m ≤ hiP p 2) = false := h
        have := of_decide_eq_false h
        omega
      rw [rangeI_nil hmh] at hV
      have hV : w = mostI p LL 2 := hV
      exact ⟨.inl rfl, end_noid ⟨rfl, (by
        show ((w : Nat) : Int) = ((mostI p ((List.range n).map L) 2 : Nat) : Int)
        rw [hLL, hV])⟩ rfl rfl (by repeat' (first | exact trivial | exact rfl | (intro i hi; exact ⟨rfl, rfl⟩) | refine And.intro ?_ ?_))⟩
  · refine Chk.mk ⟨by decide, by decide⟩ ?_
    refine loop_okR (g.ok _ _ _) 2 (fun x : {m : Int × Nat // (loP p 3 ≤ m.1 ∧ m.1 ≤ hiP p 3 + 1) ∧ m.2 ≤ 1000 ∧ (rangeI m.1 (hiP p 3)).foldl (fun m n => max m (sizeN (resG (atP p 3 n) LL true))) m.2 = mostI p LL 3} =>
      ⟨[(0, ⟨[], .si .i64 3⟩), (1, ⟨[], .sp 1 0⟩), (4, ⟨[], .si .i64 ((x.1.2 : Nat) : Int)⟩), (5, ⟨[], .si .i64 x.1.1⟩)], [],
        [(1, .cells 27 (grA 0 p)), (0, .ro 2 n fun i => liC (L i))], 2, []⟩) (fun x => (hiP p 3 + 1 - x.1.1).toNat) hG ⟨(loP p 3, 0), ⟨Int.le_refl _, by have := gradeOk_span hok (q := 3) (by decide); simp only; omega⟩, by show 0 ≤ 1000; decide, rfl⟩ (fun j => j) ?_ ?_
    · refine ⟨?_, ?_, rfl, rfl, rfl, rfl, trivial⟩ <;> repeat' (first | exact trivial | exact rfl | (intro i hi; exact ⟨rfl, rfl⟩) | refine And.intro ?_ ?_)
    rintro ⟨⟨m, w⟩, ⟨hm1, hm2⟩, hw, hV⟩
    simp only at hm1 hm2 hw hV
    have hsp := gradeOk_span hok (q := 3) (by decide)
    show exec _ _ ⟨[(0, ⟨[], .si .i64 3⟩), (1, ⟨[], .sp 1 0⟩), (4, ⟨[], .si .i64 ((w : Nat) : Int)⟩), (5, ⟨[], .si .i64 m⟩)], [],
        [(1, .cells 27 (grA 0 p)), (0, .ro 2 n fun i => liC (L i))], 2, []⟩ _
    refine Chk.mk ⟨by decide, by decide⟩ ?_
    refine Br.mk (fun h => ?_) (fun h => ?_)
    · have hmh : m ≤ hiP p 3 := of_decide_eq_true h
      have hmq : loP p 3 ≤ m ∧ m ≤ hiP p 3 := ⟨hm1, hmh⟩
      refine Chk.mk ⟨lims_i _ _, by decide, by decide⟩ (Chk.mk hlim ?_)
      have hok' : gradeOk (atP p 3 m) LL = true := gradeOk_at hok (by decide) hmq
      have f3 : errT (atP p 3 m) LL true = if hasB (atP p 3 m) = true then 0 else 10 := errT_ok hok'
      have hS32 : resG (atP p 3 m) LL true < 32 := by
        rw [resG]
        split
        · exact setV_lt (gradeOk_b hok').1 (gradeOk_b hok).2.2
        · decide
      refine Br.mk (fun h2 => ?_) (fun _ => ?_)
      · have h2 : ((!decide (errT (atP p 3 m) ((List.range n).map L) true = 0)) && (!decide (errT (atP p 3 m) ((List.range n).map L) true = 10))) = true := h2
        rw [hLL, f3] at h2
        generalize hasB (atP p 3 m) = u at h2
        cases u <;> cases h2
      refine Chk.mk (by
        show ((resG (atP p 3 m) ((List.range n).map L) true : Nat) : Int) < 4611686018427387904
        rw [hLL]
        omega) ?_
      refine Chk.mk (show InK .i64 (m + 1) from ⟨by show (-9223372036854775808 : Int) ≤ _; omega, by show _ ≤ (9223372036854775807 : Int); omega⟩) ?_
      refine ⟨⟨(m + 1, max w (sizeN (resG (atP p 3 m) ((List.range n).map L) true))), ⟨by simp only; omega, by simp only; omega⟩, by
          have := sizeN_le (resG (atP p 3 m) LL true)
          rw [hLL]
          simp only
          omega, by
          rw [← hV, rangeI_cons hmh, List.foldl_cons, hLL]⟩, (fun j => j), ?_, by show (hiP p 3 + 1 - (m + 1)).toNat < (hiP p 3 + 1 - m).toNat; omega⟩
      refine ⟨⟨⟨⟨rfl, rfl⟩, rfl⟩, ⟨⟨rfl, rfl⟩, rfl⟩, ⟨⟨rfl, ?_⟩, rfl⟩, ⟨⟨rfl, rfl⟩, rfl⟩, trivial⟩, ?_, rfl, rfl, rfl, rfl, trivial⟩
      · show (max ((w : Nat) : Int) ((sizeN ((resG (atP p 3 m) ((List.range n).map L) true : Nat) : Int).toNat : Nat) : Int)) = (((max w (sizeN (resG (atP p 3 m) ((List.range n).map L) true)) : Nat)) : Int)
        rw [Int.toNat_natCast]
        omega
      · repeat' (first | exact trivial | exact rfl | (intro i hi; exact ⟨rfl, rfl⟩) | refine And.intro ?_ ?_)
    · have hmh : hiP p 3 < m := by
        have h : decide (m ≤ hiP p 3) = false := h
        have := of_decide_eq_false h
        omega
      rw [rangeI_nil hmh] at hV
      have hV : w = mostI p LL 3 := hV
      exact ⟨.inl rfl, end_noid ⟨rfl, (by
        show ((w : Nat) : Int) = ((mostI p ((List.range n).map L) 3 : Nat) : Int)
        rw [hLL, hV])⟩ rfl rfl (by repeat' (first | exact trivial | exact rfl | (intro i hi; exact ⟨rfl, rfl⟩) | refine And.intro ?_ ?_))⟩
  · refine Chk.mk ⟨by decide, by decide⟩ ?_
    refine loop_okR (g.ok _ _ _) 2 (fun x : {m : Int × Nat // (loP p 4 ≤ m.1 ∧ m.1 ≤ hiP p 4 + 1) ∧ m.2 ≤ 1000 ∧ (rangeI m.1 (hiP p 4)).foldl (fun m n => max m (sizeN (resG (atP p 4 n) LL true))) m.2 = mostI p LL 4} =>
      ⟨[(0, ⟨[], .si .i64 4⟩), (1, ⟨[], .sp 1 0⟩), (4, ⟨[], .si .i64 ((x.1.2 : Nat) : Int)⟩), (5, ⟨[], .si .i64 x.1.1⟩)], [],
        [(1, .cells 27 (grA 0 p)), (0, .ro 2 n fun i => liC (L i))], 2, []⟩) (fun x => (hiP p 4 + 1 - x.1.1).toNat) hG ⟨(loP p 4, 0), ⟨Int.le_refl _, by have := gradeOk_span hok (q := 4) (by decide); simp only; omega⟩, by show 0 ≤ 1000; decide, rfl⟩ (fun j => j) ?_ ?_
    · refine ⟨?_, ?_, rfl, rfl, rfl, rfl, trivial⟩ <;> repeat' (first | exact trivial | exact rfl | (intro i hi; exact ⟨rfl, rfl⟩) | refine And.intro ?_ ?_)
    rintro ⟨⟨m, w⟩, ⟨hm1, hm2⟩, hw, hV⟩
    simp only at hm1 hm2 hw hV
    have hsp := gradeOk_span hok (q := 4) (by decide)
    show exec _ _ ⟨[(0, ⟨[], .si .i64 4⟩), (1, ⟨[], .sp 1 0⟩), (4, ⟨[], .si .i64 ((w : Nat) : Int)⟩), (5, ⟨[], .si .i64 m⟩)], [],
        [(1, .cells 27 (grA 0 p)), (0, .ro 2 n fun i => liC (L i))], 2, []⟩ _
    refine Chk.mk ⟨by decide, by decide⟩ ?_
    refine Br.mk (fun h => ?_) (fun h => ?_)
    · have hmh : m ≤ hiP p 4 := of_decide_eq_true h
      have hmq : loP p 4 ≤ m ∧ m ≤ hiP p 4 := ⟨hm1, hmh⟩
      refine Chk.mk ⟨lims_i _ _, by decide, by decide⟩ (Chk.mk hlim ?_)
      have hok' : gradeOk (atP p 4 m) LL = true := gradeOk_at hok (by decide) hmq
      have f3 : errT (atP p 4 m) LL true = if hasB (atP p 4 m) = true then 0 else 10 := errT_ok hok'
      have hS32 : resG (atP p 4 m) LL true < 32 := by
        rw [resG]
        split
        · exact setV_lt (gradeOk_b hok').1 (gradeOk_b hok).2.2
        · decide
      refine Br.mk (fun h2 => ?_) (fun _ => ?_)
      · have h2 : ((!decide (errT (atP p 4 m) ((List.range n).map L) true = 0)) && (!decide (errT (atP p 4 m) ((List.range n).map L) true = 10))) = true := h2
        rw [hLL, f3] at h2
        generalize hasB (atP p 4 m) = u at h2
        cases u <;> cases h2
      refine Chk.mk (by
        show ((resG (atP p 4 m) ((List.range n).map L) true : Nat) : Int) < 4611686018427387904
        rw [hLL]
        omega) ?_
      refine Chk.mk (show InK .i64 (m + 1) from ⟨by show (-9223372036854775808 : Int) ≤ _; omega, by show _ ≤ (9223372036854775807 : Int); omega⟩) ?_
      refine ⟨⟨(m + 1, max w (sizeN (resG (atP p 4 m) ((List.range n).map L) true))), ⟨by simp only; omega, by simp only; omega⟩, by
          have := sizeN_le (resG (atP p 4 m) LL true)
          rw [hLL]
          simp only
          omega, by
          rw [← hV, rangeI_cons hmh, List.foldl_cons, hLL]⟩, (fun j => j), ?_, by show (hiP p 4 + 1 - (m + 1)).toNat < (hiP p 4 + 1 - m).toNat; omega⟩
      refine ⟨⟨⟨⟨rfl, rfl⟩, rfl⟩, ⟨⟨rfl, rfl⟩, rfl⟩, ⟨⟨rfl, ?_⟩, rfl⟩, ⟨⟨rfl, rfl⟩, rfl⟩, trivial⟩, ?_, rfl, rfl, rfl, rfl, trivial⟩
      · show (max ((w : Nat) : Int) ((sizeN ((resG (atP p 4 m) ((List.range n).map L) true : Nat) : Int).toNat : Nat) : Int)) = (((max w (sizeN (resG (atP p 4 m) ((List.range n).map L) true)) : Nat)) : Int)
        rw [Int.toNat_natCast]
        omega
      · repeat' (first | exact trivial | exact rfl | (intro i hi; exact ⟨rfl, rfl⟩) | refine And.intro ?_ ?_)
    · have hmh : hiP p 4 < m := by
        have h : decide (m ≤ hiP p 4) = false := h
        have := of_decide_eq_false h
        omega
      rw [rangeI_nil hmh] at hV
      have hV : w = mostI p LL 4 := hV
      exact ⟨.inl rfl, end_noid ⟨rfl, (by
        show ((w : Nat) : Int) = ((mostI p ((List.range n).map L) 4 : Nat) : Int)
        rw [hLL, hV])⟩ rfl rfl (by repeat' (first | exact trivial | exact rfl | (intro i hi; exact ⟨rfl, rfl⟩) | refine And.intro ?_ ?_))⟩
theorem g42 {l : List (Nat × Ct)} (g : Good P T l) : Good P T ((42, c42) :: l) := g.add (k42 g) c42_mono b42
end Go.X.Gr
end

section
set_option linter.unusedVariables false
set_option linter.unusedSimpArgs false
set_option linter.unusedSectionVars false
/- Grade: the walk of GradeAsk. -/
set_option linter.unusedVariables false
set_option linter.unusedSimpArgs false
set_option maxRecDepth 10000
set_option maxHeartbeats 4000000
namespace Go.X.Gr
open Go Go.Proofs Go.X

def c10 : Ct := fun fr args H => match args with
  | [.agg l, .si .u8 x] => gradeK H l fun i1 g n get => some ⟨some (Lims n get ∧ 0 ≤ x ∧ x < 256), none, .sb true, []⟩
  | _ => none
theorem k10 {l : List (Nat × Ct)} (g0 : Good P T l) : COk P 10 c10 := by
  have g := g14 (g39 (g40 (g42 (g21 (g27 (g38 good0))))))
  refine cok (C := tabC _) g.ok Try.func10 (c := code Try.f10) rfl fun fr args H out h hp => ?_
  unfold c10 at h
  split at h
  case h_2 => cases h
  rename_i l x
  obtain ⟨i1, p, n, get, rfl, e1, h⟩ := gradeK_some h
  cases h
  obtain ⟨hs, hx0, hx1⟩ : Lims n get ∧ 0 ≤ x ∧ x < 256 := hp
  have hh : Hand H [(i1, .ro 2 n fun i => liC (liAt get i))] := hand_one e1 (fun i => rfl) (fun i hi => (hs i hi).symm)
  refine ⟨[(i1, .ro 2 n fun i => liC (liAt get i))], [.agg (grA 0 p), .si .u8 x], [(0, .ro 2 n fun i => liC (liAt get i))], 1, [], rfl, rfl, Nat.le_of_ble_eq_true rfl, hh, rfl, rfl, fun G hG => ?_⟩
  generalize liAt get = L
  refine Chk.mk (lims_i _ _) ?_
  refine Chk.mk (fun h => ⟨lims_i _ _, by have h : decide ((n : Int) > 40) = false := h; have := of_decide_eq_false h; omega⟩) ?_
  refine Br.mk (fun h => ?_) (fun h => ?_)
  · exact ⟨.inl rfl, end_noid rfl rfl rfl (by repeat' (first | exact trivial | exact rfl | (intro i hi; exact ⟨rfl, rfl⟩) | refine And.intro ?_ ?_))⟩
  have h : (decide ((n : Int) > 40) || !gradeOk p ((List.range n).map L)) = false := h
  obtain ⟨hn40, hok⟩ : n ≤ 40 ∧ gradeOk p ((List.range n).map L) = true := by
    rw [Bool.or_eq_false_iff, decide_eq_false_iff_not, Bool.not_eq_false'] at h
    exact ⟨by omega, h.2⟩
  clear h
  have hlim : Lims n (fun i => liC (L i)) ∧ n ≤ 1000000 := ⟨lims_i _ _, by omega⟩
  refine Chk.mk hlim (Chk.mk hlim ?_)
  obtain ⟨LL, hLL⟩ : ∃ LL, (List.range n).map L = LL := ⟨_, rfl⟩
  rw [hLL] at hok
  have hE : errT p LL true = if hasB p = true then 0 else 10 := errT_ok hok
  have hA2 : (resA p LL).2.2 = errT p LL true := by
    unfold resA
    split
    · rename_i h; rw [h]
    · rfl
  refine Br.mk (fun h2 => ?_) (fun _ => ?_)
  · have h2 : (!decide (errT p ((List.range n).map L) true = (resA p ((List.range n).map L)).2.2)) = true := h2
    rw [hLL, hA2] at h2
    simp at h2
  cases hh : hasB p with
  | false =>
    rw [hh] at hE
    have hE : errT p LL true = 10 := hE
    have hA : resA p LL = (0, 0, 10) := by rw [resA, hE]; rfl
    refine Br.mk (fun _ => ?_) (fun h2 => ?_)
    · exact ⟨.inl rfl, end_noid (by
        show (((decide ((resA p ((List.range n).map L)).2.2 = 10) && decide ((resA p ((List.range n).map L)).1 = 0)) && decide ((resA p ((List.range n).map L)).2.1 = 0)) && true) = true
        rw [hLL, hA]
        rfl) rfl rfl (by repeat' (first | exact trivial | exact rfl | (intro i hi; exact ⟨rfl, rfl⟩) | refine And.intro ?_ ?_))⟩
    · have h2 : (!decide ((resA p ((List.range n).map L)).2.2 = 0)) = false := h2
      rw [hLL, hA] at h2
      cases h2
  | true =>
    rw [hh] at hE
    have hE : errT p LL true = 0 := hE
    obtain ⟨z, z1, z2, z3, z4, z5⟩ := bestA_ok (fun q => askV (lims3 LL) q p)
    have hA : resA p LL = (z, ((mostI p LL z : Nat) : Int), 0) := by
      rw [resA, if_pos hE, z1, z4, ask_most hok ⟨z2, z3⟩]
    have z5 : ∀ q : Int, 0 ≤ q → q < 5 → mostI p LL z ≤ mostI p LL q ∧ (q < z → mostI p LL z < mostI p LL q) := fun q h1 h2 => by
      have := z5 q h1 h2
      simp only [ask_most hok ⟨z2, z3⟩, ask_most hok ⟨h1, h2⟩] at this
      exact this
    obtain ⟨m1, m2⟩ := most_le hok hh ⟨z2, z3⟩
    have hG0 : resG p LL true = setV (lims3 LL) p := resG_ok hok hh
    have hS32 := setV_lt (gradeOk_b hok).1 (gradeOk_b hok).2.2
    refine Br.mk (fun h2 => ?_) (fun _ => ?_)
    · have h2 : (!decide ((resA p ((List.range n).map L)).2.2 = 0)) = true := h2
      rw [hLL, hA] at h2
      cases h2
    refine Chk.mk (fun _ => by
      show ((resG p ((List.range n).map L) true : Nat) : Int) < 4611686018427387904
      rw [hLL, hG0]
      omega) ?_
    refine Br.mk (fun h2 => ?_) (fun _ => ?_)
    · have h2 : (((decide ((resA p ((List.range n).map L)).1 < 0) || decide ((resA p ((List.range n).map L)).1 ≥ 5)) || decide ((resA p ((List.range n).map L)).2.1 < 1)) || decide ((resA p ((List.range n).map L)).2.1 > ((sizeN ((resG p ((List.range n).map L) true : Nat) : Int).toNat : Nat) : Int))) = true := h2
      rw [hLL, hA, hG0, Int.toNat_natCast] at h2
      simp only [Bool.or_eq_true, decide_eq_true_eq] at h2
      omega
    refine Chk.mk (show InK .i64 x from ⟨by show (-9223372036854775808 : Int) ≤ _; omega, by show _ ≤ (9223372036854775807 : Int); omega⟩) ?_
    refine Chk.mk (show (5 : Int) ≠ 0 by decide) ?_
    obtain ⟨q, hq⟩ : ∃ q : Int, x.tmod 5 = q := ⟨_, rfl⟩
    have hq5 : 0 ≤ q ∧ q < 5 := ⟨hq ▸ Int.tmod_nonneg _ hx0, hq ▸ Int.tmod_lt_of_pos _ (by decide)⟩
    rw [hq]
    have hq4 := z5 q hq5.1 hq5.2
    refine Chk.mk ⟨hlim.1, hlim.2, hq5.1, hq5.2, by rw [← hLL] at hok; exact hok⟩ ?_
    have hz : (resA p ((List.range n).map L)).1 = z ∧ (resA p ((List.range n).map L)).2.1 = ((mostI p LL z : Nat) : Int) := by rw [hLL, hA]; exact ⟨rfl, rfl⟩
    refine Chk.mk ⟨hlim.1, hlim.2, by rw [← hz.1] at z2; exact z2, by rw [← hz.1] at z3; exact z3, by rw [← hLL] at hok; exact hok⟩ ?_
    exact ⟨.inl rfl, end_noid (by
      show ((decide (((mostI p ((List.range n).map L) (resA p ((List.range n).map L)).1 : Nat) : Int) = (resA p ((List.range n).map L)).2.1) && (decide (((mostI p ((List.range n).map L) q : Nat) : Int) > (resA p ((List.range n).map L)).2.1) || (decide (((mostI p ((List.range n).map L) q : Nat) : Int) = (resA p ((List.range n).map L)).2.1) && decide (q ≥ (resA p ((List.range n).map L)).1)))) && true) = true
      rw [hz.1, hz.2, hLL, Bool.and_true]
      simp only [Bool.and_eq_true, Bool.or_eq_true, decide_eq_true_eq]
      refine ⟨trivial, ?_⟩
      by_cases hqz : q < z
      · have := hq4.2 hqz
        omega
      · omega) rfl rfl (by repeat' (first | exact trivial | exact rfl | (intro i hi; exact ⟨rfl, rfl⟩) | refine And.intro ?_ ?_))⟩
theorem c10_mono : CtMono c10 := by
  intro fr args H H' out hH h
  unfold c10 at h ⊢
  split at h
  · exact gradeK_mono hH h
  · cases h
end Go.X.Gr
end
