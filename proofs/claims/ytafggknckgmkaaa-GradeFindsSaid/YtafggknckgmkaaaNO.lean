/- Which point should be measured. -/
import Derived.Test.YtafggknckgmkaaaNA
import Derived.Test.YtafggknckgmkaaaNM
import Derived.Test.YtafggknckgmkaaaND

section
set_option linter.unusedVariables false
set_option linter.unusedSimpArgs false
set_option linter.unusedSectionVars false
/- Grade: Size. -/
set_option linter.unusedVariables false
set_option linter.unusedSimpArgs false
set_option maxRecDepth 10000
set_option maxHeartbeats 2000000
namespace Go.X.Gr
open Go Go.Proofs Go.X

def sizeN : Nat → Nat
  | 0 => 0
  | n + 1 => (n + 1) % 2 + sizeN ((n + 1) / 2)
decreasing_by omega
theorem sizeN_pos {n : Nat} (h : 0 < n) : sizeN n = n % 2 + sizeN (n / 2) := by
  obtain ⟨m, rfl⟩ : ∃ m, n = m + 1 := ⟨n - 1, by omega⟩
  rw [sizeN]
theorem sizeN_le (n : Nat) : sizeN n ≤ n := by
  induction n using Nat.strongRecOn with
  | _ n ih =>
    rcases Nat.eq_zero_or_pos n with rfl | h
    · simp [sizeN]
    · rw [sizeN_pos h]
      have := ih (n / 2) (by omega)
      omega

def c38 : Ct := plainCt fun
  | [.si .i64 x] => some ⟨some (x < 4611686018427387904), none, .si .i64 (sizeN x.toNat), []⟩
  | _ => none
theorem k38 {l : List (Nat × Ct)} (g : Good P T l) : COk P 38 c38 := cok (C := tabC l) g.ok Try.func38 (c := code Try.f38) rfl fun fr args H out h hp => by
  simp only [c38, plainCt] at h
  split at h
  · rename_i x
    cases h
    have hp : x < 4611686018427387904 := hp
    refine walk_plain rfl (Nat.le_of_ble_eq_true rfl) fun G hG => ?_
    refine loop_ok (g.ok _ _ _) (fun y : {y : Int × Int // y.1 ≤ x ∧ 0 ≤ y.2 ∧ y.2 + sizeN y.1.toNat = sizeN x.toNat} => ⟨[(0, ⟨[], .si .i64 y.1.1⟩), (3, ⟨[], .si .i64 y.1.2⟩)], [], [], 0, []⟩) (fun y => y.1.1.toNat) (fun _ => hG)
      ⟨(x, 0), by refine ⟨by omega, by omega, ?_⟩; simp⟩ ?_ ?_
    · refine ⟨?_, ?_, rfl, rfl, rfl⟩ <;> repeat' (first | exact trivial | exact rfl | refine And.intro ?_ ?_)
    · rintro ⟨⟨y, n⟩, h1, h2, h3⟩
      simp only at h1 h2 h3
      have hle := sizeN_le x.toNat
      refine Br.mk (fun h => ?_) (fun h => ?_)
      · have h : (0 : Int) < y := of_decide_eq_true h
        have e1 : y.tmod 2 = y % 2 := Int.tmod_eq_emod_of_nonneg (by omega)
        have e2 : y.tdiv 2 = y / 2 := Int.tdiv_eq_ediv_of_nonneg (by omega)
        have hs := sizeN_pos (n := y.toNat) (by omega)
        refine Chk.mk (show (2 : Int) ≠ 0 by decide) (Chk.mk (show _ ∧ _ from ?_) (Chk.mk (show _ ∧ _ from ⟨by decide, ?_⟩) ⟨⟨(y / 2, n + y % 2), ?_⟩, ?_, ?_⟩))
        · show _ ≤ n + y.tmod 2 ∧ n + y.tmod 2 ≤ _
          omega
        · show _ ≤ y.tdiv 2 ∧ y.tdiv 2 ≤ _
          omega
        · have e3 : (y / 2).toNat = y.toNat / 2 := by omega
          simp only [e3]
          omega
        · refine ⟨?_, ?_, rfl, rfl, rfl⟩ <;> repeat' (first | exact trivial | exact rfl | refine And.intro ?_ ?_)
          · exact e2
          · show n + y.tmod 2 = n + y % 2
            rw [e1]
        · show (y / 2).toNat < y.toNat
          omega
      · have h : ¬ (0 : Int) < y := of_decide_eq_false h
        refine ⟨.inl rfl, end_plain ⟨rfl, ?_⟩ rfl rfl⟩
        show n = sizeN x.toNat
        rw [show y.toNat = 0 by omega] at h3
        simp [sizeN] at h3
        omega
  · cases h

theorem g38 {l : List (Nat × Ct)} (g : Good P T l) : Good P T ((38, c38) :: l) := g.add (k38 g) (plainCt_mono _) (body_of Try.func38 (c := code Try.f38) rfl (by decide))
end Go.X.Gr
end

section
set_option linter.unusedVariables false
set_option linter.unusedSimpArgs false
set_option linter.unusedSectionVars false
/- Grade: which point should be measured, by the grades that are left. -/
set_option linter.unusedVariables false
set_option linter.unusedSimpArgs false
set_option maxRecDepth 10000
set_option maxHeartbeats 4000000
namespace Go.X.Gr
open Go Go.Proofs Go.X

theorem sizeN_eq (n : Nat) : sizeN n = n % 2 + sizeN (n / 2) := by
  rcases Nat.eq_zero_or_pos n with rfl | h
  · simp [sizeN]
  · exact sizeN_pos h
theorem sizeN_pop {n : Nat} (h : n < 32) : sizeN n = popV n := by
  rw [sizeN_eq n, sizeN_eq (n / 2), sizeN_eq (n / 2 / 2), sizeN_eq (n / 2 / 2 / 2), sizeN_eq (n / 2 / 2 / 2 / 2)]
  have : n / 2 / 2 / 2 / 2 / 2 = 0 := by omega
  rw [this, show sizeN 0 = 0 by simp [sizeN]]
  unfold popV
  omega
theorem foldMax {α : Type} (f : α → Nat) : ∀ (l : List α) (a : Nat), a ≤ l.foldl (fun m x => max m (f x)) a ∧ (∀ x ∈ l, f x ≤ l.foldl (fun m x => max m (f x)) a) ∧ (l.foldl (fun m x => max m (f x)) a = a ∨ ∃ x ∈ l, l.foldl (fun m x => max m (f x)) a = f x)
  | [], a => ⟨Nat.le_refl _, fun x hx => (by cases hx), .inl rfl⟩
  | y :: r, a => by
    obtain ⟨h1, h2, h3⟩ := foldMax f r (max a (f y))
    rw [List.foldl_cons]
    refine ⟨by omega, fun x hx => ?_, ?_⟩
    · rcases List.mem_cons.1 hx with rfl | hx
      · omega
      · exact h2 x hx
    · rcases h3 with h3 | ⟨x, hx, h3⟩
      · rcases Nat.le_total a (f y) with h | h
        · exact .inr ⟨y, List.mem_cons_self, by omega⟩
        · exact .inl (by omega)
      · exact .inr ⟨x, List.mem_cons_of_mem _ hx, h3⟩
theorem updA_nodup {κ ν : Type} [DecidableEq κ] {m : List (κ × ν)} {k : κ} {v : ν} (h : (m.map (·.1)).Nodup) : ((updA m k v).map (·.1)).Nodup := by
  by_cases hk : k ∈ m.map (·.1)
  · obtain ⟨⟨k', v0⟩, hm, rfl⟩ := List.mem_map.1 hk
    obtain ⟨a, b, e1, e2⟩ := updA_old (v := v) h hm
    rw [e2]
    rw [e1] at h
    simpa using h
  · rw [updA_new hk, List.map_append, List.nodup_append]
    refine ⟨h, by simp, fun x hx y hy => ?_⟩
    simp at hy
    rintro rfl
    exact hk (hy ▸ hx)
theorem lookA_updA {κ ν : Type} [DecidableEq κ] {k : κ} {v : ν} {x : κ} : ∀ {m : List (κ × ν)}, lookA (updA m k v) x = if k = x then some v else lookA m x
  | [] => by unfold updA lookA; rfl
  | p :: r => by
    unfold updA
    by_cases hp : p.1 = k
    · rw [if_pos hp]
      unfold lookA
      by_cases hx : k = x
      · rw [if_pos hx, if_pos hx]
      · rw [if_neg hx, if_neg hx, if_neg (by rw [hp]; exact hx)]
    · rw [if_neg hp]
      unfold lookA
      rw [lookA_updA]
      by_cases hpx : p.1 = x
      · rw [if_pos hpx, if_pos hpx, if_neg (by rintro rfl; exact hp hpx)]
      · rw [if_neg hpx, if_neg hpx]
/-- What the sets hold after some blocks. -/
structure AskI (L : List (Int × Int)) (q : Int) (l : List B5) (c : List (Int × Nat)) : Prop where
  nd : (c.map (·.1)).Nodup
  keys : ∀ k, k ∈ c.map (·.1) ↔ ∃ b ∈ l, fun5 (ptV q) b = k
  bit : ∀ k j, (lookU c k).testBit j = true ↔ ∃ b ∈ l, fun5 (ptV q) b = k ∧ ofL L (lk5 lkP b) = j
theorem askI_fold {L : List (Int × Int)} {q : Int} : ∀ (r l : List B5) (c : List (Int × Nat)), AskI L q l c → AskI L q (l ++ r) (r.foldl (fun c b => (f5 (fAsk L q) c b).1) c)
  | [], l, c, h => by rw [List.append_nil]; exact h
  | x :: r, l, c, h => by
    rw [List.foldl_cons, show l ++ x :: r = (l ++ [x]) ++ r by simp]
    refine askI_fold r _ _ ?_
    have e0 : (f5 (fAsk L q) c x).1 = updA c (fun5 (ptV q) x) (lookU c (fun5 (ptV q) x) ||| 2 ^ ofL L (lk5 lkP x)) := rfl
    rw [e0]
    refine ⟨updA_nodup h.nd, fun k => ?_, fun k j => ?_⟩
    · rw [updA_keys, h.keys]
      constructor
      · rintro (⟨b, hb, e⟩ | rfl)
        · exact ⟨b, List.mem_append_left _ hb, e⟩
        · exact ⟨x, by simp, rfl⟩
      · rintro ⟨b, hb, e⟩
        rcases List.mem_append.1 hb with hb | hb
        · exact .inl ⟨b, hb, e⟩
        · simp at hb
          subst hb
          exact .inr e.symm
    · have e2 : lookU (updA c (fun5 (ptV q) x) (lookU c (fun5 (ptV q) x) ||| 2 ^ ofL L (lk5 lkP x))) k = if fun5 (ptV q) x = k then lookU c (fun5 (ptV q) x) ||| 2 ^ ofL L (lk5 lkP x) else lookU c k := by
        unfold lookU
        rw [lookA_updA]
        by_cases hx : fun5 (ptV q) x = k
        · rw [if_pos hx, if_pos hx]
        · rw [if_neg hx, if_neg hx]
      rw [e2]
      by_cases hx : fun5 (ptV q) x = k
      · rw [if_pos hx, Nat.testBit_or, Bool.or_eq_true, h.bit, Nat.testBit_two_pow, decide_eq_true_eq]
        constructor
        · rintro (⟨b, hb, e⟩ | e)
          · exact ⟨b, List.mem_append_left _ hb, by rw [← hx]; exact e⟩
          · exact ⟨x, by simp, hx, e⟩
        · rintro ⟨b, hb, e, e'⟩
          rcases List.mem_append.1 hb with hb | hb
          · exact .inl ⟨b, hb, by rw [e, hx], e'⟩
          · simp at hb
            subst hb
            exact .inr e'
      · rw [if_neg hx, h.bit]
        constructor
        · rintro ⟨b, hb, e⟩
          exact ⟨b, List.mem_append_left _ hb, e⟩
        · rintro ⟨b, hb, e, e'⟩
          rcases List.mem_append.1 hb with hb | hb
          · exact ⟨b, hb, e, e'⟩
          · simp at hb
            subst hb
            exact absurd e hx
theorem askI_all (L : List (Int × Int)) (q : Int) (g : Pts) : AskI L q (blk g) (askM L q g) := by
  unfold askM
  rw [on0_blk, foldS_true (fun _ _ => rfl)]
  exact askI_fold (blk g) [] [] ⟨by simp, fun k => by simp, fun k j => by simp [lookU, lookA]⟩
/-- The most grades that are left, whatever a point is measured to be. -/
def mostI (g : Pts) (L : List (Int × Int)) (q : Int) : Nat := (rangeI (loP g q) (hiP g q)).foldl (fun m n => max m (sizeN (resG (atP g q n) L true))) 0
theorem ask_most {g : Pts} {L : List (Int × Int)} (h : gradeOk g L = true) {q : Int} (hq : 0 ≤ q ∧ q < 5) : askV (lims3 L) q g = mostI g L q := by
  have hI := askI_all (lims3 L) q g
  have hmem : ∀ k s, (k, s) ∈ askM (lims3 L) q g → (loP g q ≤ k ∧ k ≤ hiP g q) ∧ popV s = sizeN (resG (atP g q k) L true) := by
    intro k s hm
    obtain ⟨b, hb, e⟩ := (hI.keys k).1 (List.mem_map.2 ⟨_, hm, rfl⟩)
    have hb' := mem_blk.1 hb
    have hk : loP g q ≤ k ∧ k ≤ hiP g q := e ▸ okB_pt hq hb'
    refine ⟨hk, ?_⟩
    have hok' := gradeOk_at h hq hk
    have hh' : hasB (atP g q k) = true := hasB_iff.2 ⟨b, (okB_at hq hk).2 ⟨hb', e⟩⟩
    have hs : s = setV (lims3 L) (atP g q k) := by
      refine Nat.eq_of_testBit_eq fun j => ?_
      have : lookU (askM (lims3 L) q g) k = s := by unfold lookU; rw [lookA_of_mem hI.nd hm]
      rw [← this, Bool.eq_iff_iff, hI.bit, setV_bit]
      constructor
      · rintro ⟨b, hb, e, e'⟩
        exact ⟨b, (okB_at hq hk).2 ⟨mem_blk.1 hb, e⟩, e'⟩
      · rintro ⟨b, hb, e'⟩
        obtain ⟨h1, h2⟩ := (okB_at hq hk).1 hb
        exact ⟨b, mem_blk.2 h1, h2, e'⟩
    rw [resG_ok hok' hh', ← hs, sizeN_pop]
    rw [hs]
    exact setV_lt (gradeOk_b hok').1 (gradeOk_b h).2.2
  obtain ⟨_, a2, a3⟩ := foldMax (fun p : Int × Nat => popV p.2) (askM (lims3 L) q g) 0
  obtain ⟨_, b2, b3⟩ := foldMax (fun n => sizeN (resG (atP g q n) L true)) (rangeI (loP g q) (hiP g q)) 0
  have a2 : ∀ x ∈ askM (lims3 L) q g, popV x.2 ≤ askV (lims3 L) q g := a2
  have a3 : askV (lims3 L) q g = 0 ∨ ∃ x ∈ askM (lims3 L) q g, askV (lims3 L) q g = popV x.2 := a3
  have b2 : ∀ x ∈ rangeI (loP g q) (hiP g q), sizeN (resG (atP g q x) L true) ≤ mostI g L q := b2
  have b3 : mostI g L q = 0 ∨ ∃ x ∈ rangeI (loP g q) (hiP g q), mostI g L q = sizeN (resG (atP g q x) L true) := b3
  refine Nat.le_antisymm ?_ ?_
  · rcases a3 with a3 | ⟨⟨k, s⟩, hm, a3⟩
    · omega
    · obtain ⟨hk, e⟩ := hmem k s hm
      have := b2 k (rangeI_mem.2 hk)
      have e : popV (k, s).2 = sizeN (resG (atP g q k) L true) := e
      omega
  · rcases b3 with b3 | ⟨n, hn, b3⟩
    · omega
    · have hk := rangeI_mem.1 hn
      cases hh : hasB (atP g q n) with
      | false =>
        rw [resG, errT_ok (gradeOk_at h hq hk), hh] at b3
        have : sizeN (if (if false = true then (0 : Int) else 10) = 0 then setV (lims3 L) (atP g q n) else 0) = 0 := by simp [sizeN]
        omega
      | true =>
        obtain ⟨b, hb⟩ := hasB_iff.1 hh
        obtain ⟨h1, h2⟩ := (okB_at hq hk).1 hb
        obtain ⟨⟨k, s⟩, hm, e⟩ := List.mem_map.1 ((hI.keys n).2 ⟨b, mem_blk.2 h1, h2⟩)
        have e : k = n := e
        subst e
        have := a2 _ hm
        have := (hmem k s hm).2
        simp only at *
        omega
end Go.X.Gr
end
