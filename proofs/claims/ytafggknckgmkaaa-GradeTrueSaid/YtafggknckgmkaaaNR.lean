/- Grades that are made, with a truth. -/
import Derived.Test.YtafggknckgmkaaaNQ
import Derived.Test.YtafggknckgmkaaaMF

section
set_option linter.unusedVariables false
set_option linter.unusedSimpArgs false
set_option linter.unusedSectionVars false
/- Grade: grades that are made, with a truth. -/
set_option linter.unusedVariables false
set_option linter.unusedSimpArgs false
set_option maxRecDepth 10000
set_option maxHeartbeats 4000000
namespace Go.X.Gr
open Go Go.Proofs Go.X

theorem limsB_snoc : ∀ (l : List (Int × Int)) (p x : Int × Int), limsB p (l ++ [x]) = (limsB p l && limB ((p :: l).getLast (by simp)) x)
  | [], p, x => by simp [limsB]
  | y :: r, p, x => by
    rw [List.cons_append, limsB, limsB, limsB_snoc r y x, Bool.and_assoc]
    rfl
theorem lastL_eq (L : Nat → Int × Int) (i : Nat) : (((0, 0) : Int × Int) :: (List.range i).map L).getLast (by simp) = lastL L i := by
  cases i with
  | zero => rfl
  | succ i =>
    have e : (((0, 0) : Int × Int) :: (List.range (i + 1)).map L) = (((0, 0) : Int × Int) :: (List.range i).map L) ++ [L i] := by simp [List.range_succ]
    have : ∀ (l l' : List (Int × Int)) (h : l = l') (hl : l ≠ []) (hl' : l' ≠ []), l.getLast hl = l'.getLast hl' := fun l l' h _ _ => by subst h; rfl
    rw [this _ _ e (by simp) (by simp), List.getLast_concat]
    rfl
/-- One limit more. -/
def addL (L : Nat → Int × Int) (i : Nat) (x : Int × Int) (j : Nat) : Int × Int := if j < i then L j else x
theorem addL_map (L : Nat → Int × Int) (i : Nat) (x : Int × Int) : (List.range (i + 1)).map (addL L i x) = (List.range i).map L ++ [x] := by
  rw [List.range_succ, List.map_append]
  congr 1
  · refine List.map_congr_left fun j hj => ?_
    unfold addL
    rw [if_pos (List.mem_range.1 hj)]
  · simp [addL]
theorem addL_last (L : Nat → Int × Int) (i : Nat) (x : Int × Int) : lastL (addL L i x) (i + 1) = x := by simp [lastL, addL]
theorem addL_ok {L : Nat → Int × Int} {i : Nat} {x : Int × Int} (h : limsB (0, 0) ((List.range i).map L) = true) (hx : limB (lastL L i) x = true) : limsB (0, 0) ((List.range (i + 1)).map (addL L i x)) = true := by
  rw [addL_map, limsB_snoc, h, lastL_eq, hx]
  rfl
theorem limB_min {p : Int × Int} {a b : Int} (h1 : 0 ≤ p.1 ∧ p.1 ≤ 20) (h2 : 0 ≤ p.2 ∧ p.2 ≤ 20) (ha : 0 ≤ a) (hb : 0 ≤ b) : limB p (min 20 (p.1 + a), min 20 (p.2 + b)) = true := by
  simp only [limB, inB, Bool.and_eq_true, decide_eq_true_eq]
  omega
def bz (p : Nat) (f : Nat → Int) (j : Nat) : Int := if j < p then f j else 0
def putF (f : Nat → Int) (p : Nat) (x : Int) (j : Nat) : Int := if j = p then x else f j
/-- The first points are made. -/
def PtOk (base : Int) (p : Nat) (b lo hi : Nat → Int) : Prop := ∀ j, j < p → (base ≤ b j ∧ b j ≤ base + 6) ∧ -20 ≤ lo j ∧ lo j ≤ b j ∧ b j ≤ hi j ∧ hi j ≤ 20 ∧ hi j - lo j ≤ 4
theorem ptOk_next {base : Int} {p : Nat} {b lo hi : Nat → Int} (h : PtOk base p b lo hi) {x a e : Int} (h1 : base ≤ x ∧ x ≤ base + 6) (h2 : -20 ≤ a ∧ a ≤ x ∧ x ≤ e ∧ e ≤ 20 ∧ e - a ≤ 4) : PtOk base (p + 1) (putF b p x) (putF lo p a) (putF hi p e) := fun j hj => by
  unfold putF
  by_cases hjp : j = p
  · rw [if_pos hjp, if_pos hjp, if_pos hjp]; exact ⟨h1, h2⟩
  · rw [if_neg hjp, if_neg hjp, if_neg hjp]; exact h j (by omega)
def pairA (j : Nat) : Nat := if j < 4 then 0 else j - 3
def pairB (j : Nat) : Nat := if j < 4 then j + 1 else if j < 7 then j - 2 else 1
/-- The step is no less than what the first pairs differ by. -/
def StOk (b : Nat → Int) (k : Nat) (s : Int) : Prop := (0 ≤ s ∧ s ≤ 6) ∧ ∀ j, j < k → b (pairA j) - b (pairB j) ≤ s ∧ b (pairB j) - b (pairA j) ≤ s
theorem stOk_next {b : Nat → Int} {base : Int} {k : Nat} {s d : Int} (hb : ∀ j, j < 5 → base ≤ b j ∧ b j ≤ base + 6) (h : StOk b k s) (hk : pairA k < 5 ∧ pairB k < 5) (hd : b (pairA k) - b (pairB k) = d) : StOk b (k + 1) (max (max s d) (0 - d)) := by
  have h1 := hb _ hk.1
  have h2 := hb _ hk.2
  have h3 := h.1
  refine ⟨by omega, fun j hj => ?_⟩
  by_cases hjk : j = k
  · subst hjk; omega
  · have := h.2 j (by omega)
    omega
theorem b34 : Body P 34 := body_of Try.func34 (c := code Try.f34) rfl (by decide)
/-- A grade that is made: how often was drawn, its limits, its points, and a truth. -/
structure Mk where
  k : Int
  n : Nat
  L : Nat → Int × Int
  g : Pts
  b : B5
structure MkOk (x : Mk) : Prop where
  k0 : 0 ≤ x.k
  k1 : x.k ≤ 100
  ok : gradeOk x.g ((List.range x.n).map x.L) = true
  b : OkB x.g x.b
theorem made_ok {m : Nat} {v : Nat → Int} {H : List (Nat × HB)} (hm : m ≤ 9223372036854775807) (hv : ∀ j, j < m → 0 ≤ v j ∧ v j < 65536) {Rv : SV → List (Nat × HB) → Nat → Prop} {Rp : List PanicEntry → List (Nat × HB) → Nat → Prop}
    (hA : subL H (drA m v 0)) (hRv : ∀ x, MkOk x → Rv (.tup [.agg (grA 42 x.g), .agg (c5 x.b.1 x.b.2.1 x.b.2.2.1 x.b.2.2.2.1 x.b.2.2.2.2)]) ((drA m v x.k ++ [(42, .vec 51 2 x.n fun j => liC (x.L j))]) ++ H) 60) : CallS P 34 [.fn (.func 89) [] [.sp 38 0, .sp 39 0]] H 40 Rv Rp := by
  have g := g32 good0
  refine callS_on (drA m v 0) hA ?_
  refine callS_toE (ι := {x : Mk // MkOk x}) g.ok Try.func34 (c := code Try.f34) rfl (Nat.le_of_ble_eq_true rfl) (fun x => .tup [.agg (grA 42 x.1.g), .agg (c5 x.1.b.1 x.1.b.2.1 x.1.b.2.2.1 x.1.b.2.2.2.1 x.1.b.2.2.2.2)]) (fun x => drA m v x.1.k ++ [(42, .vec 51 2 x.1.n fun j => liC (x.1.L j))]) 60 (fun G hG => ?_) (fun x => ⟨⟨rfl, (by exact ⟨rfl, trivial⟩)⟩, hRv x.1 x.2⟩)
  refine fb_call (g.ok _ _ _) cont_std rfl rfl rfl rfl ⟨b89, draw_42 hm hv (by decide) (by decide) (by decide) (by decide) ⟨rfl, rfl, rfl, trivial⟩ (fun d0 hd0 hd1 => ?_)⟩
  refine Chk.mk (show InK .i64 (1 + d0) from ⟨by omega, by omega⟩) ?_
  obtain ⟨N, hN⟩ : ∃ N : Nat, (N : Int) = 1 + d0 := ⟨(1 + d0).toNat, by omega⟩
  have hN1 : 1 ≤ N := by omega
  have hN4 : N ≤ 4 := by omega
  refine loop_okR (g.ok _ _ _) 40 (fun x : {z : Nat × (Nat → Int × Int) × Int // z.1 ≤ N ∧ (0 ≤ z.2.2 ∧ z.2.2 ≤ 1 + 2 * (z.1 : Int)) ∧ limsB (0, 0) ((List.range z.1).map z.2.1) = true ∧ (0 ≤ (lastL z.2.1 z.1).1 ∧ (lastL z.2.1 z.1).1 ≤ 20) ∧ 0 ≤ (lastL z.2.1 z.1).2 ∧ (lastL z.2.1 z.1).2 ≤ 20} => match x.1.1 with
    | 0 => ⟨[(0, ⟨[], .fn (.func 89) [] [.sp 38 0, .sp 39 0]⟩), (2, ⟨[], .sp 40 0⟩), (3, ⟨[], .sp 41 0⟩), (4, ⟨[], .si .i64 0⟩), (5, ⟨[], .si .i64 0⟩), (14, ⟨[], .si .i64 N⟩), (15, ⟨[], .si .i64 (0 : Nat)⟩)], [], [(38, .cells 3 [.si .i64 x.1.2.2]), (39, .cells 42 [.sl 0]), (0, .ro 1 m fun j => [.si .u16 (v j)]), (40, .cells 27 [.sv (.slice none 0 0), .si .i64 0, .si .i64 0, .si .i64 0, .si .i64 0, .si .i64 0, .si .i64 0, .si .i64 0, .si .i64 0, .si .i64 0, .si .i64 0, .si .i64 0]), (41, .cells 45 [.si .i64 0, .si .i64 0, .si .i64 0, .si .i64 0, .si .i64 0])], 60, []⟩
    | i + 1 => ⟨[(0, ⟨[], .fn (.func 89) [] [.sp 38 0, .sp 39 0]⟩), (2, ⟨[], .sp 40 0⟩), (3, ⟨[], .sp 41 0⟩), (4, ⟨[], .si .i64 (x.1.2.1 i).1⟩), (5, ⟨[], .si .i64 (x.1.2.1 i).2⟩), (14, ⟨[], .si .i64 N⟩), (15, ⟨[], .si .i64 ((i + 1 : Nat) : Int)⟩)], [], [(38, .cells 3 [.si .i64 x.1.2.2]), (39, .cells 42 [.sl 0]), (0, .ro 1 m fun j => [.si .u16 (v j)]), (40, .cells 27 [.sl 42, .si .i64 0, .si .i64 0, .si .i64 0, .si .i64 0, .si .i64 0, .si .i64 0, .si .i64 0, .si .i64 0, .si .i64 0, .si .i64 0, .si .i64 0]), (41, .cells 45 [.si .i64 0, .si .i64 0, .si .i64 0, .si .i64 0, .si .i64 0]), (42, .vec 51 2 (i + 1) fun j => liC (x.1.2.1 j))], 60, []⟩)
    (fun x => N - x.1.1) hG ⟨(0, (fun _ => (0, 0)), 1), Nat.zero_le _, ⟨by decide, by decide⟩, rfl, ⟨by decide, by decide⟩, by decide, by decide⟩ (fun j => j) ?_ ?_
  · refine ⟨?_, ?_, rfl, rfl, rfl, rfl, trivial⟩ <;> repeat' (first | exact trivial | exact rfl | exact hN.symm | (intro i hi; exact ⟨rfl, rfl⟩) | refine And.intro ?_ ?_)
  rintro ⟨⟨i, L, k⟩, hi, ⟨hk0, hk1⟩, hL, ho, hw⟩
  simp only at hi hk0 hk1 hL ho hw
  cases i with
  | zero =>
    show exec _ _ ⟨[(0, ⟨[], .fn (.func 89) [] [.sp 38 0, .sp 39 0]⟩), (2, ⟨[], .sp 40 0⟩), (3, ⟨[], .sp 41 0⟩), (4, ⟨[], .si .i64 0⟩), (5, ⟨[], .si .i64 0⟩), (14, ⟨[], .si .i64 N⟩), (15, ⟨[], .si .i64 (0 : Nat)⟩)], [], [(38, .cells 3 [.si .i64 k]), (39, .cells 42 [.sl 0]), (0, .ro 1 m fun j => [.si .u16 (v j)]), (40, .cells 27 [.sv (.slice none 0 0), .si .i64 0, .si .i64 0, .si .i64 0, .si .i64 0, .si .i64 0, .si .i64 0, .si .i64 0, .si .i64 0, .si .i64 0, .si .i64 0, .si .i64 0]), (41, .cells 45 [.si .i64 0, .si .i64 0, .si .i64 0, .si .i64 0, .si .i64 0])], 60, []⟩ _
    refine Br.mk (fun _ => ?_) (fun h => absurd (of_decide_eq_false h) (by show ¬ ¬ ((0 : Nat) : Int) < (N : Int); omega))
    refine fb_call (g.ok _ _ _) cont_std rfl rfl rfl rfl ⟨b89, draw_60 hm hv hk0 (by omega) (by decide) (by decide) ⟨rfl, rfl, rfl, trivial⟩ (fun d1 hd2 hd3 => ?_)⟩
    refine Chk.mk (show InK .i64 (0 + d1) from ⟨by omega, by omega⟩) ?_
    refine fb_call (g.ok _ _ _) cont_std rfl rfl rfl rfl ⟨b89, draw_60 hm hv (by omega) (by omega) (by decide) (by decide) ⟨rfl, rfl, rfl, trivial⟩ (fun d2 hd4 hd5 => ?_)⟩
    refine Chk.mk (show InK .i64 (0 + d2) from ⟨by omega, by omega⟩) ?_
    refine fb_append_nil 60 1 _ (g.ok _ _ _) cont_std rfl rfl rfl rfl rfl rfl rfl rfl rfl rfl rfl rfl (by decide) (by decide) rfl rfl rfl (by decide) (by decide) ?_
    refine Chk.mk (ink1 0 rfl) ⟨⟨(1, addL L 0 (min 20 (0 + d1), min 20 (0 + d2)), k + 1 + 1), hN1, ⟨by simp only; omega, by simp only; omega⟩, addL_ok hL (limB_min (p := (0, 0)) (by decide) (by decide) hd2 hd4), by simp only [addL_last]; omega, by simp only [addL_last]; omega⟩, (fun j => if j = 42 then 61 else j), ?_, by show N - 1 < N - 0; omega⟩
    refine ⟨?_, ?_, rfl, rfl, rfl, rfl, trivial⟩ <;> repeat' (first | exact trivial | exact rfl | (intro i hi; exact ⟨rfl, rfl⟩) | refine And.intro ?_ ?_)
    intro i hi
    obtain rfl : i = 0 := by omega
    exact ⟨rfl, rfl⟩
  | succ i =>
    show exec _ _ ⟨[(0, ⟨[], .fn (.func 89) [] [.sp 38 0, .sp 39 0]⟩), (2, ⟨[], .sp 40 0⟩), (3, ⟨[], .sp 41 0⟩), (4, ⟨[], .si .i64 (L i).1⟩), (5, ⟨[], .si .i64 (L i).2⟩), (14, ⟨[], .si .i64 N⟩), (15, ⟨[], .si .i64 ((i + 1 : Nat) : Int)⟩)], [], [(38, .cells 3 [.si .i64 k]), (39, .cells 42 [.sl 0]), (0, .ro 1 m fun j => [.si .u16 (v j)]), (40, .cells 27 [.sl 42, .si .i64 0, .si .i64 0, .si .i64 0, .si .i64 0, .si .i64 0, .si .i64 0, .si .i64 0, .si .i64 0, .si .i64 0, .si .i64 0, .si .i64 0]), (41, .cells 45 [.si .i64 0, .si .i64 0, .si .i64 0, .si .i64 0, .si .i64 0]), (42, .vec 51 2 (i + 1) fun j => liC (L j))], 60, []⟩ _
    have ho : 0 ≤ (L i).1 ∧ (L i).1 ≤ 20 := ho
    have hw : 0 ≤ (L i).2 ∧ (L i).2 ≤ 20 := hw
    refine Br.mk (fun h => ?_) (fun h => ?_)
    · have hiN : i + 1 < N := by
        have := of_decide_eq_true h
        omega
      refine fb_call (g.ok _ _ _) cont_std rfl rfl rfl rfl ⟨b89, draw_60 hm hv hk0 (by omega) (by decide) (by decide) ⟨rfl, rfl, rfl, trivial⟩ (fun d1 hd2 hd3 => ?_)⟩
      refine Chk.mk (show InK .i64 ((L i).1 + d1) from ⟨by omega, by omega⟩) ?_
      refine fb_call (g.ok _ _ _) cont_std rfl rfl rfl rfl ⟨b89, draw_60 hm hv (by omega) (by omega) (by decide) (by decide) ⟨rfl, rfl, rfl, trivial⟩ (fun d2 hd4 hd5 => ?_)⟩
      refine Chk.mk (show InK .i64 ((L i).2 + d2) from ⟨by omega, by omega⟩) ?_
      refine fb_append (Te := 0) 42 60 (i + 1) 1 _ _ (fun j => liC (addL L (i + 1) (min 20 ((L i).1 + d1), min 20 ((L i).2 + d2)) j)) (g.ok _ _ _) cont_std rfl rfl rfl rfl rfl rfl rfl rfl rfl rfl rfl rfl (by decide) (by decide) rfl rfl rfl rfl (by omega) ?_ ?_
      · intro j hj
        show liC (addL L (i + 1) _ j) = if j < i + 1 then liC (L j) else _
        unfold addL
        by_cases hji : j < i + 1
        · rw [if_pos hji, if_pos hji]
        · rw [if_neg hji, if_neg hji]
          have : j - (i + 1) = 0 := by omega
          rw [this]
          rfl
      refine Chk.mk (show InK .i64 (((i + 1 : Nat) : Int) + 1) from ⟨by omega, by omega⟩) ⟨⟨(i + 1 + 1, addL L (i + 1) (min 20 ((L i).1 + d1), min 20 ((L i).2 + d2)), k + 1 + 1), by simp only; omega, ⟨by simp only; omega, by simp only; omega⟩, addL_ok hL (limB_min ho hw hd2 hd4), by simp only [addL_last]; omega, by simp only [addL_last]; omega⟩, (fun j => if j = 42 then 61 else j), ?_, by show N - (i + 1 + 1) < N - (i + 1); omega⟩
      have a1 : (addL L (i + 1) (min 20 ((L i).1 + d1), min 20 ((L i).2 + d2)) (i + 1)) = (min 20 ((L i).1 + d1), min 20 ((L i).2 + d2)) := by simp [addL]
      refine ⟨?_, ?_, rfl, rfl, rfl, rfl, trivial⟩ <;> repeat' (first | exact trivial | exact rfl | (intro i hi; exact ⟨rfl, rfl⟩) | (show _ = (addL L (i + 1) (min 20 ((L i).1 + d1), min 20 ((L i).2 + d2)) (i + 1)).1; rw [a1]) | (show _ = (addL L (i + 1) (min 20 ((L i).1 + d1), min 20 ((L i).2 + d2)) (i + 1)).2; rw [a1]) | refine And.intro ?_ ?_)
    have hiN : i + 1 = N := by
      have := of_decide_eq_false h
      omega
    clear h ho hw
    refine fb_call (g.ok _ _ _) cont_std rfl rfl rfl rfl ⟨b89, draw_60 hm hv hk0 (by omega) (by decide) (by decide) ⟨rfl, rfl, rfl, trivial⟩ (fun d3 hd6 hd7 => ?_)⟩
    refine Chk.mk (show InK .i64 (d3 - 13) from ⟨by omega, by omega⟩) ?_
    obtain ⟨base, hbase⟩ : ∃ base, d3 - 13 = base := ⟨_, rfl⟩
    have hb0 : -13 ≤ base ∧ base ≤ 13 := by omega
    rw [hbase]
    clear hbase
    refine loop_okR (g.ok _ _ _) 40 (fun x : {z : Nat × (Nat → Int) × (Nat → Int) × (Nat → Int) × Int // z.1 ≤ 5 ∧ (0 ≤ z.2.2.2.2 ∧ z.2.2.2.2 ≤ 10 + 3 * (z.1 : Int)) ∧ PtOk base z.1 z.2.1 z.2.2.1 z.2.2.2.1} => ⟨[(0, ⟨[], .fn (.func 89) [] [.sp 38 0, .sp 39 0]⟩), (2, ⟨[], .sp 40 0⟩), (3, ⟨[], .sp 41 0⟩), (6, ⟨[], .si .i64 base⟩), (39, ⟨[], .si .i64 x.1.1⟩)], [], [(38, .cells 3 [.si .i64 x.1.2.2.2.2]), (39, .cells 42 [.sl 0]), (0, .ro 1 m fun j => [.si .u16 (v j)]), (40, .cells 27 [.sl 42, .si .i64 (bz x.1.1 x.1.2.2.1 0), .si .i64 (bz x.1.1 x.1.2.2.2.1 0), .si .i64 (bz x.1.1 x.1.2.2.1 1), .si .i64 (bz x.1.1 x.1.2.2.2.1 1), .si .i64 (bz x.1.1 x.1.2.2.1 2), .si .i64 (bz x.1.1 x.1.2.2.2.1 2), .si .i64 (bz x.1.1 x.1.2.2.1 3), .si .i64 (bz x.1.1 x.1.2.2.2.1 3), .si .i64 (bz x.1.1 x.1.2.2.1 4), .si .i64 (bz x.1.1 x.1.2.2.2.1 4), .si .i64 0]), (41, .cells 45 [.si .i64 (bz x.1.1 x.1.2.1 0), .si .i64 (bz x.1.1 x.1.2.1 1), .si .i64 (bz x.1.1 x.1.2.1 2), .si .i64 (bz x.1.1 x.1.2.1 3), .si .i64 (bz x.1.1 x.1.2.1 4)]), (42, .vec 51 2 (i + 1) fun j => liC (L j))], 60, []⟩)
      (fun x => 5 - x.1.1) hG ⟨(0, (fun _ => 0), (fun _ => 0), (fun _ => 0), k + 1), Nat.zero_le _, ⟨by simp only; omega, by simp only; omega⟩, fun j hj => absurd hj (Nat.not_lt_zero j)⟩ (fun j => j) ?_ ?_
    · refine ⟨?_, ?_, rfl, rfl, rfl, rfl, trivial⟩ <;> repeat' (first | exact trivial | exact rfl | (intro i hi; exact ⟨rfl, rfl⟩) | refine And.intro ?_ ?_)
    clear hk0 hk1 hd0 hd1 hd6 hd7 d3
    rintro ⟨⟨p, b, lo, hi, k⟩, hp, ⟨hk0, hk1⟩, hP⟩
    simp only at hp hk0 hk1 hP
    rcases (show p = 0 ∨ p = 1 ∨ p = 2 ∨ p = 3 ∨ p = 4 ∨ p = 5 by omega) with rfl | rfl | rfl | rfl | rfl | rfl
    · refine Br.mk (fun _ => ?_) (fun h => by cases h)
      refine fb_call (g.ok _ _ _) cont_std rfl rfl rfl rfl ⟨b89, draw_60 hm hv hk0 (by omega) (by decide) (by decide) ⟨rfl, rfl, rfl, trivial⟩ (fun d4 hd8 hd9 => ?_)⟩
      refine Chk.mk (show InK .i64 (base + d4) from ⟨by omega, by omega⟩) ?_
      refine Chk.mk (bnd 0 5 rfl) ?_
      refine any_region (by kernel_rfl) ?_
      refine any_take 0 (g.ok _ _ _) rfl rfl rfl rfl rfl rfl rfl (by kernel_rfl) (by kernel_rfl) (by kernel_rfl) ?_
      refine any_take 1 (g.ok _ _ _) rfl rfl rfl rfl rfl rfl rfl (by kernel_rfl) (by kernel_rfl) (by kernel_rfl) ?_
      refine Chk.mk (bnd 0 5 rfl) ?_
      refine any_take 3 (g.ok _ _ _) rfl rfl rfl rfl rfl rfl rfl (by kernel_rfl) (by kernel_rfl) (by kernel_rfl) ?_
      refine any_forkE (ι := {d : Int // 0 ≤ d ∧ d < 3}) [2, 4] (fun x => ⟨[(50, ⟨[], .si .i64 (base + d4)⟩), (52, ⟨[], .si .i64 x.1⟩), (0, ⟨[], .fn (.func 89) [] [.sp 38 0, .sp 39 0]⟩), (2, ⟨[], .sp 40 0⟩), (3, ⟨[], .sp 41 0⟩), (6, ⟨[], .si .i64 base⟩), (7, ⟨[], .si .i64 0⟩), (39, ⟨[], .si .i64 0⟩)], [], [(38, .cells 3 [.si .i64 (k + 1 + 1)]), (39, .cells 42 [.sl 0]), (0, .ro 1 m fun j => [.si .u16 (v j)]), (40, .cells 27 [.sl 42, .si .i64 (bz 0 lo 0), .si .i64 (bz 0 hi 0), .si .i64 (bz 0 lo 1), .si .i64 (bz 0 hi 1), .si .i64 (bz 0 lo 2), .si .i64 (bz 0 hi 2), .si .i64 (bz 0 lo 3), .si .i64 (bz 0 hi 3), .si .i64 (bz 0 lo 4), .si .i64 (bz 0 hi 4), .si .i64 0]), (41, .cells 45 [.si .i64 (base + d4), .si .i64 (bz 0 b 1), .si .i64 (bz 0 b 2), .si .i64 (bz 0 b 3), .si .i64 (bz 0 b 4)]), (42, .vec 51 2 (i + 1) fun j => liC (L j))], 60, []⟩) 3 #[true, true, true, true, true, false, false, false] (g.ok _ _ _) (by kernel_rfl) (by decide) (fun K hK => ⟨?_, ?_, trivial⟩) ?_
      · refine any_step [4] (g.ok _ _ _) (by kernel_rfl) (by decide) ⟨?_, trivial⟩
        refine fb_call (g.ok _ _ _) cont_any rfl rfl rfl rfl ⟨b89, draw_60 hm hv (by omega) (by omega) (by decide) (by decide) ⟨rfl, rfl, rfl, trivial⟩ (fun d h1 h2 => ?_)⟩
        refine any_weaken 40 (fun j => j) hG ?_ (hK ⟨d, h1, h2⟩)
        refine ⟨?_, ?_, rfl, rfl, rfl, rfl, trivial⟩ <;> repeat' (first | exact trivial | exact rfl | (intro i hi; exact ⟨rfl, rfl⟩) | refine And.intro ?_ ?_)
      · refine fb_call (g.ok _ _ _) cont_any rfl rfl rfl rfl ⟨b89, draw_60 hm hv (by omega) (by omega) (by decide) (by decide) ⟨rfl, rfl, rfl, trivial⟩ (fun d h1 h2 => ?_)⟩
        refine any_step [2] (g.ok _ _ _) (by kernel_rfl) (by decide) ⟨?_, trivial⟩
        refine any_weaken 40 (fun j => j) hG ?_ (hK ⟨d, h1, h2⟩)
        refine ⟨?_, ?_, rfl, rfl, rfl, rfl, trivial⟩ <;> repeat' (first | exact trivial | exact rfl | (intro i hi; exact ⟨rfl, rfl⟩) | refine And.intro ?_ ?_)
      rintro ⟨d5, h51, h52⟩
      refine any_take 5 (g.ok _ _ _) rfl rfl rfl rfl rfl rfl rfl (by kernel_rfl) (by kernel_rfl) (by kernel_rfl) ?_
      refine Chk.mk (show InK .i64 (base + d4 - d5) from ⟨by omega, by omega⟩) ?_
      refine any_step [6] (g.ok _ _ _) (by kernel_rfl) (by decide) ⟨?_, trivial⟩
      refine any_take 7 (g.ok _ _ _) rfl rfl rfl rfl rfl rfl rfl (by kernel_rfl) (by kernel_rfl) (by kernel_rfl) ?_
      refine any_done (by kernel_rfl) ?_
      refine any_region (by kernel_rfl) ?_
      refine any_take 0 (g.ok _ _ _) rfl rfl rfl rfl rfl rfl rfl (by kernel_rfl) (by kernel_rfl) (by kernel_rfl) ?_
      refine any_take 1 (g.ok _ _ _) rfl rfl rfl rfl rfl rfl rfl (by kernel_rfl) (by kernel_rfl) (by kernel_rfl) ?_
      refine any_take 2 (g.ok _ _ _) rfl rfl rfl rfl rfl rfl rfl (by kernel_rfl) (by kernel_rfl) (by kernel_rfl) ?_
      refine any_take 3 (g.ok _ _ _) rfl rfl rfl rfl rfl rfl rfl (by kernel_rfl) (by kernel_rfl) (by kernel_rfl) ?_
      refine Chk.mk (bnd 0 5 rfl) ?_
      refine any_take 5 (g.ok _ _ _) rfl rfl rfl rfl rfl rfl rfl (by kernel_rfl) (by kernel_rfl) (by kernel_rfl) ?_
      refine any_take 10 (g.ok _ _ _) rfl rfl rfl rfl rfl rfl rfl (by kernel_rfl) (by kernel_rfl) (by kernel_rfl) ?_
      refine any_forkE (ι := {d : Int // 0 ≤ d ∧ d < 3}) [4, 6] (fun x => ⟨[(55, ⟨[], .si .i64 0⟩), (56, ⟨[], .si .i64 (max (-20) (base + d4 - d5))⟩), (59, ⟨[], .si .i64 (base + d4)⟩), (61, ⟨[], .si .i64 x.1⟩), (65, ⟨[], .sp 40 1⟩), (0, ⟨[], .fn (.func 89) [] [.sp 38 0, .sp 39 0]⟩), (2, ⟨[], .sp 40 0⟩), (3, ⟨[], .sp 41 0⟩), (6, ⟨[], .si .i64 base⟩), (7, ⟨[], .si .i64 0⟩), (39, ⟨[], .si .i64 0⟩)], [], [(38, .cells 3 [.si .i64 (k + 1 + 1 + 1)]), (39, .cells 42 [.sl 0]), (0, .ro 1 m fun j => [.si .u16 (v j)]), (40, .cells 27 [.sl 42, .si .i64 (bz 0 lo 0), .si .i64 (bz 0 hi 0), .si .i64 (bz 0 lo 1), .si .i64 (bz 0 hi 1), .si .i64 (bz 0 lo 2), .si .i64 (bz 0 hi 2), .si .i64 (bz 0 lo 3), .si .i64 (bz 0 hi 3), .si .i64 (bz 0 lo 4), .si .i64 (bz 0 hi 4), .si .i64 0]), (41, .cells 45 [.si .i64 (base + d4), .si .i64 (bz 0 b 1), .si .i64 (bz 0 b 2), .si .i64 (bz 0 b 3), .si .i64 (bz 0 b 4)]), (42, .vec 51 2 (i + 1) fun j => liC (L j))], 60, []⟩) 5 #[true, true, true, true, true, true, true, false, false, false, true, false, false] (g.ok _ _ _) (by kernel_rfl) (by decide) (fun K hK => ⟨?_, ?_, trivial⟩) ?_
      · refine any_step [6] (g.ok _ _ _) (by kernel_rfl) (by decide) ⟨?_, trivial⟩
        refine fb_call (g.ok _ _ _) cont_any rfl rfl rfl rfl ⟨b89, draw_60 hm hv (by omega) (by omega) (by decide) (by decide) ⟨rfl, rfl, rfl, trivial⟩ (fun d h1 h2 => ?_)⟩
        refine any_weaken 40 (fun j => j) hG ?_ (hK ⟨d, h1, h2⟩)
        refine ⟨?_, ?_, rfl, rfl, rfl, rfl, trivial⟩ <;> repeat' (first | exact trivial | exact rfl | (intro i hi; exact ⟨rfl, rfl⟩) | refine And.intro ?_ ?_)
      · refine fb_call (g.ok _ _ _) cont_any rfl rfl rfl rfl ⟨b89, draw_60 hm hv (by omega) (by omega) (by decide) (by decide) ⟨rfl, rfl, rfl, trivial⟩ (fun d h1 h2 => ?_)⟩
        refine any_step [4] (g.ok _ _ _) (by kernel_rfl) (by decide) ⟨?_, trivial⟩
        refine any_weaken 40 (fun j => j) hG ?_ (hK ⟨d, h1, h2⟩)
        refine ⟨?_, ?_, rfl, rfl, rfl, rfl, trivial⟩ <;> repeat' (first | exact trivial | exact rfl | (intro i hi; exact ⟨rfl, rfl⟩) | refine And.intro ?_ ?_)
      rintro ⟨d6, h61, h62⟩
      refine any_take 7 (g.ok _ _ _) rfl rfl rfl rfl rfl rfl rfl (by kernel_rfl) (by kernel_rfl) (by kernel_rfl) ?_
      refine Chk.mk (show InK .i64 (base + d4 + d6) from ⟨by omega, by omega⟩) ?_
      refine any_step [8] (g.ok _ _ _) (by kernel_rfl) (by decide) ⟨?_, trivial⟩
      refine any_step [9] (g.ok _ _ _) (by kernel_rfl) (by decide) ⟨?_, trivial⟩
      refine any_take 11 (g.ok _ _ _) rfl rfl rfl rfl rfl rfl rfl (by kernel_rfl) (by kernel_rfl) (by kernel_rfl) ?_
      refine Chk.mk (bnd 0 5 rfl) ?_
      refine any_step [12] (g.ok _ _ _) (by kernel_rfl) (by decide) ⟨?_, trivial⟩
      refine any_done (by kernel_rfl) ?_
      refine Chk.mk (ink1 0 rfl) ⟨⟨(1, putF b 0 (base + d4), putF lo 0 (max (-20) (base + d4 - d5)), putF hi 0 (min 20 (base + d4 + d6)), k + 1 + 1 + 1), by show 1 ≤ 5; decide, ⟨by simp only; omega, by simp only; omega⟩, ptOk_next hP ⟨by omega, by omega⟩ ⟨by omega, by omega, by omega, by omega, by omega⟩⟩, (fun j => j), ?_, by show 5 - 1 < 5 - 0; omega⟩
      refine ⟨?_, ?_, rfl, rfl, rfl, rfl, trivial⟩ <;> repeat' (first | exact trivial | exact rfl | (intro i hi; exact ⟨rfl, rfl⟩) | refine And.intro ?_ ?_)
    · refine Br.mk (fun _ => ?_) (fun h => by cases h)
      refine fb_call (g.ok _ _ _) cont_std rfl rfl rfl rfl ⟨b89, draw_60 hm hv hk0 (by omega) (by decide) (by decide) ⟨rfl, rfl, rfl, trivial⟩ (fun d4 hd8 hd9 => ?_)⟩
      refine Chk.mk (show InK .i64 (base + d4) from ⟨by omega, by omega⟩) ?_
      refine Chk.mk (bnd 1 5 rfl) ?_
      refine any_region (by kernel_rfl) ?_
      refine any_take 0 (g.ok _ _ _) rfl rfl rfl rfl rfl rfl rfl (by kernel_rfl) (by kernel_rfl) (by kernel_rfl) ?_
      refine any_take 1 (g.ok _ _ _) rfl rfl rfl rfl rfl rfl rfl (by kernel_rfl) (by kernel_rfl) (by kernel_rfl) ?_
      refine Chk.mk (bnd 1 5 rfl) ?_
      refine any_take 3 (g.ok _ _ _) rfl rfl rfl rfl rfl rfl rfl (by kernel_rfl) (by kernel_rfl) (by kernel_rfl) ?_
      refine any_forkE (ι := {d : Int // 0 ≤ d ∧ d < 3}) [2, 4] (fun x => ⟨[(50, ⟨[], .si .i64 (base + d4)⟩), (52, ⟨[], .si .i64 x.1⟩), (0, ⟨[], .fn (.func 89) [] [.sp 38 0, .sp 39 0]⟩), (2, ⟨[], .sp 40 0⟩), (3, ⟨[], .sp 41 0⟩), (6, ⟨[], .si .i64 base⟩), (7, ⟨[], .si .i64 1⟩), (39, ⟨[], .si .i64 1⟩)], [], [(38, .cells 3 [.si .i64 (k + 1 + 1)]), (39, .cells 42 [.sl 0]), (0, .ro 1 m fun j => [.si .u16 (v j)]), (40, .cells 27 [.sl 42, .si .i64 (bz 1 lo 0), .si .i64 (bz 1 hi 0), .si .i64 (bz 1 lo 1), .si .i64 (bz 1 hi 1), .si .i64 (bz 1 lo 2), .si .i64 (bz 1 hi 2), .si .i64 (bz 1 lo 3), .si .i64 (bz 1 hi 3), .si .i64 (bz 1 lo 4), .si .i64 (bz 1 hi 4), .si .i64 0]), (41, .cells 45 [.si .i64 (bz 1 b 0), .si .i64 (base + d4), .si .i64 (bz 1 b 2), .si .i64 (bz 1 b 3), .si .i64 (bz 1 b 4)]), (42, .vec 51 2 (i + 1) fun j => liC (L j))], 60, []⟩) 3 #[true, true, true, true, true, false, false, false] (g.ok _ _ _) (by kernel_rfl) (by decide) (fun K hK => ⟨?_, ?_, trivial⟩) ?_
      · refine any_step [4] (g.ok _ _ _) (by kernel_rfl) (by decide) ⟨?_, trivial⟩
        refine fb_call (g.ok _ _ _) cont_any rfl rfl rfl rfl ⟨b89, draw_60 hm hv (by omega) (by omega) (by decide) (by decide) ⟨rfl, rfl, rfl, trivial⟩ (fun d h1 h2 => ?_)⟩
        refine any_weaken 40 (fun j => j) hG ?_ (hK ⟨d, h1, h2⟩)
        refine ⟨?_, ?_, rfl, rfl, rfl, rfl, trivial⟩ <;> repeat' (first | exact trivial | exact rfl | (intro i hi; exact ⟨rfl, rfl⟩) | refine And.intro ?_ ?_)
      · refine fb_call (g.ok _ _ _) cont_any rfl rfl rfl rfl ⟨b89, draw_60 hm hv (by omega) (by omega) (by decide) (by decide) ⟨rfl, rfl, rfl, trivial⟩ (fun d h1 h2 => ?_)⟩
        refine any_step [2] (g.ok _ _ _) (by kernel_rfl) (by decide) ⟨?_, trivial⟩
        refine any_weaken 40 (fun j => j) hG ?_ (hK ⟨d, h1, h2⟩)
        refine ⟨?_, ?_, rfl, rfl, rfl, rfl, trivial⟩ <;> repeat' (first | exact trivial | exact rfl | (intro i hi; exact ⟨rfl, rfl⟩) | refine And.intro ?_ ?_)
      rintro ⟨d5, h51, h52⟩
      refine any_take 5 (g.ok _ _ _) rfl rfl rfl rfl rfl rfl rfl (by kernel_rfl) (by kernel_rfl) (by kernel_rfl) ?_
      refine Chk.mk (show InK .i64 (base + d4 - d5) from ⟨by omega, by omega⟩) ?_
      refine any_step [6] (g.ok _ _ _) (by kernel_rfl) (by decide) ⟨?_, trivial⟩
      refine any_take 7 (g.ok _ _ _) rfl rfl rfl rfl rfl rfl rfl (by kernel_rfl) (by kernel_rfl) (by kernel_rfl) ?_
      refine any_done (by kernel_rfl) ?_
      refine any_region (by kernel_rfl) ?_
      refine any_take 0 (g.ok _ _ _) rfl rfl rfl rfl rfl rfl rfl (by kernel_rfl) (by kernel_rfl) (by kernel_rfl) ?_
      refine any_take 1 (g.ok _ _ _) rfl rfl rfl rfl rfl rfl rfl (by kernel_rfl) (by kernel_rfl) (by kernel_rfl) ?_
      refine any_take 2 (g.ok _ _ _) rfl rfl rfl rfl rfl rfl rfl (by kernel_rfl) (by kernel_rfl) (by kernel_rfl) ?_
      refine any_take 3 (g.ok _ _ _) rfl rfl rfl rfl rfl rfl rfl (by kernel_rfl) (by kernel_rfl) (by kernel_rfl) ?_
      refine Chk.mk (bnd 1 5 rfl) ?_
      refine any_take 5 (g.ok _ _ _) rfl rfl rfl rfl rfl rfl rfl (by kernel_rfl) (by kernel_rfl) (by kernel_rfl) ?_
      refine any_take 10 (g.ok _ _ _) rfl rfl rfl rfl rfl rfl rfl (by kernel_rfl) (by kernel_rfl) (by kernel_rfl) ?_
      refine any_forkE (ι := {d : Int // 0 ≤ d ∧ d < 3}) [4, 6] (fun x => ⟨[(55, ⟨[], .si .i64 1⟩), (56, ⟨[], .si .i64 (max (-20) (base + d4 - d5))⟩), (59, ⟨[], .si .i64 (base + d4)⟩), (61, ⟨[], .si .i64 x.1⟩), (65, ⟨[], .sp 40 1⟩), (0, ⟨[], .fn (.func 89) [] [.sp 38 0, .sp 39 0]⟩), (2, ⟨[], .sp 40 0⟩), (3, ⟨[], .sp 41 0⟩), (6, ⟨[], .si .i64 base⟩), (7, ⟨[], .si .i64 1⟩), (39, ⟨[], .si .i64 1⟩)], [], [(38, .cells 3 [.si .i64 (k + 1 + 1 + 1)]), (39, .cells 42 [.sl 0]), (0, .ro 1 m fun j => [.si .u16 (v j)]), (40, .cells 27 [.sl 42, .si .i64 (bz 1 lo 0), .si .i64 (bz 1 hi 0), .si .i64 (bz 1 lo 1), .si .i64 (bz 1 hi 1), .si .i64 (bz 1 lo 2), .si .i64 (bz 1 hi 2), .si .i64 (bz 1 lo 3), .si .i64 (bz 1 hi 3), .si .i64 (bz 1 lo 4), .si .i64 (bz 1 hi 4), .si .i64 0]), (41, .cells 45 [.si .i64 (bz 1 b 0), .si .i64 (base + d4), .si .i64 (bz 1 b 2), .si .i64 (bz 1 b 3), .si .i64 (bz 1 b 4)]), (42, .vec 51 2 (i + 1) fun j => liC (L j))], 60, []⟩) 5 #[true, true, true, true, true, true, true, false, false, false, true, false, false] (g.ok _ _ _) (by kernel_rfl) (by decide) (fun K hK => ⟨?_, ?_, trivial⟩) ?_
      · refine any_step [6] (g.ok _ _ _) (by kernel_rfl) (by decide) ⟨?_, trivial⟩
        refine fb_call (g.ok _ _ _) cont_any rfl rfl rfl rfl ⟨b89, draw_60 hm hv (by omega) (by omega) (by decide) (by decide) ⟨rfl, rfl, rfl, trivial⟩ (fun d h1 h2 => ?_)⟩
        refine any_weaken 40 (fun j => j) hG ?_ (hK ⟨d, h1, h2⟩)
        refine ⟨?_, ?_, rfl, rfl, rfl, rfl, trivial⟩ <;> repeat' (first | exact trivial | exact rfl | (intro i hi; exact ⟨rfl, rfl⟩) | refine And.intro ?_ ?_)
      · refine fb_call (g.ok _ _ _) cont_any rfl rfl rfl rfl ⟨b89, draw_60 hm hv (by omega) (by omega) (by decide) (by decide) ⟨rfl, rfl, rfl, trivial⟩ (fun d h1 h2 => ?_)⟩
        refine any_step [4] (g.ok _ _ _) (by kernel_rfl) (by decide) ⟨?_, trivial⟩
        refine any_weaken 40 (fun j => j) hG ?_ (hK ⟨d, h1, h2⟩)
        refine ⟨?_, ?_, rfl, rfl, rfl, rfl, trivial⟩ <;> repeat' (first | exact trivial | exact rfl | (intro i hi; exact ⟨rfl, rfl⟩) | refine And.intro ?_ ?_)
      rintro ⟨d6, h61, h62⟩
      refine any_take 7 (g.ok _ _ _) rfl rfl rfl rfl rfl rfl rfl (by kernel_rfl) (by kernel_rfl) (by kernel_rfl) ?_
      refine Chk.mk (show InK .i64 (base + d4 + d6) from ⟨by omega, by omega⟩) ?_
      refine any_step [8] (g.ok _ _ _) (by kernel_rfl) (by decide) ⟨?_, trivial⟩
      refine any_step [9] (g.ok _ _ _) (by kernel_rfl) (by decide) ⟨?_, trivial⟩
      refine any_take 11 (g.ok _ _ _) rfl rfl rfl rfl rfl rfl rfl (by kernel_rfl) (by kernel_rfl) (by kernel_rfl) ?_
      refine Chk.mk (bnd 1 5 rfl) ?_
      refine any_step [12] (g.ok _ _ _) (by kernel_rfl) (by decide) ⟨?_, trivial⟩
      refine any_done (by kernel_rfl) ?_
      refine Chk.mk (ink1 1 rfl) ⟨⟨(2, putF b 1 (base + d4), putF lo 1 (max (-20) (base + d4 - d5)), putF hi 1 (min 20 (base + d4 + d6)), k + 1 + 1 + 1), by show 2 ≤ 5; decide, ⟨by simp only; omega, by simp only; omega⟩, ptOk_next hP ⟨by omega, by omega⟩ ⟨by omega, by omega, by omega, by omega, by omega⟩⟩, (fun j => j), ?_, by show 5 - 2 < 5 - 1; omega⟩
      refine ⟨?_, ?_, rfl, rfl, rfl, rfl, trivial⟩ <;> repeat' (first | exact trivial | exact rfl | (intro i hi; exact ⟨rfl, rfl⟩) | refine And.intro ?_ ?_)
    · refine Br.mk (fun _ => ?_) (fun h => by cases h)
      refine fb_call (g.ok _ _ _) cont_std rfl rfl rfl rfl ⟨b89, draw_60 hm hv hk0 (by omega) (by decide) (by decide) ⟨rfl, rfl, rfl, trivial⟩ (fun d4 hd8 hd9 => ?_)⟩
      refine Chk.mk (show InK .i64 (base + d4) from ⟨by omega, by omega⟩) ?_
      refine Chk.mk (bnd 2 5 rfl) ?_
      refine any_region (by kernel_rfl) ?_
      refine any_take 0 (g.ok _ _ _) rfl rfl rfl rfl rfl rfl rfl (by kernel_rfl) (by kernel_rfl) (by kernel_rfl) ?_
      refine any_take 1 (g.ok _ _ _) rfl rfl rfl rfl rfl rfl rfl (by kernel_rfl) (by kernel_rfl) (by kernel_rfl) ?_
      refine Chk.mk (bnd 2 5 rfl) ?_
      refine any_take 3 (g.ok _ _ _) rfl rfl rfl rfl rfl rfl rfl (by kernel_rfl) (by kernel_rfl) (by kernel_rfl) ?_
      refine any_forkE (ι := {d : Int // 0 ≤ d ∧ d < 3}) [2, 4] (fun x => ⟨[(50, ⟨[], .si .i64 (base + d4)⟩), (52, ⟨[], .si .i64 x.1⟩), (0, ⟨[], .fn (.func 89) [] [.sp 38 0, .sp 39 0]⟩), (2, ⟨[], .sp 40 0⟩), (3, ⟨[], .sp 41 0⟩), (6, ⟨[], .si .i64 base⟩), (7, ⟨[], .si .i64 2⟩), (39, ⟨[], .si .i64 2⟩)], [], [(38, .cells 3 [.si .i64 (k + 1 + 1)]), (39, .cells 42 [.sl 0]), (0, .ro 1 m fun j => [.si .u16 (v j)]), (40, .cells 27 [.sl 42, .si .i64 (bz 2 lo 0), .si .i64 (bz 2 hi 0), .si .i64 (bz 2 lo 1), .si .i64 (bz 2 hi 1), .si .i64 (bz 2 lo 2), .si .i64 (bz 2 hi 2), .si .i64 (bz 2 lo 3), .si .i64 (bz 2 hi 3), .si .i64 (bz 2 lo 4), .si .i64 (bz 2 hi 4), .si .i64 0]), (41, .cells 45 [.si .i64 (bz 2 b 0), .si .i64 (bz 2 b 1), .si .i64 (base + d4), .si .i64 (bz 2 b 3), .si .i64 (bz 2 b 4)]), (42, .vec 51 2 (i + 1) fun j => liC (L j))], 60, []⟩) 3 #[true, true, true, true, true, false, false, false] (g.ok _ _ _) (by kernel_rfl) (by decide) (fun K hK => ⟨?_, ?_, trivial⟩) ?_
      · refine any_step [4] (g.ok _ _ _) (by kernel_rfl) (by decide) ⟨?_, trivial⟩
        refine fb_call (g.ok _ _ _) cont_any rfl rfl rfl rfl ⟨b89, draw_60 hm hv (by omega) (by omega) (by decide) (by decide) ⟨rfl, rfl, rfl, trivial⟩ (fun d h1 h2 => ?_)⟩
        refine any_weaken 40 (fun j => j) hG ?_ (hK ⟨d, h1, h2⟩)
        refine ⟨?_, ?_, rfl, rfl, rfl, rfl, trivial⟩ <;> repeat' (first | exact trivial | exact rfl | (intro i hi; exact ⟨rfl, rfl⟩) | refine And.intro ?_ ?_)
      · refine fb_call (g.ok _ _ _) cont_any rfl rfl rfl rfl ⟨b89, draw_60 hm hv (by omega) (by omega) (by decide) (by decide) ⟨rfl, rfl, rfl, trivial⟩ (fun d h1 h2 => ?_)⟩
        refine any_step [2] (g.ok _ _ _) (by kernel_rfl) (by decide) ⟨?_, trivial⟩
        refine any_weaken 40 (fun j => j) hG ?_ (hK ⟨d, h1, h2⟩)
        refine ⟨?_, ?_, rfl, rfl, rfl, rfl, trivial⟩ <;> repeat' (first | exact trivial | exact rfl | (intro i hi; exact ⟨rfl, rfl⟩) | refine And.intro ?_ ?_)
      rintro ⟨d5, h51, h52⟩
      refine any_take 5 (g.ok _ _ _) rfl rfl rfl rfl rfl rfl rfl (by kernel_rfl) (by kernel_rfl) (by kernel_rfl) ?_
      refine Chk.mk (show InK .i64 (base + d4 - d5) from ⟨by omega, by omega⟩) ?_
      refine any_step [6] (g.ok _ _ _) (by kernel_rfl) (by decide) ⟨?_, trivial⟩
      refine any_take 7 (g.ok _ _ _) rfl rfl rfl rfl rfl rfl rfl (by kernel_rfl) (by kernel_rfl) (by kernel_rfl) ?_
      refine any_done (by kernel_rfl) ?_
      refine any_region (by kernel_rfl) ?_
      refine any_take 0 (g.ok _ _ _) rfl rfl rfl rfl rfl rfl rfl (by kernel_rfl) (by kernel_rfl) (by kernel_rfl) ?_
      refine any_take 1 (g.ok _ _ _) rfl rfl rfl rfl rfl rfl rfl (by kernel_rfl) (by kernel_rfl) (by kernel_rfl) ?_
      refine any_take 2 (g.ok _ _ _) rfl rfl rfl rfl rfl rfl rfl (by kernel_rfl) (by kernel_rfl) (by kernel_rfl) ?_
      refine any_take 3 (g.ok _ _ _) rfl rfl rfl rfl rfl rfl rfl (by kernel_rfl) (by kernel_rfl) (by kernel_rfl) ?_
      refine Chk.mk (bnd 2 5 rfl) ?_
      refine any_take 5 (g.ok _ _ _) rfl rfl rfl rfl rfl rfl rfl (by kernel_rfl) (by kernel_rfl) (by kernel_rfl) ?_
      refine any_take 10 (g.ok _ _ _) rfl rfl rfl rfl rfl rfl rfl (by kernel_rfl) (by kernel_rfl) (by kernel_rfl) ?_
      refine any_forkE (ι := {d : Int // 0 ≤ d ∧ d < 3}) [4, 6] (fun x => ⟨[(55, ⟨[], .si .i64 2⟩), (56, ⟨[], .si .i64 (max (-20) (base + d4 - d5))⟩), (59, ⟨[], .si .i64 (base + d4)⟩), (61, ⟨[], .si .i64 x.1⟩), (65, ⟨[], .sp 40 1⟩), (0, ⟨[], .fn (.func 89) [] [.sp 38 0, .sp 39 0]⟩), (2, ⟨[], .sp 40 0⟩), (3, ⟨[], .sp 41 0⟩), (6, ⟨[], .si .i64 base⟩), (7, ⟨[], .si .i64 2⟩), (39, ⟨[], .si .i64 2⟩)], [], [(38, .cells 3 [.si .i64 (k + 1 + 1 + 1)]), (39, .cells 42 [.sl 0]), (0, .ro 1 m fun j => [.si .u16 (v j)]), (40, .cells 27 [.sl 42, .si .i64 (bz 2 lo 0), .si .i64 (bz 2 hi 0), .si .i64 (bz 2 lo 1), .si .i64 (bz 2 hi 1), .si .i64 (bz 2 lo 2), .si .i64 (bz 2 hi 2), .si .i64 (bz 2 lo 3), .si .i64 (bz 2 hi 3), .si .i64 (bz 2 lo 4), .si .i64 (bz 2 hi 4), .si .i64 0]), (41, .cells 45 [.si .i64 (bz 2 b 0), .si .i64 (bz 2 b 1), .si .i64 (base + d4), .si .i64 (bz 2 b 3), .si .i64 (bz 2 b 4)]), (42, .vec 51 2 (i + 1) fun j => liC (L j))], 60, []⟩) 5 #[true, true, true, true, true, true, true, false, false, false, true, false, false] (g.ok _ _ _) (by kernel_rfl) (by decide) (fun K hK => ⟨?_, ?_, trivial⟩) ?_
      · refine any_step [6] (g.ok _ _ _) (by kernel_rfl) (by decide) ⟨?_, trivial⟩
        refine fb_call (g.ok _ _ _) cont_any rfl rfl rfl rfl ⟨b89, draw_60 hm hv (by omega) (by omega) (by decide) (by decide) ⟨rfl, rfl, rfl, trivial⟩ (fun d h1 h2 => ?_)⟩
        refine any_weaken 40 (fun j => j) hG ?_ (hK ⟨d, h1, h2⟩)
        refine ⟨?_, ?_, rfl, rfl, rfl, rfl, trivial⟩ <;> repeat' (first | exact trivial | exact rfl | (intro i hi; exact ⟨rfl, rfl⟩) | refine And.intro ?_ ?_)
      · refine fb_call (g.ok _ _ _) cont_any rfl rfl rfl rfl ⟨b89, draw_60 hm hv (by omega) (by omega) (by decide) (by decide) ⟨rfl, rfl, rfl, trivial⟩ (fun d h1 h2 => ?_)⟩
        refine any_step [4] (g.ok _ _ _) (by kernel_rfl) (by decide) ⟨?_, trivial⟩
        refine any_weaken 40 (fun j => j) hG ?_ (hK ⟨d, h1, h2⟩)
        refine ⟨?_, ?_, rfl, rfl, rfl, rfl, trivial⟩ <;> repeat' (first | exact trivial | exact rfl | (intro i hi; exact ⟨rfl, rfl⟩) | refine And.intro ?_ ?_)
      rintro ⟨d6, h61, h62⟩
      refine any_take 7 (g.ok _ _ _) rfl rfl rfl rfl rfl rfl rfl (by kernel_rfl) (by kernel_rfl) (by kernel_rfl) ?_
      refine Chk.mk (show InK .i64 (base + d4 + d6) from ⟨by omega, by omega⟩) ?_
      refine any_step [8] (g.ok _ _ _) (by kernel_rfl) (by decide) ⟨?_, trivial⟩
      refine any_step [9] (g.ok _ _ _) (by kernel_rfl) (by decide) ⟨?_, trivial⟩
      refine any_take 11 (g.ok _ _ _) rfl rfl rfl rfl rfl rfl rfl (by kernel_rfl) (by kernel_rfl) (by kernel_rfl) ?_
      refine Chk.mk (bnd 2 5 rfl) ?_
      refine any_step [12] (g.ok _ _ _) (by kernel_rfl) (by decide) ⟨?_, trivial⟩
      refine any_done (by kernel_rfl) ?_
      refine Chk.mk (ink1 2 rfl) ⟨⟨(3, putF b 2 (base + d4), putF lo 2 (max (-20) (base + d4 - d5)), putF hi 2 (min 20 (base + d4 + d6)), k + 1 + 1 + 1), by show 3 ≤ 5; decide, ⟨by simp only; omega, by simp only; omega⟩, ptOk_next hP ⟨by omega, by omega⟩ ⟨by omega, by omega, by omega, by omega, by omega⟩⟩, (fun j => j), ?_, by show 5 - 3 < 5 - 2; omega⟩
      refine ⟨?_, ?_, rfl, rfl, rfl, rfl, trivial⟩ <;> repeat' (first | exact trivial | exact rfl | (intro i hi; exact ⟨rfl, rfl⟩) | refine And.intro ?_ ?_)
    · refine Br.mk (fun _ => ?_) (fun h => by cases h)
      refine fb_call (g.ok _ _ _) cont_std rfl rfl rfl rfl ⟨b89, draw_60 hm hv hk0 (by omega) (by decide) (by decide) ⟨rfl, rfl, rfl, trivial⟩ (fun d4 hd8 hd9 => ?_)⟩
      refine Chk.mk (show InK .i64 (base + d4) from ⟨by omega, by omega⟩) ?_
      refine Chk.mk (bnd 3 5 rfl) ?_
      refine any_region (by kernel_rfl) ?_
      refine any_take 0 (g.ok _ _ _) rfl rfl rfl rfl rfl rfl rfl (by kernel_rfl) (by kernel_rfl) (by kernel_rfl) ?_
      refine any_take 1 (g.ok _ _ _) rfl rfl rfl rfl rfl rfl rfl (by kernel_rfl) (by kernel_rfl) (by kernel_rfl) ?_
      refine Chk.mk (bnd 3 5 rfl) ?_
      refine any_take 3 (g.ok _ _ _) rfl rfl rfl rfl rfl rfl rfl (by kernel_rfl) (by kernel_rfl) (by kernel_rfl) ?_
      refine any_forkE (ι := {d : Int // 0 ≤ d ∧ d < 3}) [2, 4] (fun x => ⟨[(50, ⟨[], .si .i64 (base + d4)⟩), (52, ⟨[], .si .i64 x.1⟩), (0, ⟨[], .fn (.func 89) [] [.sp 38 0, .sp 39 0]⟩), (2, ⟨[], .sp 40 0⟩), (3, ⟨[], .sp 41 0⟩), (6, ⟨[], .si .i64 base⟩), (7, ⟨[], .si .i64 3⟩), (39, ⟨[], .si .i64 3⟩)], [], [(38, .cells 3 [.si .i64 (k + 1 + 1)]), (39, .cells 42 [.sl 0]), (0, .ro 1 m fun j => [.si .u16 (v j)]), (40, .cells 27 [.sl 42, .si .i64 (bz 3 lo 0), .si .i64 (bz 3 hi 0), .si .i64 (bz 3 lo 1), .si .i64 (bz 3 hi 1), .si .i64 (bz 3 lo 2), .si .i64 (bz 3 hi 2), .si .i64 (bz 3 lo 3), .si .i64 (bz 3 hi 3), .si .i64 (bz 3 lo 4), .si .i64 (bz 3 hi 4), .si .i64 0]), (41, .cells 45 [.si .i64 (bz 3 b 0), .si .i64 (bz 3 b 1), .si .i64 (bz 3 b 2), .si .i64 (base + d4), .si .i64 (bz 3 b 4)]), (42, .vec 51 2 (i + 1) fun j => liC (L j))], 60, []⟩) 3 #[true, true, true, true, true, false, false, false] (g.ok _ _ _) (by kernel_rfl) (by decide) (fun K hK => ⟨?_, ?_, trivial⟩) ?_
      · refine any_step [4] (g.ok _ _ _) (by kernel_rfl) (by decide) ⟨?_, trivial⟩
        refine fb_call (g.ok _ _ _) cont_any rfl rfl rfl rfl ⟨b89, draw_60 hm hv (by omega) (by omega) (by decide) (by decide) ⟨rfl, rfl, rfl, trivial⟩ (fun d h1 h2 => ?_)⟩
        refine any_weaken 40 (fun j => j) hG ?_ (hK ⟨d, h1, h2⟩)
        refine ⟨?_, ?_, rfl, rfl, rfl, rfl, trivial⟩ <;> repeat' (first | exact trivial | exact rfl | (intro i hi; exact ⟨rfl, rfl⟩) | refine And.intro ?_ ?_)
      · refine fb_call (g.ok _ _ _) cont_any rfl rfl rfl rfl ⟨b89, draw_60 hm hv (by omega) (by omega) (by decide) (by decide) ⟨rfl, rfl, rfl, trivial⟩ (fun d h1 h2 => ?_)⟩
        refine any_step [2] (g.ok _ _ _) (by kernel_rfl) (by decide) ⟨?_, trivial⟩
        refine any_weaken 40 (fun j => j) hG ?_ (hK ⟨d, h1, h2⟩)
        refine ⟨?_, ?_, rfl, rfl, rfl, rfl, trivial⟩ <;> repeat' (first | exact trivial | exact rfl | (intro i hi; exact ⟨rfl, rfl⟩) | refine And.intro ?_ ?_)
      rintro ⟨d5, h51, h52⟩
      refine any_take 5 (g.ok _ _ _) rfl rfl rfl rfl rfl rfl rfl (by kernel_rfl) (by kernel_rfl) (by kernel_rfl) ?_
      refine Chk.mk (show InK .i64 (base + d4 - d5) from ⟨by omega, by omega⟩) ?_
      refine any_step [6] (g.ok _ _ _) (by kernel_rfl) (by decide) ⟨?_, trivial⟩
      refine any_take 7 (g.ok _ _ _) rfl rfl rfl rfl rfl rfl rfl (by kernel_rfl) (by kernel_rfl) (by kernel_rfl) ?_
      refine any_done (by kernel_rfl) ?_
      refine any_region (by kernel_rfl) ?_
      refine any_take 0 (g.ok _ _ _) rfl rfl rfl rfl rfl rfl rfl (by kernel_rfl) (by kernel_rfl) (by kernel_rfl) ?_
      refine any_take 1 (g.ok _ _ _) rfl rfl rfl rfl rfl rfl rfl (by kernel_rfl) (by kernel_rfl) (by kernel_rfl) ?_
      refine any_take 2 (g.ok _ _ _) rfl rfl rfl rfl rfl rfl rfl (by kernel_rfl) (by kernel_rfl) (by kernel_rfl) ?_
      refine any_take 3 (g.ok _ _ _) rfl rfl rfl rfl rfl rfl rfl (by kernel_rfl) (by kernel_rfl) (by kernel_rfl) ?_
      refine Chk.mk (bnd 3 5 rfl) ?_
      refine any_take 5 (g.ok _ _ _) rfl rfl rfl rfl rfl rfl rfl (by kernel_rfl) (by kernel_rfl) (by kernel_rfl) ?_
      refine any_take 10 (g.ok _ _ _) rfl rfl rfl rfl rfl rfl rfl (by kernel_rfl) (by kernel_rfl) (by kernel_rfl) ?_
      refine any_forkE (ι := {d : Int // 0 ≤ d ∧ d < 3}) [4, 6] (fun x => ⟨[(55, ⟨[], .si .i64 3⟩), (56, ⟨[], .si .i64 (max (-20) (base + d4 - d5))⟩), (59, ⟨[], .si .i64 (base + d4)⟩), (61, ⟨[], .si .i64 x.1⟩), (65, ⟨[], .sp 40 1⟩), (0, ⟨[], .fn (.func 89) [] [.sp 38 0, .sp 39 0]⟩), (2, ⟨[], .sp 40 0⟩), (3, ⟨[], .sp 41 0⟩), (6, ⟨[], .si .i64 base⟩), (7, ⟨[], .si .i64 3⟩), (39, ⟨[], .si .i64 3⟩)], [], [(38, .cells 3 [.si .i64 (k + 1 + 1 + 1)]), (39, .cells 42 [.sl 0]), (0, .ro 1 m fun j => [.si .u16 (v j)]), (40, .cells 27 [.sl 42, .si .i64 (bz 3 lo 0), .si .i64 (bz 3 hi 0), .si .i64 (bz 3 lo 1), .si .i64 (bz 3 hi 1), .si .i64 (bz 3 lo 2), .si .i64 (bz 3 hi 2), .si .i64 (bz 3 lo 3), .si .i64 (bz 3 hi 3), .si .i64 (bz 3 lo 4), .si .i64 (bz 3 hi 4), .si .i64 0]), (41, .cells 45 [.si .i64 (bz 3 b 0), .si .i64 (bz 3 b 1), .si .i64 (bz 3 b 2), .si .i64 (base + d4), .si .i64 (bz 3 b 4)]), (42, .vec 51 2 (i + 1) fun j => liC (L j))], 60, []⟩) 5 #[true, true, true, true, true, true, true, false, false, false, true, false, false] (g.ok _ _ _) (by kernel_rfl) (by decide) (fun K hK => ⟨?_, ?_, trivial⟩) ?_
      · refine any_step [6] (g.ok _ _ _) (by kernel_rfl) (by decide) ⟨?_, trivial⟩
        refine fb_call (g.ok _ _ _) cont_any rfl rfl rfl rfl ⟨b89, draw_60 hm hv (by omega) (by omega) (by decide) (by decide) ⟨rfl, rfl, rfl, trivial⟩ (fun d h1 h2 => ?_)⟩
        refine any_weaken 40 (fun j => j) hG ?_ (hK ⟨d, h1, h2⟩)
        refine ⟨?_, ?_, rfl, rfl, rfl, rfl, trivial⟩ <;> repeat' (first | exact trivial | exact rfl | (intro i hi; exact ⟨rfl, rfl⟩) | refine And.intro ?_ ?_)
      · refine fb_call (g.ok _ _ _) cont_any rfl rfl rfl rfl ⟨b89, draw_60 hm hv (by omega) (by omega) (by decide) (by decide) ⟨rfl, rfl, rfl, trivial⟩ (fun d h1 h2 => ?_)⟩
        refine any_step [4] (g.ok _ _ _) (by kernel_rfl) (by decide) ⟨?_, trivial⟩
        refine any_weaken 40 (fun j => j) hG ?_ (hK ⟨d, h1, h2⟩)
        refine ⟨?_, ?_, rfl, rfl, rfl, rfl, trivial⟩ <;> repeat' (first | exact trivial | exact rfl | (intro i hi; exact ⟨rfl, rfl⟩) | refine And.intro ?_ ?_)
      rintro ⟨d6, h61, h62⟩
      refine any_take 7 (g.ok _ _ _) rfl rfl rfl rfl rfl rfl rfl (by kernel_rfl) (by kernel_rfl) (by kernel_rfl) ?_
      refine Chk.mk (show InK .i64 (base + d4 + d6) from ⟨by omega, by omega⟩) ?_
      refine any_step [8] (g.ok _ _ _) (by kernel_rfl) (by decide) ⟨?_, trivial⟩
      refine any_step [9] (g.ok _ _ _) (by kernel_rfl) (by decide) ⟨?_, trivial⟩
      refine any_take 11 (g.ok _ _ _) rfl rfl rfl rfl rfl rfl rfl (by kernel_rfl) (by kernel_rfl) (by kernel_rfl) ?_
      refine Chk.mk (bnd 3 5 rfl) ?_
      refine any_step [12] (g.ok _ _ _) (by kernel_rfl) (by decide) ⟨?_, trivial⟩
      refine any_done (by kernel_rfl) ?_
      refine Chk.mk (ink1 3 rfl) ⟨⟨(4, putF b 3 (base + d4), putF lo 3 (max (-20) (base + d4 - d5)), putF hi 3 (min 20 (base + d4 + d6)), k + 1 + 1 + 1), by show 4 ≤ 5; decide, ⟨by simp only; omega, by simp only; omega⟩, ptOk_next hP ⟨by omega, by omega⟩ ⟨by omega, by omega, by omega, by omega, by omega⟩⟩, (fun j => j), ?_, by show 5 - 4 < 5 - 3; omega⟩
      refine ⟨?_, ?_, rfl, rfl, rfl, rfl, trivial⟩ <;> repeat' (first | exact trivial | exact rfl | (intro i hi; exact ⟨rfl, rfl⟩) | refine And.intro ?_ ?_)
    · refine Br.mk (fun _ => ?_) (fun h => by cases h)
      refine fb_call (g.ok _ _ _) cont_std rfl rfl rfl rfl ⟨b89, draw_60 hm hv hk0 (by omega) (by decide) (by decide) ⟨rfl, rfl, rfl, trivial⟩ (fun d4 hd8 hd9 => ?_)⟩
      refine Chk.mk (show InK .i64 (base + d4) from ⟨by omega, by omega⟩) ?_
      refine Chk.mk (bnd 4 5 rfl) ?_
      refine any_region (by kernel_rfl) ?_
      refine any_take 0 (g.ok _ _ _) rfl rfl rfl rfl rfl rfl rfl (by kernel_rfl) (by kernel_rfl) (by kernel_rfl) ?_
      refine any_take 1 (g.ok _ _ _) rfl rfl rfl rfl rfl rfl rfl (by kernel_rfl) (by kernel_rfl) (by kernel_rfl) ?_
      refine Chk.mk (bnd 4 5 rfl) ?_
      refine any_take 3 (g.ok _ _ _) rfl rfl rfl rfl rfl rfl rfl (by kernel_rfl) (by kernel_rfl) (by kernel_rfl) ?_
      refine any_forkE (ι := {d : Int // 0 ≤ d ∧ d < 3}) [2, 4] (fun x => ⟨[(50, ⟨[], .si .i64 (base + d4)⟩), (52, ⟨[], .si .i64 x.1⟩), (0, ⟨[], .fn (.func 89) [] [.sp 38 0, .sp 39 0]⟩), (2, ⟨[], .sp 40 0⟩), (3, ⟨[], .sp 41 0⟩), (6, ⟨[], .si .i64 base⟩), (7, ⟨[], .si .i64 4⟩), (39, ⟨[], .si .i64 4⟩)], [], [(38, .cells 3 [.si .i64 (k + 1 + 1)]), (39, .cells 42 [.sl 0]), (0, .ro 1 m fun j => [.si .u16 (v j)]), (40, .cells 27 [.sl 42, .si .i64 (bz 4 lo 0), .si .i64 (bz 4 hi 0), .si .i64 (bz 4 lo 1), .si .i64 (bz 4 hi 1), .si .i64 (bz 4 lo 2), .si .i64 (bz 4 hi 2), .si .i64 (bz 4 lo 3), .si .i64 (bz 4 hi 3), .si .i64 (bz 4 lo 4), .si .i64 (bz 4 hi 4), .si .i64 0]), (41, .cells 45 [.si .i64 (bz 4 b 0), .si .i64 (bz 4 b 1), .si .i64 (bz 4 b 2), .si .i64 (bz 4 b 3), .si .i64 (base + d4)]), (42, .vec 51 2 (i + 1) fun j => liC (L j))], 60, []⟩) 3 #[true, true, true, true, true, false, false, false] (g.ok _ _ _) (by kernel_rfl) (by decide) (fun K hK => ⟨?_, ?_, trivial⟩) ?_
      · refine any_step [4] (g.ok _ _ _) (by kernel_rfl) (by decide) ⟨?_, trivial⟩
        refine fb_call (g.ok _ _ _) cont_any rfl rfl rfl rfl ⟨b89, draw_60 hm hv (by omega) (by omega) (by decide) (by decide) ⟨rfl, rfl, rfl, trivial⟩ (fun d h1 h2 => ?_)⟩
        refine any_weaken 40 (fun j => j) hG ?_ (hK ⟨d, h1, h2⟩)
        refine ⟨?_, ?_, rfl, rfl, rfl, rfl, trivial⟩ <;> repeat' (first | exact trivial | exact rfl | (intro i hi; exact ⟨rfl, rfl⟩) | refine And.intro ?_ ?_)
      · refine fb_call (g.ok _ _ _) cont_any rfl rfl rfl rfl ⟨b89, draw_60 hm hv (by omega) (by omega) (by decide) (by decide) ⟨rfl, rfl, rfl, trivial⟩ (fun d h1 h2 => ?_)⟩
        refine any_step [2] (g.ok _ _ _) (by kernel_rfl) (by decide) ⟨?_, trivial⟩
        refine any_weaken 40 (fun j => j) hG ?_ (hK ⟨d, h1, h2⟩)
        refine ⟨?_, ?_, rfl, rfl, rfl, rfl, trivial⟩ <;> repeat' (first | exact trivial | exact rfl | (intro i hi; exact ⟨rfl, rfl⟩) | refine And.intro ?_ ?_)
      rintro ⟨d5, h51, h52⟩
      refine any_take 5 (g.ok _ _ _) rfl rfl rfl rfl rfl rfl rfl (by kernel_rfl) (by kernel_rfl) (by kernel_rfl) ?_
      refine Chk.mk (show InK .i64 (base + d4 - d5) from ⟨by omega, by omega⟩) ?_
      refine any_step [6] (g.ok _ _ _) (by kernel_rfl) (by decide) ⟨?_, trivial⟩
      refine any_take 7 (g.ok _ _ _) rfl rfl rfl rfl rfl rfl rfl (by kernel_rfl) (by kernel_rfl) (by kernel_rfl) ?_
      refine any_done (by kernel_rfl) ?_
      refine any_region (by kernel_rfl) ?_
      refine any_take 0 (g.ok _ _ _) rfl rfl rfl rfl rfl rfl rfl (by kernel_rfl) (by kernel_rfl) (by kernel_rfl) ?_
      refine any_take 1 (g.ok _ _ _) rfl rfl rfl rfl rfl rfl rfl (by kernel_rfl) (by kernel_rfl) (by kernel_rfl) ?_
      refine any_take 2 (g.ok _ _ _) rfl rfl rfl rfl rfl rfl rfl (by kernel_rfl) (by kernel_rfl) (by kernel_rfl) ?_
      refine any_take 3 (g.ok _ _ _) rfl rfl rfl rfl rfl rfl rfl (by kernel_rfl) (by kernel_rfl) (by kernel_rfl) ?_
      refine Chk.mk (bnd 4 5 rfl) ?_
      refine any_take 5 (g.ok _ _ _) rfl rfl rfl rfl rfl rfl rfl (by kernel_rfl) (by kernel_rfl) (by kernel_rfl) ?_
      refine any_take 10 (g.ok _ _ _) rfl rfl rfl rfl rfl rfl rfl (by kernel_rfl) (by kernel_rfl) (by kernel_rfl) ?_
      refine any_forkE (ι := {d : Int // 0 ≤ d ∧ d < 3}) [4, 6] (fun x => ⟨[(55, ⟨[], .si .i64 4⟩), (56, ⟨[], .si .i64 (max (-20) (base + d4 - d5))⟩), (59, ⟨[], .si .i64 (base + d4)⟩), (61, ⟨[], .si .i64 x.1⟩), (65, ⟨[], .sp 40 1⟩), (0, ⟨[], .fn (.func 89) [] [.sp 38 0, .sp 39 0]⟩), (2, ⟨[], .sp 40 0⟩), (3, ⟨[], .sp 41 0⟩), (6, ⟨[], .si .i64 base⟩), (7, ⟨[], .si .i64 4⟩), (39, ⟨[], .si .i64 4⟩)], [], [(38, .cells 3 [.si .i64 (k + 1 + 1 + 1)]), (39, .cells 42 [.sl 0]), (0, .ro 1 m fun j => [.si .u16 (v j)]), (40, .cells 27 [.sl 42, .si .i64 (bz 4 lo 0), .si .i64 (bz 4 hi 0), .si .i64 (bz 4 lo 1), .si .i64 (bz 4 hi 1), .si .i64 (bz 4 lo 2), .si .i64 (bz 4 hi 2), .si .i64 (bz 4 lo 3), .si .i64 (bz 4 hi 3), .si .i64 (bz 4 lo 4), .si .i64 (bz 4 hi 4), .si .i64 0]), (41, .cells 45 [.si .i64 (bz 4 b 0), .si .i64 (bz 4 b 1), .si .i64 (bz 4 b 2), .si .i64 (bz 4 b 3), .si .i64 (base + d4)]), (42, .vec 51 2 (i + 1) fun j => liC (L j))], 60, []⟩) 5 #[true, true, true, true, true, true, true, false, false, false, true, false, false] (g.ok _ _ _) (by kernel_rfl) (by decide) (fun K hK => ⟨?_, ?_, trivial⟩) ?_
      · refine any_step [6] (g.ok _ _ _) (by kernel_rfl) (by decide) ⟨?_, trivial⟩
        refine fb_call (g.ok _ _ _) cont_any rfl rfl rfl rfl ⟨b89, draw_60 hm hv (by omega) (by omega) (by decide) (by decide) ⟨rfl, rfl, rfl, trivial⟩ (fun d h1 h2 => ?_)⟩
        refine any_weaken 40 (fun j => j) hG ?_ (hK ⟨d, h1, h2⟩)
        refine ⟨?_, ?_, rfl, rfl, rfl, rfl, trivial⟩ <;> repeat' (first | exact trivial | exact rfl | (intro i hi; exact ⟨rfl, rfl⟩) | refine And.intro ?_ ?_)
      · refine fb_call (g.ok _ _ _) cont_any rfl rfl rfl rfl ⟨b89, draw_60 hm hv (by omega) (by omega) (by decide) (by decide) ⟨rfl, rfl, rfl, trivial⟩ (fun d h1 h2 => ?_)⟩
        refine any_step [4] (g.ok _ _ _) (by kernel_rfl) (by decide) ⟨?_, trivial⟩
        refine any_weaken 40 (fun j => j) hG ?_ (hK ⟨d, h1, h2⟩)
        refine ⟨?_, ?_, rfl, rfl, rfl, rfl, trivial⟩ <;> repeat' (first | exact trivial | exact rfl | (intro i hi; exact ⟨rfl, rfl⟩) | refine And.intro ?_ ?_)
      rintro ⟨d6, h61, h62⟩
      refine any_take 7 (g.ok _ _ _) rfl rfl rfl rfl rfl rfl rfl (by kernel_rfl) (by kernel_rfl) (by kernel_rfl) ?_
      refine Chk.mk (show InK .i64 (base + d4 + d6) from ⟨by omega, by omega⟩) ?_
      refine any_step [8] (g.ok _ _ _) (by kernel_rfl) (by decide) ⟨?_, trivial⟩
      refine any_step [9] (g.ok _ _ _) (by kernel_rfl) (by decide) ⟨?_, trivial⟩
      refine any_take 11 (g.ok _ _ _) rfl rfl rfl rfl rfl rfl rfl (by kernel_rfl) (by kernel_rfl) (by kernel_rfl) ?_
      refine Chk.mk (bnd 4 5 rfl) ?_
      refine any_step [12] (g.ok _ _ _) (by kernel_rfl) (by decide) ⟨?_, trivial⟩
      refine any_done (by kernel_rfl) ?_
      refine Chk.mk (ink1 4 rfl) ⟨⟨(5, putF b 4 (base + d4), putF lo 4 (max (-20) (base + d4 - d5)), putF hi 4 (min 20 (base + d4 + d6)), k + 1 + 1 + 1), by show 5 ≤ 5; decide, ⟨by simp only; omega, by simp only; omega⟩, ptOk_next hP ⟨by omega, by omega⟩ ⟨by omega, by omega, by omega, by omega, by omega⟩⟩, (fun j => j), ?_, by show 5 - 5 < 5 - 4; omega⟩
      refine ⟨?_, ?_, rfl, rfl, rfl, rfl, trivial⟩ <;> repeat' (first | exact trivial | exact rfl | (intro i hi; exact ⟨rfl, rfl⟩) | refine And.intro ?_ ?_)
    · refine Br.mk (fun h => by cases h) (fun _ => ?_)
      have hbb : ∀ j, j < 5 → base ≤ b j ∧ b j ≤ base + 6 := fun j hj => (hP j hj).1
      refine loop_okR (g.ok _ _ _) 40 (fun x : {z : Nat × Int // z.1 ≤ 8 ∧ StOk b z.1 z.2} => ⟨[(2, ⟨[], .sp 40 0⟩), (3, ⟨[], .sp 41 0⟩), (76, ⟨[], .sl 43⟩), (77, ⟨[], .si .i64 8⟩), (78, ⟨[], .si .i64 x.1.1⟩)], [], [(38, .cells 3 [.si .i64 k]), (39, .cells 42 [.sl 0]), (0, .ro 1 m fun j => [.si .u16 (v j)]), (40, .cells 27 [.sl 42, .si .i64 (lo 0), .si .i64 (hi 0), .si .i64 (lo 1), .si .i64 (hi 1), .si .i64 (lo 2), .si .i64 (hi 2), .si .i64 (lo 3), .si .i64 (hi 3), .si .i64 (lo 4), .si .i64 (hi 4), .si .i64 x.1.2]), (41, .cells 45 [.si .i64 (b 0), .si .i64 (b 1), .si .i64 (b 2), .si .i64 (b 3), .si .i64 (b 4)]), (42, .vec 51 2 (i + 1) fun j => liC (L j)), (43, .row 114 2 8 [.si .i64 0, .si .i64 1, .si .i64 0, .si .i64 2, .si .i64 0, .si .i64 3, .si .i64 0, .si .i64 4, .si .i64 1, .si .i64 2, .si .i64 2, .si .i64 3, .si .i64 3, .si .i64 4, .si .i64 4, .si .i64 1])], 70, []⟩) (fun x => 8 - x.1.1) hG ⟨(0, 0), Nat.zero_le _, ⟨by decide, by decide⟩, fun j hj => absurd hj (Nat.not_lt_zero j)⟩ (fun j => if j = 43 then 60 else j) ?_ ?_
      · refine ⟨?_, ?_, rfl, rfl, rfl, rfl, trivial⟩ <;> repeat' (first | exact trivial | exact rfl | (intro i hi; exact ⟨rfl, rfl⟩) | refine And.intro ?_ ?_)
      rintro ⟨⟨q, s⟩, hq, hS⟩
      simp only at hq hS
      have hs6 := hS.1
      rcases (show q = 0 ∨ q = 1 ∨ q = 2 ∨ q = 3 ∨ q = 4 ∨ q = 5 ∨ q = 6 ∨ q = 7 ∨ q = 8 by omega) with rfl | rfl | rfl | rfl | rfl | rfl | rfl | rfl | rfl
      · have hda := hbb 0 (by decide)
        have hdc := hbb 1 (by decide)
        refine Br.mk (fun _ => ?_) (fun h => by cases h)
        refine Chk.mk (bnd 0 8 rfl) ?_
        refine drawn_ok (g.ok _ _ _) fol [0,1,3,7,0,16,48,112,255,511] [] 10 (by kernel_rfl) ?_
        refine Chk.mk (bnd 0 2 rfl) (Chk.mk (bnd 0 5 rfl) (Chk.mk (bnd 1 2 rfl) (Chk.mk (bnd 1 5 rfl) ?_)))
        refine Chk.mk (show InK .i64 (b 0 - b 1) from ⟨by omega, by omega⟩) ?_
        refine Chk.mk (show InK .i64 (0 - (b 0 - b 1)) from ⟨by omega, by omega⟩) ?_
        refine fb_max3 (g.ok _ _ _) cont_std rfl rfl rfl rfl rfl rfl rfl rfl rfl rfl rfl rfl ?_
        refine Chk.mk (ink1 0 rfl) ?_
        refine ⟨⟨(1, max (max s (b 0 - b 1)) (0 - (b 0 - b 1))), by show 1 ≤ 8; decide, stOk_next (base := base) hbb hS ⟨by decide, by decide⟩ rfl⟩, (fun j => j), ?_, by show 8 - 1 < 8 - 0; omega⟩
        refine ⟨?_, ?_, rfl, rfl, rfl, rfl, trivial⟩ <;> repeat' (first | exact trivial | exact rfl | (intro i hi; exact ⟨rfl, rfl⟩) | refine And.intro ?_ ?_)
      · have hda := hbb 0 (by decide)
        have hdc := hbb 2 (by decide)
        refine Br.mk (fun _ => ?_) (fun h => by cases h)
        refine Chk.mk (bnd 1 8 rfl) ?_
        refine drawn_ok (g.ok _ _ _) fol [0,1,3,7,0,16,48,112,255,511] [] 10 (by kernel_rfl) ?_
        refine Chk.mk (bnd 0 2 rfl) (Chk.mk (bnd 0 5 rfl) (Chk.mk (bnd 1 2 rfl) (Chk.mk (bnd 2 5 rfl) ?_)))
        refine Chk.mk (show InK .i64 (b 0 - b 2) from ⟨by omega, by omega⟩) ?_
        refine Chk.mk (show InK .i64 (0 - (b 0 - b 2)) from ⟨by omega, by omega⟩) ?_
        refine fb_max3 (g.ok _ _ _) cont_std rfl rfl rfl rfl rfl rfl rfl rfl rfl rfl rfl rfl ?_
        refine Chk.mk (ink1 1 rfl) ?_
        refine ⟨⟨(2, max (max s (b 0 - b 2)) (0 - (b 0 - b 2))), by show 2 ≤ 8; decide, stOk_next (base := base) hbb hS ⟨by decide, by decide⟩ rfl⟩, (fun j => j), ?_, by show 8 - 2 < 8 - 1; omega⟩
        refine ⟨?_, ?_, rfl, rfl, rfl, rfl, trivial⟩ <;> repeat' (first | exact trivial | exact rfl | (intro i hi; exact ⟨rfl, rfl⟩) | refine And.intro ?_ ?_)
      · have hda := hbb 0 (by decide)
        have hdc := hbb 3 (by decide)
        refine Br.mk (fun _ => ?_) (fun h => by cases h)
        refine Chk.mk (bnd 2 8 rfl) ?_
        refine drawn_ok (g.ok _ _ _) fol [0,1,3,7,0,16,48,112,255,511] [] 10 (by kernel_rfl) ?_
        refine Chk.mk (bnd 0 2 rfl) (Chk.mk (bnd 0 5 rfl) (Chk.mk (bnd 1 2 rfl) (Chk.mk (bnd 3 5 rfl) ?_)))
        refine Chk.mk (show InK .i64 (b 0 - b 3) from ⟨by omega, by omega⟩) ?_
        refine Chk.mk (show InK .i64 (0 - (b 0 - b 3)) from ⟨by omega, by omega⟩) ?_
        refine fb_max3 (g.ok _ _ _) cont_std rfl rfl rfl rfl rfl rfl rfl rfl rfl rfl rfl rfl ?_
        refine Chk.mk (ink1 2 rfl) ?_
        refine ⟨⟨(3, max (max s (b 0 - b 3)) (0 - (b 0 - b 3))), by show 3 ≤ 8; decide, stOk_next (base := base) hbb hS ⟨by decide, by decide⟩ rfl⟩, (fun j => j), ?_, by show 8 - 3 < 8 - 2; omega⟩
        refine ⟨?_, ?_, rfl, rfl, rfl, rfl, trivial⟩ <;> repeat' (first | exact trivial | exact rfl | (intro i hi; exact ⟨rfl, rfl⟩) | refine And.intro ?_ ?_)
      · have hda := hbb 0 (by decide)
        have hdc := hbb 4 (by decide)
        refine Br.mk (fun _ => ?_) (fun h => by cases h)
        refine Chk.mk (bnd 3 8 rfl) ?_
        refine drawn_ok (g.ok _ _ _) fol [0,1,3,7,0,16,48,112,255,511] [] 10 (by kernel_rfl) ?_
        refine Chk.mk (bnd 0 2 rfl) (Chk.mk (bnd 0 5 rfl) (Chk.mk (bnd 1 2 rfl) (Chk.mk (bnd 4 5 rfl) ?_)))
        refine Chk.mk (show InK .i64 (b 0 - b 4) from ⟨by omega, by omega⟩) ?_
        refine Chk.mk (show InK .i64 (0 - (b 0 - b 4)) from ⟨by omega, by omega⟩) ?_
        refine fb_max3 (g.ok _ _ _) cont_std rfl rfl rfl rfl rfl rfl rfl rfl rfl rfl rfl rfl ?_
        refine Chk.mk (ink1 3 rfl) ?_
        refine ⟨⟨(4, max (max s (b 0 - b 4)) (0 - (b 0 - b 4))), by show 4 ≤ 8; decide, stOk_next (base := base) hbb hS ⟨by decide, by decide⟩ rfl⟩, (fun j => j), ?_, by show 8 - 4 < 8 - 3; omega⟩
        refine ⟨?_, ?_, rfl, rfl, rfl, rfl, trivial⟩ <;> repeat' (first | exact trivial | exact rfl | (intro i hi; exact ⟨rfl, rfl⟩) | refine And.intro ?_ ?_)
      · have hda := hbb 1 (by decide)
        have hdc := hbb 2 (by decide)
        refine Br.mk (fun _ => ?_) (fun h => by cases h)
        refine Chk.mk (bnd 4 8 rfl) ?_
        refine drawn_ok (g.ok _ _ _) fol [0,1,3,7,0,16,48,112,255,511] [] 10 (by kernel_rfl) ?_
        refine Chk.mk (bnd 0 2 rfl) (Chk.mk (bnd 1 5 rfl) (Chk.mk (bnd 1 2 rfl) (Chk.mk (bnd 2 5 rfl) ?_)))
        refine Chk.mk (show InK .i64 (b 1 - b 2) from ⟨by omega, by omega⟩) ?_
        refine Chk.mk (show InK .i64 (0 - (b 1 - b 2)) from ⟨by omega, by omega⟩) ?_
        refine fb_max3 (g.ok _ _ _) cont_std rfl rfl rfl rfl rfl rfl rfl rfl rfl rfl rfl rfl ?_
        refine Chk.mk (ink1 4 rfl) ?_
        refine ⟨⟨(5, max (max s (b 1 - b 2)) (0 - (b 1 - b 2))), by show 5 ≤ 8; decide, stOk_next (base := base) hbb hS ⟨by decide, by decide⟩ rfl⟩, (fun j => j), ?_, by show 8 - 5 < 8 - 4; omega⟩
        refine ⟨?_, ?_, rfl, rfl, rfl, rfl, trivial⟩ <;> repeat' (first | exact trivial | exact rfl | (intro i hi; exact ⟨rfl, rfl⟩) | refine And.intro ?_ ?_)
      · have hda := hbb 2 (by decide)
        have hdc := hbb 3 (by decide)
        refine Br.mk (fun _ => ?_) (fun h => by cases h)
        refine Chk.mk (bnd 5 8 rfl) ?_
        refine drawn_ok (g.ok _ _ _) fol [0,1,3,7,0,16,48,112,255,511] [] 10 (by kernel_rfl) ?_
        refine Chk.mk (bnd 0 2 rfl) (Chk.mk (bnd 2 5 rfl) (Chk.mk (bnd 1 2 rfl) (Chk.mk (bnd 3 5 rfl) ?_)))
        refine Chk.mk (show InK .i64 (b 2 - b 3) from ⟨by omega, by omega⟩) ?_
        refine Chk.mk (show InK .i64 (0 - (b 2 - b 3)) from ⟨by omega, by omega⟩) ?_
        refine fb_max3 (g.ok _ _ _) cont_std rfl rfl rfl rfl rfl rfl rfl rfl rfl rfl rfl rfl ?_
        refine Chk.mk (ink1 5 rfl) ?_
        refine ⟨⟨(6, max (max s (b 2 - b 3)) (0 - (b 2 - b 3))), by show 6 ≤ 8; decide, stOk_next (base := base) hbb hS ⟨by decide, by decide⟩ rfl⟩, (fun j => j), ?_, by show 8 - 6 < 8 - 5; omega⟩
        refine ⟨?_, ?_, rfl, rfl, rfl, rfl, trivial⟩ <;> repeat' (first | exact trivial | exact rfl | (intro i hi; exact ⟨rfl, rfl⟩) | refine And.intro ?_ ?_)
      · have hda := hbb 3 (by decide)
        have hdc := hbb 4 (by decide)
        refine Br.mk (fun _ => ?_) (fun h => by cases h)
        refine Chk.mk (bnd 6 8 rfl) ?_
        refine drawn_ok (g.ok _ _ _) fol [0,1,3,7,0,16,48,112,255,511] [] 10 (by kernel_rfl) ?_
        refine Chk.mk (bnd 0 2 rfl) (Chk.mk (bnd 3 5 rfl) (Chk.mk (bnd 1 2 rfl) (Chk.mk (bnd 4 5 rfl) ?_)))
        refine Chk.mk (show InK .i64 (b 3 - b 4) from ⟨by omega, by omega⟩) ?_
        refine Chk.mk (show InK .i64 (0 - (b 3 - b 4)) from ⟨by omega, by omega⟩) ?_
        refine fb_max3 (g.ok _ _ _) cont_std rfl rfl rfl rfl rfl rfl rfl rfl rfl rfl rfl rfl ?_
        refine Chk.mk (ink1 6 rfl) ?_
        refine ⟨⟨(7, max (max s (b 3 - b 4)) (0 - (b 3 - b 4))), by show 7 ≤ 8; decide, stOk_next (base := base) hbb hS ⟨by decide, by decide⟩ rfl⟩, (fun j => j), ?_, by show 8 - 7 < 8 - 6; omega⟩
        refine ⟨?_, ?_, rfl, rfl, rfl, rfl, trivial⟩ <;> repeat' (first | exact trivial | exact rfl | (intro i hi; exact ⟨rfl, rfl⟩) | refine And.intro ?_ ?_)
      · have hda := hbb 4 (by decide)
        have hdc := hbb 1 (by decide)
        refine Br.mk (fun _ => ?_) (fun h => by cases h)
        refine Chk.mk (bnd 7 8 rfl) ?_
        refine drawn_ok (g.ok _ _ _) fol [0,1,3,7,0,16,48,112,255,511] [] 10 (by kernel_rfl) ?_
        refine Chk.mk (bnd 0 2 rfl) (Chk.mk (bnd 4 5 rfl) (Chk.mk (bnd 1 2 rfl) (Chk.mk (bnd 1 5 rfl) ?_)))
        refine Chk.mk (show InK .i64 (b 4 - b 1) from ⟨by omega, by omega⟩) ?_
        refine Chk.mk (show InK .i64 (0 - (b 4 - b 1)) from ⟨by omega, by omega⟩) ?_
        refine fb_max3 (g.ok _ _ _) cont_std rfl rfl rfl rfl rfl rfl rfl rfl rfl rfl rfl rfl ?_
        refine Chk.mk (ink1 7 rfl) ?_
        refine ⟨⟨(8, max (max s (b 4 - b 1)) (0 - (b 4 - b 1))), by show 8 ≤ 8; decide, stOk_next (base := base) hbb hS ⟨by decide, by decide⟩ rfl⟩, (fun j => j), ?_, by show 8 - 8 < 8 - 7; omega⟩
        refine ⟨?_, ?_, rfl, rfl, rfl, rfl, trivial⟩ <;> repeat' (first | exact trivial | exact rfl | (intro i hi; exact ⟨rfl, rfl⟩) | refine And.intro ?_ ?_)
      · refine Br.mk (fun h => by cases h) (fun _ => ?_)
        refine drawn_ok (g.ok _ _ _) fol [0,0,1,7] [(2, 40), (3, 41)] 4 (by kernel_rfl) ?_
        have g0 := hP 0 (by decide)
        have g1 := hP 1 (by decide)
        have g2 := hP 2 (by decide)
        have g3 := hP 3 (by decide)
        have g4 := hP 4 (by decide)
        have t0 := hS.2 0 (by decide)
        have t1 := hS.2 1 (by decide)
        have t2 := hS.2 2 (by decide)
        have t3 := hS.2 3 (by decide)
        have t4 := hS.2 4 (by decide)
        have t5 := hS.2 5 (by decide)
        have t6 := hS.2 6 (by decide)
        have t7 := hS.2 7 (by decide)
        refine ⟨⟨⟨k, i + 1, L, ⟨lo 0, hi 0, lo 1, hi 1, lo 2, hi 2, lo 3, hi 3, lo 4, hi 4, s⟩, (b 0, b 1, b 2, b 3, b 4)⟩, ?_⟩, (fun j => j), ?_, ?_, rfl, rfl, rfl, rfl⟩
        · refine ⟨hk0, by simp only; omega, ?_, ?_⟩
          · simp only [gradeOk, headB, inB, ptI, ptB, Bool.and_eq_true, decide_eq_true_eq, List.length_map, List.length_range]
            refine ⟨by omega, hL, ?_⟩
            omega
          · exact ⟨⟨g0.2.2.1, g0.2.2.2.1⟩, ⟨g1.2.2.1, g1.2.2.2.1⟩, ⟨g2.2.2.1, g2.2.2.2.1⟩, ⟨g3.2.2.1, g3.2.2.2.1⟩, ⟨g4.2.2.1, g4.2.2.2.1⟩, t0, t1, t2, t3, t4, t5, t6, ⟨t7.2, t7.1⟩⟩
        · repeat' (first | exact trivial | exact rfl | (intro i hi; exact ⟨rfl, rfl⟩) | refine And.intro ?_ ?_)
        · repeat' (first | exact trivial | exact rfl | (intro i hi; exact ⟨rfl, rfl⟩) | refine And.intro ?_ ?_)
end Go.X.Gr
end
