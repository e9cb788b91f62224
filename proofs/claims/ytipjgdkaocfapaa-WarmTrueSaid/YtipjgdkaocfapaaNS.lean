/- A true block; what is drawn; the walk of WarmTrue. -/
import Derived.Test.YtipjgdkaocfapaaNI
import Derived.Test.YtipjgdkaocfapaaNN

section
set_option linter.unusedVariables false
set_option linter.unusedSimpArgs false
set_option linter.unusedSectionVars false
/- Warm: a true block, plainly. -/
set_option linter.unusedVariables false
set_option linter.unusedSimpArgs false
set_option maxRecDepth 10000
set_option maxHeartbeats 1000000
namespace Go.X.W
open Go Go.Proofs Go.X

/-- What is drawn of a span. -/
def drwV (m : Nat) (v : Nat → Int) (k a b : Int) : Int := if (m : Int) = 0 then a else a + (v (k.tmod m).toNat + 43 * k).tmod (b - a + 1)
theorem drwV_in {m : Nat} {v : Nat → Int} {k a b : Int} (hv : ∀ j, j < m → 0 ≤ v j ∧ v j < 65536) (hk : 0 ≤ k) (hs : a ≤ b) : a ≤ drwV m v k a b ∧ drwV m v k a b ≤ b := by
  unfold drwV
  split
  · omega
  · rename_i h
    have hr : 0 ≤ k.tmod (m : Int) ∧ k.tmod (m : Int) < (m : Int) := by
      rw [Int.tmod_eq_emod_of_nonneg hk]
      exact ⟨Int.emod_nonneg _ h, Int.emod_lt_of_pos _ (by omega)⟩
    have hvv := hv (k.tmod (m : Int)).toNat (by omega)
    have ht : 0 ≤ (v (k.tmod (m : Int)).toNat + 43 * k).tmod (b - a + 1) ∧ (v (k.tmod (m : Int)).toNat + 43 * k).tmod (b - a + 1) < b - a + 1 := by
      rw [Int.tmod_eq_emod_of_nonneg (by omega)]
      exact ⟨Int.emod_nonneg _ (by omega), Int.emod_lt_of_pos _ (by omega)⟩
    omega
def truT (m : Nat) (v : Nat → Int) (rd : Nat → Rd) (i : Nat) : Int := drwV m v ((i : Int) + 3) (rd i).1 (rd i).2.1
def truW (r : Rd) : Int := min 40 (r.2.2.2 - r.2.2.1)
def truR (mk a b : Int) (m : Nat) (v : Nat → Int) (rd : Nat → Rd) (i : Nat) : Rd :=
  ((rd i).1, (rd i).2.1, showV mk (a, b) (truT m v rd i) - (truW (rd i)).tdiv 2, showV mk (a, b) (truT m v rd i) + truW (rd i) - (truW (rd i)).tdiv 2)
def truB (B : Blk) (n : Nat) (a b : Int) (m : Nat) (v : Nat → Int) (rd : Nat → Rd) : Blk := ⟨B.mark, B.l1, B.l2, B.c1, B.c2, (List.range n).map (truR B.mark a b m v rd)⟩
section
variable {B : Blk} {n m : Nat} {v : Nat → Int} {rd : Nat → Rd} {a b : Int} (hok : blkOk B = true) (hrs : B.rs = (List.range n).map rd) (hv : ∀ j, j < m → 0 ≤ v j ∧ v j < 65536) (ha : B.l1 ≤ a ∧ a ≤ B.l2) (hb : B.c1 ≤ b ∧ b ≤ B.c2)
include hok hrs hv
theorem tru_rd {i : Nat} (hi : i < n) : (-100 ≤ (rd i).1 ∧ (rd i).1 ≤ (rd i).2.1 ∧ (rd i).2.1 ≤ 100 ∧ (rd i).2.1 - (rd i).1 ≤ 4) ∧ (-30000 ≤ (rd i).2.2.1 ∧ (rd i).2.2.1 ≤ (rd i).2.2.2 ∧ (rd i).2.2.2 ≤ 30000) := by
  obtain ⟨_, _, _, _, hr⟩ := blk_b hok
  have h := hr (rd i) (by rw [hrs]; exact List.mem_map.2 ⟨i, List.mem_range.2 hi, rfl⟩)
  unfold rdOk spanB at h
  simp only [Bool.and_eq_true, decide_eq_true_eq] at h
  omega
theorem tru_t {i : Nat} (hi : i < n) : (rd i).1 ≤ truT m v rd i ∧ truT m v rd i ≤ (rd i).2.1 :=
  drwV_in hv (by omega) (by have := (tru_rd hok hrs hv hi).1; omega)
theorem tru_w {i : Nat} (hi : i < n) : 0 ≤ truW (rd i) ∧ truW (rd i) ≤ 40 ∧ 0 ≤ (truW (rd i)).tdiv 2 ∧ (truW (rd i)).tdiv 2 ≤ truW (rd i) := by
  have h := (tru_rd hok hrs hv hi).2
  have h1 : 0 ≤ truW (rd i) ∧ truW (rd i) ≤ 40 := by unfold truW; omega
  have e : (truW (rd i)).tdiv 2 = truW (rd i) / 2 := Int.tdiv_eq_ediv_of_nonneg h1.1
  omega
include ha hb
theorem tru_show {i : Nat} (hi : i < n) : -21000 ≤ showV B.mark (a, b) (truT m v rd i) ∧ showV B.mark (a, b) (truT m v rd i) ≤ 21000 := by
  obtain ⟨hmk, hl, hc, _, _⟩ := blk_b hok
  have h1 := tru_t hok hrs hv hi
  have h2 := (tru_rd hok hrs hv hi).1
  exact show_tight (by omega) ⟨by omega, by omega, by omega, by omega⟩ ⟨by omega, by omega⟩
theorem tru_ok : blkOk (truB B n a b m v rd) = true := by
  have h0 := hok
  unfold blkOk at h0 ⊢
  rw [Bool.and_eq_true] at h0 ⊢
  refine ⟨?_, ?_⟩
  · have h1 := h0.1
    have e : (truB B n a b m v rd).rs.length = B.rs.length := by rw [hrs]; simp [truB]
    rw [e]
    exact h1
  · refine List.all_eq_true.2 fun x hx => ?_
    obtain ⟨i, hi, rfl⟩ := List.mem_map.1 hx
    have hi := List.mem_range.1 hi
    have h1 := tru_rd hok hrs hv hi
    have h2 := tru_show hok hrs hv ha hb hi
    have h3 := tru_w hok hrs hv hi
    unfold rdOk spanB truR
    simp only [Bool.and_eq_true, decide_eq_true_eq]
    omega
theorem tru_can {i : Nat} (hi : i < n) : truT m v rd i ∈ warmV B.mark (a, b) (truR B.mark a b m v rd i) := by
  have h1 := tru_t hok hrs hv hi
  have h3 := tru_w hok hrs hv hi
  unfold warmV
  refine List.mem_filter.2 ⟨mem_iota.2 h1, ?_⟩
  unfold hitB inB truR
  simp only [Bool.and_eq_true, decide_eq_true_eq]
  omega
theorem tru_mem : (a, b) ∈ pairsV (truB B n a b m v rd) := by
  refine pairs_mem.2 ⟨⟨ha.1, ha.2, hb.1, hb.2⟩, ?_⟩
  unfold okP
  refine List.all_eq_true.2 fun x hx => ?_
  obtain ⟨i, hi, rfl⟩ := List.mem_map.1 hx
  have hi := List.mem_range.1 hi
  have h1 := tru_can hok hrs hv ha hb hi
  rw [← canV_len]
  exact decide_eq_true (by have := List.length_pos_of_mem h1; show (0 : Int) < _; unfold truB; simp only; omega)
theorem tru_pos : ¬ (pairsV (truB B n a b m v rd)).length = 0 := by
  have := List.length_pos_of_mem (tru_mem hok hrs hv ha hb)
  omega
/-- All that a pair gives is within what is told. -/
theorem tru_hull {L : Pr → List Int} {x : Int} (hx : x ∈ L (a, b)) : (hullV (truB B n a b m v rd) L).1 ≤ x ∧ x ≤ (hullV (truB B n a b m v rd) L).2 :=
  ends_in (List.mem_flatMap.2 ⟨(a, b), tru_mem hok hrs hv ha hb, hx⟩)
end
end Go.X.W
end

section
set_option linter.unusedVariables false
set_option linter.unusedSimpArgs false
set_option linter.unusedSectionVars false
/- Warm: what is drawn; draws. -/
set_option linter.unusedVariables false
set_option linter.unusedSimpArgs false
set_option maxRecDepth 10000
set_option maxHeartbeats 2000000
namespace Go.X.W
open Go Go.Proofs Go.X

theorem b113 : Body P 113 := body_of Try.func113 (c := code Try.f113) rfl (by decide)
def u16At (get : Nat → List SV) (i : Nat) : Int := match get i with
  | [.si .u16 x] => x
  | _ => 0
def U16s (n : Nat) (get : Nat → List SV) : Prop := ∀ i, i < n → get i = [.si .u16 (u16At get i)] ∧ 0 ≤ u16At get i ∧ u16At get i < 65536
def c98 : Ct := fun fr args H => match args with
  | [.sl id] => (match sliceOf 1 H id with
    | some (m, og) => some ⟨some (U16s m og), none, .fn (.func 113) [] [.sp fr 0, .sp (fr + 1) 0], [(fr, .cells 3 [.si .i64 0]), (fr + 1, .cells 25 [.sl id])]⟩
    | none => none)
  | _ => none
theorem c98_mono : CtMono c98 := by
  intro fr args H H' out hH h
  unfold c98 at h ⊢
  split at h
  · split at h
    · rename_i e
      simp only [sliceOf_mono hH e]
      exact h
    · cases h
  · cases h
theorem k98 {l : List (Nat × Ct)} (g0 : Good P T l) : COk P 98 c98 := by
  refine cok (C := tabC _) g0.ok Try.func98 (c := code Try.f98) rfl fun fr args H out h hp => ?_
  unfold c98 at h
  split at h
  · rename_i id
    split at h
    · rename_i m og e
      cases h
      have hs : U16s m og := hp
      have hh : Hand H [(id, .ro 1 m fun i => [.si .u16 (u16At og i)])] := hand_one e (fun i => rfl) (fun i h => (hs i h).1.symm)
      refine ⟨[(id, .ro 1 m fun i => [.si .u16 (u16At og i)])], [.sl 0], [(0, .ro 1 m fun i => [.si .u16 (u16At og i)])], 1, [2, 1], rfl, rfl, Nat.le_of_ble_eq_true rfl, hh, rfl, rfl, fun G hG => ?_⟩
      refine ⟨.inl rfl, ⟨?_, rfl, ?_, ?_, rfl, rfl⟩⟩
      · repeat' (first | exact trivial | exact rfl | refine And.intro ?_ ?_)
      · repeat' (first | exact trivial | exact rfl | refine And.intro ?_ ?_)
      · repeat' (first | exact trivial | exact rfl | refine And.intro ?_ ?_)
    · cases h
  · cases h
theorem g98 {l : List (Nat × Ct)} (g : Good P T l) : Good P T ((98, c98) :: l) := g.add (k98 g) c98_mono (body_of Try.func98 (c := code Try.f98) rfl (by decide))

theorem draw_a {n m : Nat} {rd : Nat → Rd} {v : Nat → Int} {mk l1 l2 c1 c2 k a b : Int} (hm : m ≤ 9223372036854775807) (hv : ∀ j, j < m → 0 ≤ v j ∧ v j < 65536) (hk0 : 0 ≤ k) (hk1 : k ≤ 100) (hab : -1000000 ≤ a ∧ a ≤ b ∧ b ≤ 1000000) (Rv : SV → List (Nat × HB) → Nat → Prop) (Rp : List PanicEntry → List (Nat × HB) → Nat → Prop)
    (hRv : Rv (.si .i64 (drwV m v (k + 1) a b)) [(4, .cells 3 [.si .i64 (k + 1)]), (5, .cells 25 [.sl 1]), (3, .cells 36 [.si .i64 0, .si .i64 0, .si .i64 0, .si .i64 0, .si .i64 0, .sv (.slice none 0 0)]), (2, .cells 36 (bC mk l1 l2 c1 c2 0)), (0, .ro 4 n fun i => rdC (rd i)), (1, .ro 1 m fun j => [.si .u16 (v j)])] 8) : CallS P 113 [.agg [.si .i64 a, .si .i64 b], .sp 4 0, .sp 5 0] [(4, .cells 3 [.si .i64 k]), (5, .cells 25 [.sl 1]), (3, .cells 36 [.si .i64 0, .si .i64 0, .si .i64 0, .si .i64 0, .si .i64 0, .sv (.slice none 0 0)]), (2, .cells 36 (bC mk l1 l2 c1 c2 0)), (0, .ro 4 n fun i => rdC (rd i)), (1, .ro 1 m fun j => [.si .u16 (v j)])] 8 Rv Rp := by
  have g := good0
  refine callS_to g.ok Try.func113 (c := code Try.f113) rfl (Nat.le_of_ble_eq_true rfl) _ _ _ (fun G2 hG2 => ?_) hRv
  refine Chk.mk (show InK .i64 (k + 1) from ⟨by omega, by omega⟩) ?_
  refine Br.mk (fun h => ?_) (fun h => ?_)
  · replace h : (m : Int) = 0 := of_decide_eq_true h
    refine ⟨fun j => j, ?_, ?_, rfl, rfl, rfl, rfl⟩
    · repeat' (first | exact trivial | exact rfl | (intro i hi; exact ⟨rfl, rfl⟩) | (intro i hi; exact ⟨rfl, rfl⟩) | refine And.intro ?_ ?_)
    · refine ⟨rfl, ?_⟩
      rw [drwV, if_pos h]
  · replace h : ¬ (m : Int) = 0 := of_decide_eq_false h
    refine drawn_ok (g.ok _ _ _) fol [0,1,0,0,0,16,56,124,252,508,0,1024,4092,0,8192,0,32768,122880,253952,524284,1048575,2097151] [] 22 (by kernel_rfl) ?_
    have hr : 0 ≤ (k + 1).tmod (m : Int) ∧ (k + 1).tmod (m : Int) < (m : Int) := by
      rw [Int.tmod_eq_emod_of_nonneg (by omega)]
      exact ⟨Int.emod_nonneg _ h, Int.emod_lt_of_pos _ (by omega)⟩
    have hvv := hv ((k + 1).tmod (m : Int)).toNat (by omega)
    obtain ⟨vj, hvj⟩ : ∃ vj, v ((k + 1).tmod (m : Int)).toNat = vj := ⟨_, rfl⟩
    rw [hvj] at hvv
    have hd0 : (0 : Int) < b - a + 1 := by omega
    have ht : 0 ≤ (vj + 43 * (k + 1)).tmod (b - a + 1) ∧ (vj + 43 * (k + 1)).tmod (b - a + 1) < b - a + 1 := by
      rw [Int.tmod_eq_emod_of_nonneg (by omega)]
      exact ⟨Int.emod_nonneg _ (by omega), Int.emod_lt_of_pos _ hd0⟩
    refine Chk.mk h (Chk.mk hr (Chk.mk (show InK .i64 (v ((k + 1).tmod (m : Int)).toNat) from ⟨by omega, by omega⟩) ?_))
    rw [hvj]
    refine (Chk.mk (show InK .i64 (43 * (k + 1)) from ⟨by omega, by omega⟩) (Chk.mk (show InK .i64 (vj + 43 * (k + 1)) from ⟨by omega, by omega⟩) (Chk.mk (show InK .i64 (b - a) from ⟨by omega, by omega⟩)
      (Chk.mk (show InK .i64 (b - a + 1) from ⟨by omega, by omega⟩) (Chk.mk (show b - a + 1 ≠ 0 by omega) (Chk.mk (show InK .i64 (a + (vj + 43 * (k + 1)).tmod (b - a + 1)) from ⟨by omega, by omega⟩) ?_))))))
    refine ⟨fun j => j, ?_, ?_, rfl, rfl, rfl, rfl⟩
    · repeat' (first | exact trivial | exact rfl | (intro i hi; exact ⟨rfl, rfl⟩) | (intro i hi; exact ⟨rfl, rfl⟩) | refine And.intro ?_ ?_)
    · refine ⟨rfl, ?_⟩
      rw [drwV, if_neg h, hvj]


theorem draw_b {n m : Nat} {rd : Nat → Rd} {v : Nat → Int} {mk l1 l2 c1 c2 k a b : Int} {i : Nat} {r : Rd} {f : Nat → Int} {q : Nat → Rd} (hm : m ≤ 9223372036854775807) (hv : ∀ j, j < m → 0 ≤ v j ∧ v j < 65536) (hk0 : 0 ≤ k) (hk1 : k ≤ 100) (hab : -1000000 ≤ a ∧ a ≤ b ∧ b ≤ 1000000) (Rv : SV → List (Nat × HB) → Nat → Prop) (Rp : List PanicEntry → List (Nat × HB) → Nat → Prop)
    (hRv : Rv (.si .i64 (drwV m v (k + 1) a b)) [(4, .cells 3 [.si .i64 (k + 1)]), (5, .cells 25 [.sl 1]), (8, .cells 41 (rdC r)), (7, .vec 3 1 i (fun j => [.si .i64 (f j)])), (6, .vec 41 4 i (fun j => rdC (q j))), (3, .cells 36 (bC mk l1 l2 c1 c2 6)), (2, .cells 36 (bC mk l1 l2 c1 c2 0)), (1, .ro 1 m fun j => [.si .u16 (v j)]), (0, .ro 4 n fun i => rdC (rd i))] 9) : CallS P 113 [.agg [.si .i64 a, .si .i64 b], .sp 4 0, .sp 5 0] [(4, .cells 3 [.si .i64 k]), (5, .cells 25 [.sl 1]), (8, .cells 41 (rdC r)), (7, .vec 3 1 i (fun j => [.si .i64 (f j)])), (6, .vec 41 4 i (fun j => rdC (q j))), (3, .cells 36 (bC mk l1 l2 c1 c2 6)), (2, .cells 36 (bC mk l1 l2 c1 c2 0)), (1, .ro 1 m fun j => [.si .u16 (v j)]), (0, .ro 4 n fun i => rdC (rd i))] 9 Rv Rp := by
  have g := good0
  refine callS_to g.ok Try.func113 (c := code Try.f113) rfl (Nat.le_of_ble_eq_true rfl) _ _ _ (fun G2 hG2 => ?_) hRv
  refine Chk.mk (show InK .i64 (k + 1) from ⟨by omega, by omega⟩) ?_
  refine Br.mk (fun h => ?_) (fun h => ?_)
  · replace h : (m : Int) = 0 := of_decide_eq_true h
    refine ⟨fun j => j, ?_, ?_, rfl, rfl, rfl, rfl⟩
    · repeat' (first | exact trivial | exact rfl | (intro i hi; exact ⟨rfl, rfl⟩) | (intro i hi; exact ⟨rfl, rfl⟩) | refine And.intro ?_ ?_)
    · refine ⟨rfl, ?_⟩
      rw [drwV, if_pos h]
  · replace h : ¬ (m : Int) = 0 := of_decide_eq_false h
    refine drawn_ok (g.ok _ _ _) fol [0,1,0,0,0,16,56,124,252,508,0,1024,4092,0,8192,0,32768,122880,253952,524284,1048575,2097151] [] 22 (by kernel_rfl) ?_
    have hr : 0 ≤ (k + 1).tmod (m : Int) ∧ (k + 1).tmod (m : Int) < (m : Int) := by
      rw [Int.tmod_eq_emod_of_nonneg (by omega)]
      exact ⟨Int.emod_nonneg _ h, Int.emod_lt_of_pos _ (by omega)⟩
    have hvv := hv ((k + 1).tmod (m : Int)).toNat (by omega)
    obtain ⟨vj, hvj⟩ : ∃ vj, v ((k + 1).tmod (m : Int)).toNat = vj := ⟨_, rfl⟩
    rw [hvj] at hvv
    have hd0 : (0 : Int) < b - a + 1 := by omega
    have ht : 0 ≤ (vj + 43 * (k + 1)).tmod (b - a + 1) ∧ (vj + 43 * (k + 1)).tmod (b - a + 1) < b - a + 1 := by
      rw [Int.tmod_eq_emod_of_nonneg (by omega)]
      exact ⟨Int.emod_nonneg _ (by omega), Int.emod_lt_of_pos _ hd0⟩
    refine Chk.mk h (Chk.mk hr (Chk.mk (show InK .i64 (v ((k + 1).tmod (m : Int)).toNat) from ⟨by omega, by omega⟩) ?_))
    rw [hvj]
    refine (Chk.mk (show InK .i64 (43 * (k + 1)) from ⟨by omega, by omega⟩) (Chk.mk (show InK .i64 (vj + 43 * (k + 1)) from ⟨by omega, by omega⟩) (Chk.mk (show InK .i64 (b - a) from ⟨by omega, by omega⟩)
      (Chk.mk (show InK .i64 (b - a + 1) from ⟨by omega, by omega⟩) (Chk.mk (show b - a + 1 ≠ 0 by omega) (Chk.mk (show InK .i64 (a + (vj + 43 * (k + 1)).tmod (b - a + 1)) from ⟨by omega, by omega⟩) ?_))))))
    refine ⟨fun j => j, ?_, ?_, rfl, rfl, rfl, rfl⟩
    · repeat' (first | exact trivial | exact rfl | (intro i hi; exact ⟨rfl, rfl⟩) | (intro i hi; exact ⟨rfl, rfl⟩) | refine And.intro ?_ ?_)
    · refine ⟨rfl, ?_⟩
      rw [drwV, if_neg h, hvj]

end Go.X.W
end

section
set_option linter.unusedVariables false
set_option linter.unusedSimpArgs false
set_option linter.unusedSectionVars false
/- Warm: truly. -/
set_option linter.unusedVariables false
set_option linter.unusedSimpArgs false
set_option maxRecDepth 10000
set_option maxHeartbeats 8000000
namespace Go.X.W
open Go Go.Proofs Go.X

def trC (mk a b : Int) (m : Nat) (v : Nat → Int) (rd : Nat → Rd) (i : Nat) : List SV := rdC (truR mk a b m v rd i)
def trV (m : Nat) (v : Nat → Int) (rd : Nat → Rd) (i : Nat) : List SV := [.si .i64 (truT m v rd i)]
def lnV (m : Nat) (v : Nat → Int) (l1 l2 : Int) : Int := drwV m v 1 l1 l2
def coV (m : Nat) (v : Nat → Int) (c1 c2 : Int) : Int := drwV m v 2 c1 c2
def c40 : Ct := fun fr args H => match args with
  | [.agg [.si .i64 mk, .si .i64 l1, .si .i64 l2, .si .i64 c1, .si .i64 c2, .sl id], .sl oid] => (match sliceOf 4 H id, sliceOf 1 H oid with
    | some (n, get), some (m, og) => some ⟨some ((Rds n get ∧ U16s m og ∧ m ≤ maxLen) ∧ blkOk ⟨mk, l1, l2, c1, c2, rdL n get⟩ = true), none,
        .tup [wA mk l1 l2 c1 c2 fr, .si .i64 (lnV m (u16At og) l1 l2), .si .i64 (coV m (u16At og) c1 c2), .sl (fr + 1)],
        [(fr, .vec 41 4 n (trC mk (lnV m (u16At og) l1 l2) (coV m (u16At og) c1 c2) m (u16At og) (rdAt get))), (fr + 1, .vec 3 1 n (trV m (u16At og) (rdAt get)))]⟩
    | _, _ => none)
  | _ => none
theorem c40_mono : CtMono c40 := by
  intro fr args H H' out hH h
  unfold c40 at h ⊢
  split at h
  · split at h
    · rename_i e e'
      simp only [sliceOf_mono hH e, sliceOf_mono hH e']
      exact h
    · cases h
  · cases h
theorem k40 {l : List (Nat × Ct)} (g0 : Good P T l) : COk P 40 c40 := by
  have g := g98 (g42 (g43 good0))
  refine cok (C := tabC _) g.ok Try.func40 (c := code Try.f40) rfl fun fr args H out h hp => ?_
  unfold c40 at h
  split at h
  · rename_i mk l1 l2 c1 c2 id oid
    split at h
    · rename_i n get m og e e2
      cases h
      obtain ⟨⟨hs, hs2, hml⟩, hok⟩ : (Rds n get ∧ U16s m og ∧ m ≤ maxLen) ∧ blkOk ⟨mk, l1, l2, c1, c2, rdL n get⟩ = true := hp
      have hm : m ≤ 9223372036854775807 := Nat.le_trans hml (by decide)
      have hh : Hand H [(id, .ro 4 n fun i => rdC (rdAt get i)), (oid, .ro 1 m fun i => [.si .u16 (u16At og i)])] := hand_mk ⟨sliceOf_piece e fun i hi => by rw [hs i hi]; rfl, sliceOf_piece e2 fun i hj => by rw [(hs2 i hj).1]; rfl, trivial⟩
        (by repeat' (first | exact trivial | (intro i hi; exact ⟨trivial, trivial, trivial, trivial, trivial⟩) | (intro i hi; exact ⟨trivial, trivial⟩) | refine And.intro ?_ ?_ | exact (by decide : (1 : Nat) < 4) | exact (by decide : (2 : Nat) < 4))) rfl
      refine ⟨_, [wA mk l1 l2 c1 c2 0, .sl 1], [(0, .ro 4 n fun i => rdC (rdAt get i)), (1, .ro 1 m fun i => [.si .u16 (u16At og i)])], 2, [6, 7], rfl, rfl, Nat.le_of_ble_eq_true rfl, hh, rfl, rfl, fun G hG => ?_⟩
      have hv : ∀ i, i < m → 0 ≤ u16At og i ∧ u16At og i < 65536 := fun i hi => (hs2 i hi).2
      have hL : rdL n get = (List.range n).map (rdAt get) := rfl
      rw [hL] at hok
      generalize rdAt get = rd at hok ⊢
      generalize u16At og = v at hv ⊢
      clear hs hs2 hh hL
      obtain ⟨B, hB⟩ : ∃ B : Blk, Blk.mk mk l1 l2 c1 c2 ((List.range n).map rd) = B := ⟨_, rfl⟩
      rw [hB] at hok
      have hB1 : B.mark = mk := by rw [← hB]
      have hB2 : B.l1 = l1 ∧ B.l2 = l2 ∧ B.c1 = c1 ∧ B.c2 = c2 := by rw [← hB]; exact ⟨rfl, rfl, rfl, rfl⟩
      have hrs : B.rs = (List.range n).map rd := by rw [← hB]
      have hBn : B.rs.length = n := by rw [hrs]; simp
      obtain ⟨hmk, hl, hc, hn, hr⟩ := blk_b hok
      have hLn : l1 ≤ lnV m v l1 l2 ∧ lnV m v l1 l2 ≤ l2 := drwV_in hv (by decide) (by omega)
      have hCo : c1 ≤ coV m v c1 c2 ∧ coV m v c1 c2 ≤ c2 := drwV_in hv (by decide) (by omega)
      refine Chk.mk (fun i hi => ⟨rfl, hv i hi⟩) ?_
      refine any_region (by kernel_rfl) ?_
      refine any_take 1 (g.ok _ _ _) rfl rfl rfl rfl rfl rfl rfl (by kernel_rfl) (by kernel_rfl) (by kernel_rfl) ?_
      refine any_take 2 (g.ok _ _ _) rfl rfl rfl rfl rfl rfl rfl (by kernel_rfl) (by kernel_rfl) (by kernel_rfl) ?_
      refine any_take 5 (g.ok _ _ _) rfl rfl rfl rfl rfl rfl rfl (by kernel_rfl) (by kernel_rfl) (by kernel_rfl) ?_
      refine any_take 6 (g.ok _ _ _) rfl rfl rfl rfl rfl rfl rfl (by kernel_rfl) (by kernel_rfl) (by kernel_rfl) ?_
      refine any_fork [0, 3, 7] ⟨[(16, ⟨[], wA mk l1 l2 c1 c2 0⟩), (20, ⟨[], .si .i64 (lnV m v l1 l2)⟩), (24, ⟨[], .si .i64 (coV m v c1 c2)⟩), (2, ⟨[], .sp 2 0⟩), (4, ⟨[], .sp 3 0⟩), (7, ⟨[], .sv (.slice none 0 0)⟩), (8, ⟨[], .fn (.func 113) [] [.sp 4 0, .sp 5 0]⟩)], [],
        [(4, .cells 3 [.si .i64 2]), (5, .cells 25 [.sl 1]), (3, .cells 36 [.si .i64 0, .si .i64 0, .si .i64 0, .si .i64 0, .si .i64 0, .sv (.slice none 0 0)]), (2, .cells 36 (bC mk l1 l2 c1 c2 0)), (0, .ro 4 n fun i => rdC (rd i)), (1, .ro 1 m fun j => [.si .u16 (v j)])], 8, []⟩ 3 #[true, true, true, true, true, true, true, true, true, false, false, false] (g.ok _ _ _) (by kernel_rfl) (by decide) (fun K hK => ⟨?_, ?_, ?_, trivial⟩) ?_
      · refine any_step [3, 7] (g.ok _ _ _) (by kernel_rfl) (by decide) ⟨?_, ?_, trivial⟩
        · refine any_step [4, 7] (g.ok _ _ _) (by kernel_rfl) (by decide) ⟨?_, ?_, trivial⟩
          · refine fb_call (g.ok _ _ _) cont_any rfl rfl rfl rfl ⟨b113, draw_a hm hv (by decide) (by decide) ⟨by omega, by omega, by omega⟩ _ _ ?_⟩
            refine any_step [7] (g.ok _ _ _) (by kernel_rfl) (by decide) ⟨?_, trivial⟩
            refine any_step [8] (g.ok _ _ _) (by kernel_rfl) (by decide) ⟨?_, trivial⟩
            refine fb_call (g.ok _ _ _) cont_any rfl rfl rfl rfl ⟨b113, draw_a hm hv (by decide) (by decide) ⟨by omega, by omega, by omega⟩ _ _ ?_⟩
            refine any_weaken 2 (fun j => j) (fun j hj => hG j (by omega)) ?_ hK
            refine ⟨?_, ?_, rfl, rfl, rfl, rfl, trivial⟩
            · repeat' (first | exact trivial | exact rfl | refine And.intro ?_ ?_)
            · repeat' (first | exact trivial | exact rfl | (intro i hi; exact ⟨rfl, rfl⟩) | refine And.intro ?_ ?_)
          · refine any_step [4] (g.ok _ _ _) (by kernel_rfl) (by decide) ⟨?_, trivial⟩
            refine fb_call (g.ok _ _ _) cont_any rfl rfl rfl rfl ⟨b113, draw_a hm hv (by decide) (by decide) ⟨by omega, by omega, by omega⟩ _ _ ?_⟩
            refine any_step [8] (g.ok _ _ _) (by kernel_rfl) (by decide) ⟨?_, trivial⟩
            refine fb_call (g.ok _ _ _) cont_any rfl rfl rfl rfl ⟨b113, draw_a hm hv (by decide) (by decide) ⟨by omega, by omega, by omega⟩ _ _ ?_⟩
            refine any_weaken 2 (fun j => j) (fun j hj => hG j (by omega)) ?_ hK
            refine ⟨?_, ?_, rfl, rfl, rfl, rfl, trivial⟩
            · repeat' (first | exact trivial | exact rfl | refine And.intro ?_ ?_)
            · repeat' (first | exact trivial | exact rfl | (intro i hi; exact ⟨rfl, rfl⟩) | refine And.intro ?_ ?_)
        · refine any_step [3] (g.ok _ _ _) (by kernel_rfl) (by decide) ⟨?_, trivial⟩
          refine any_step [4] (g.ok _ _ _) (by kernel_rfl) (by decide) ⟨?_, trivial⟩
          refine fb_call (g.ok _ _ _) cont_any rfl rfl rfl rfl ⟨b113, draw_a hm hv (by decide) (by decide) ⟨by omega, by omega, by omega⟩ _ _ ?_⟩
          refine any_step [8] (g.ok _ _ _) (by kernel_rfl) (by decide) ⟨?_, trivial⟩
          refine fb_call (g.ok _ _ _) cont_any rfl rfl rfl rfl ⟨b113, draw_a hm hv (by decide) (by decide) ⟨by omega, by omega, by omega⟩ _ _ ?_⟩
          refine any_weaken 2 (fun j => j) (fun j hj => hG j (by omega)) ?_ hK
          refine ⟨?_, ?_, rfl, rfl, rfl, rfl, trivial⟩
          · repeat' (first | exact trivial | exact rfl | refine And.intro ?_ ?_)
          · repeat' (first | exact trivial | exact rfl | (intro i hi; exact ⟨rfl, rfl⟩) | refine And.intro ?_ ?_)
      · refine any_step [0, 4, 7] (g.ok _ _ _) (by kernel_rfl) (by decide) ⟨?_, ?_, ?_, trivial⟩
        · refine any_step [4, 7] (g.ok _ _ _) (by kernel_rfl) (by decide) ⟨?_, ?_, trivial⟩
          · refine fb_call (g.ok _ _ _) cont_any rfl rfl rfl rfl ⟨b113, draw_a hm hv (by decide) (by decide) ⟨by omega, by omega, by omega⟩ _ _ ?_⟩
            refine any_step [7] (g.ok _ _ _) (by kernel_rfl) (by decide) ⟨?_, trivial⟩
            refine any_step [8] (g.ok _ _ _) (by kernel_rfl) (by decide) ⟨?_, trivial⟩
            refine fb_call (g.ok _ _ _) cont_any rfl rfl rfl rfl ⟨b113, draw_a hm hv (by decide) (by decide) ⟨by omega, by omega, by omega⟩ _ _ ?_⟩
            refine any_weaken 2 (fun j => j) (fun j hj => hG j (by omega)) ?_ hK
            refine ⟨?_, ?_, rfl, rfl, rfl, rfl, trivial⟩
            · repeat' (first | exact trivial | exact rfl | refine And.intro ?_ ?_)
            · repeat' (first | exact trivial | exact rfl | (intro i hi; exact ⟨rfl, rfl⟩) | refine And.intro ?_ ?_)
          · refine any_step [4] (g.ok _ _ _) (by kernel_rfl) (by decide) ⟨?_, trivial⟩
            refine fb_call (g.ok _ _ _) cont_any rfl rfl rfl rfl ⟨b113, draw_a hm hv (by decide) (by decide) ⟨by omega, by omega, by omega⟩ _ _ ?_⟩
            refine any_step [8] (g.ok _ _ _) (by kernel_rfl) (by decide) ⟨?_, trivial⟩
            refine fb_call (g.ok _ _ _) cont_any rfl rfl rfl rfl ⟨b113, draw_a hm hv (by decide) (by decide) ⟨by omega, by omega, by omega⟩ _ _ ?_⟩
            refine any_weaken 2 (fun j => j) (fun j hj => hG j (by omega)) ?_ hK
            refine ⟨?_, ?_, rfl, rfl, rfl, rfl, trivial⟩
            · repeat' (first | exact trivial | exact rfl | refine And.intro ?_ ?_)
            · repeat' (first | exact trivial | exact rfl | (intro i hi; exact ⟨rfl, rfl⟩) | refine And.intro ?_ ?_)
        · refine fb_call (g.ok _ _ _) cont_any rfl rfl rfl rfl ⟨b113, draw_a hm hv (by decide) (by decide) ⟨by omega, by omega, by omega⟩ _ _ ?_⟩
          refine any_step [0, 7] (g.ok _ _ _) (by kernel_rfl) (by decide) ⟨?_, ?_, trivial⟩
          · refine any_step [7] (g.ok _ _ _) (by kernel_rfl) (by decide) ⟨?_, trivial⟩
            refine any_step [8] (g.ok _ _ _) (by kernel_rfl) (by decide) ⟨?_, trivial⟩
            refine fb_call (g.ok _ _ _) cont_any rfl rfl rfl rfl ⟨b113, draw_a hm hv (by decide) (by decide) ⟨by omega, by omega, by omega⟩ _ _ ?_⟩
            refine any_weaken 2 (fun j => j) (fun j hj => hG j (by omega)) ?_ hK
            refine ⟨?_, ?_, rfl, rfl, rfl, rfl, trivial⟩
            · repeat' (first | exact trivial | exact rfl | refine And.intro ?_ ?_)
            · repeat' (first | exact trivial | exact rfl | (intro i hi; exact ⟨rfl, rfl⟩) | refine And.intro ?_ ?_)
          · refine any_step [0, 8] (g.ok _ _ _) (by kernel_rfl) (by decide) ⟨?_, ?_, trivial⟩
            · refine any_step [8] (g.ok _ _ _) (by kernel_rfl) (by decide) ⟨?_, trivial⟩
              refine fb_call (g.ok _ _ _) cont_any rfl rfl rfl rfl ⟨b113, draw_a hm hv (by decide) (by decide) ⟨by omega, by omega, by omega⟩ _ _ ?_⟩
              refine any_weaken 2 (fun j => j) (fun j hj => hG j (by omega)) ?_ hK
              refine ⟨?_, ?_, rfl, rfl, rfl, rfl, trivial⟩
              · repeat' (first | exact trivial | exact rfl | refine And.intro ?_ ?_)
              · repeat' (first | exact trivial | exact rfl | (intro i hi; exact ⟨rfl, rfl⟩) | refine And.intro ?_ ?_)
            · refine fb_call (g.ok _ _ _) cont_any rfl rfl rfl rfl ⟨b113, draw_a hm hv (by decide) (by decide) ⟨by omega, by omega, by omega⟩ _ _ ?_⟩
              refine any_step [0] (g.ok _ _ _) (by kernel_rfl) (by decide) ⟨?_, trivial⟩
              refine any_weaken 2 (fun j => j) (fun j hj => hG j (by omega)) ?_ hK
              refine ⟨?_, ?_, rfl, rfl, rfl, rfl, trivial⟩
              · repeat' (first | exact trivial | exact rfl | refine And.intro ?_ ?_)
              · repeat' (first | exact trivial | exact rfl | (intro i hi; exact ⟨rfl, rfl⟩) | refine And.intro ?_ ?_)
        · refine any_step [0, 4] (g.ok _ _ _) (by kernel_rfl) (by decide) ⟨?_, ?_, trivial⟩
          · refine any_step [4] (g.ok _ _ _) (by kernel_rfl) (by decide) ⟨?_, trivial⟩
            refine fb_call (g.ok _ _ _) cont_any rfl rfl rfl rfl ⟨b113, draw_a hm hv (by decide) (by decide) ⟨by omega, by omega, by omega⟩ _ _ ?_⟩
            refine any_step [8] (g.ok _ _ _) (by kernel_rfl) (by decide) ⟨?_, trivial⟩
            refine fb_call (g.ok _ _ _) cont_any rfl rfl rfl rfl ⟨b113, draw_a hm hv (by decide) (by decide) ⟨by omega, by omega, by omega⟩ _ _ ?_⟩
            refine any_weaken 2 (fun j => j) (fun j hj => hG j (by omega)) ?_ hK
            refine ⟨?_, ?_, rfl, rfl, rfl, rfl, trivial⟩
            · repeat' (first | exact trivial | exact rfl | refine And.intro ?_ ?_)
            · repeat' (first | exact trivial | exact rfl | (intro i hi; exact ⟨rfl, rfl⟩) | refine And.intro ?_ ?_)
          · refine fb_call (g.ok _ _ _) cont_any rfl rfl rfl rfl ⟨b113, draw_a hm hv (by decide) (by decide) ⟨by omega, by omega, by omega⟩ _ _ ?_⟩
            refine any_step [0, 8] (g.ok _ _ _) (by kernel_rfl) (by decide) ⟨?_, ?_, trivial⟩
            · refine any_step [8] (g.ok _ _ _) (by kernel_rfl) (by decide) ⟨?_, trivial⟩
              refine fb_call (g.ok _ _ _) cont_any rfl rfl rfl rfl ⟨b113, draw_a hm hv (by decide) (by decide) ⟨by omega, by omega, by omega⟩ _ _ ?_⟩
              refine any_weaken 2 (fun j => j) (fun j hj => hG j (by omega)) ?_ hK
              refine ⟨?_, ?_, rfl, rfl, rfl, rfl, trivial⟩
              · repeat' (first | exact trivial | exact rfl | refine And.intro ?_ ?_)
              · repeat' (first | exact trivial | exact rfl | (intro i hi; exact ⟨rfl, rfl⟩) | refine And.intro ?_ ?_)
            · refine fb_call (g.ok _ _ _) cont_any rfl rfl rfl rfl ⟨b113, draw_a hm hv (by decide) (by decide) ⟨by omega, by omega, by omega⟩ _ _ ?_⟩
              refine any_step [0] (g.ok _ _ _) (by kernel_rfl) (by decide) ⟨?_, trivial⟩
              refine any_weaken 2 (fun j => j) (fun j hj => hG j (by omega)) ?_ hK
              refine ⟨?_, ?_, rfl, rfl, rfl, rfl, trivial⟩
              · repeat' (first | exact trivial | exact rfl | refine And.intro ?_ ?_)
              · repeat' (first | exact trivial | exact rfl | (intro i hi; exact ⟨rfl, rfl⟩) | refine And.intro ?_ ?_)
      · refine any_step [0, 3] (g.ok _ _ _) (by kernel_rfl) (by decide) ⟨?_, ?_, trivial⟩
        · refine any_step [3] (g.ok _ _ _) (by kernel_rfl) (by decide) ⟨?_, trivial⟩
          refine any_step [4] (g.ok _ _ _) (by kernel_rfl) (by decide) ⟨?_, trivial⟩
          refine fb_call (g.ok _ _ _) cont_any rfl rfl rfl rfl ⟨b113, draw_a hm hv (by decide) (by decide) ⟨by omega, by omega, by omega⟩ _ _ ?_⟩
          refine any_step [8] (g.ok _ _ _) (by kernel_rfl) (by decide) ⟨?_, trivial⟩
          refine fb_call (g.ok _ _ _) cont_any rfl rfl rfl rfl ⟨b113, draw_a hm hv (by decide) (by decide) ⟨by omega, by omega, by omega⟩ _ _ ?_⟩
          refine any_weaken 2 (fun j => j) (fun j hj => hG j (by omega)) ?_ hK
          refine ⟨?_, ?_, rfl, rfl, rfl, rfl, trivial⟩
          · repeat' (first | exact trivial | exact rfl | refine And.intro ?_ ?_)
          · repeat' (first | exact trivial | exact rfl | (intro i hi; exact ⟨rfl, rfl⟩) | refine And.intro ?_ ?_)
        · refine any_step [0, 4] (g.ok _ _ _) (by kernel_rfl) (by decide) ⟨?_, ?_, trivial⟩
          · refine any_step [4] (g.ok _ _ _) (by kernel_rfl) (by decide) ⟨?_, trivial⟩
            refine fb_call (g.ok _ _ _) cont_any rfl rfl rfl rfl ⟨b113, draw_a hm hv (by decide) (by decide) ⟨by omega, by omega, by omega⟩ _ _ ?_⟩
            refine any_step [8] (g.ok _ _ _) (by kernel_rfl) (by decide) ⟨?_, trivial⟩
            refine fb_call (g.ok _ _ _) cont_any rfl rfl rfl rfl ⟨b113, draw_a hm hv (by decide) (by decide) ⟨by omega, by omega, by omega⟩ _ _ ?_⟩
            refine any_weaken 2 (fun j => j) (fun j hj => hG j (by omega)) ?_ hK
            refine ⟨?_, ?_, rfl, rfl, rfl, rfl, trivial⟩
            · repeat' (first | exact trivial | exact rfl | refine And.intro ?_ ?_)
            · repeat' (first | exact trivial | exact rfl | (intro i hi; exact ⟨rfl, rfl⟩) | refine And.intro ?_ ?_)
          · refine fb_call (g.ok _ _ _) cont_any rfl rfl rfl rfl ⟨b113, draw_a hm hv (by decide) (by decide) ⟨by omega, by omega, by omega⟩ _ _ ?_⟩
            refine any_step [0, 8] (g.ok _ _ _) (by kernel_rfl) (by decide) ⟨?_, ?_, trivial⟩
            · refine any_step [8] (g.ok _ _ _) (by kernel_rfl) (by decide) ⟨?_, trivial⟩
              refine fb_call (g.ok _ _ _) cont_any rfl rfl rfl rfl ⟨b113, draw_a hm hv (by decide) (by decide) ⟨by omega, by omega, by omega⟩ _ _ ?_⟩
              refine any_weaken 2 (fun j => j) (fun j hj => hG j (by omega)) ?_ hK
              refine ⟨?_, ?_, rfl, rfl, rfl, rfl, trivial⟩
              · repeat' (first | exact trivial | exact rfl | refine And.intro ?_ ?_)
              · repeat' (first | exact trivial | exact rfl | (intro i hi; exact ⟨rfl, rfl⟩) | refine And.intro ?_ ?_)
            · refine fb_call (g.ok _ _ _) cont_any rfl rfl rfl rfl ⟨b113, draw_a hm hv (by decide) (by decide) ⟨by omega, by omega, by omega⟩ _ _ ?_⟩
              refine any_step [0] (g.ok _ _ _) (by kernel_rfl) (by decide) ⟨?_, trivial⟩
              refine any_weaken 2 (fun j => j) (fun j hj => hG j (by omega)) ?_ hK
              refine ⟨?_, ?_, rfl, rfl, rfl, rfl, trivial⟩
              · repeat' (first | exact trivial | exact rfl | refine And.intro ?_ ?_)
              · repeat' (first | exact trivial | exact rfl | (intro i hi; exact ⟨rfl, rfl⟩) | refine And.intro ?_ ?_)
      refine any_step [9] (g.ok _ _ _) (by kernel_rfl) (by decide) ⟨?_, trivial⟩
      refine any_step [10] (g.ok _ _ _) (by kernel_rfl) (by decide) ⟨?_, trivial⟩
      refine any_step [11] (g.ok _ _ _) (by kernel_rfl) (by decide) ⟨?_, trivial⟩
      refine any_done (by kernel_rfl) ?_
      refine nil_at 3 36 41 4 (trC mk (lnV m v l1 l2) (coV m v c1 c2) m v rd) [.si .i64 mk, .si .i64 l1, .si .i64 l2, .si .i64 c1, .si .i64 c2] [] rfl ?_
      refine nil_slot 7 3 1 (trV m v rd) rfl ?_
      obtain ⟨ln, hln⟩ : ∃ ln, lnV m v l1 l2 = ln := ⟨_, rfl⟩
      obtain ⟨co, hco⟩ : ∃ co, coV m v c1 c2 = co := ⟨_, rfl⟩
      rw [hln] at hLn ⊢
      rw [hco] at hCo ⊢
      refine loop_okR (g.ok _ _ _) 2 (fun z : {i : Nat // i ≤ n} => ⟨[(2, ⟨[], .sp 2 0⟩), (4, ⟨[], .sp 3 0⟩), (5, ⟨[], .si .i64 ln⟩), (6, ⟨[], .si .i64 co⟩), (7, ⟨[], .sl 7⟩), (8, ⟨[], .fn (.func 113) [] [.sp 4 0, .sp 5 0]⟩), (27, ⟨[], .sl 0⟩), (28, ⟨[], .si .i64 n⟩), (29, ⟨[], .si .i64 (z.1 : Nat)⟩)], [],
        [(4, .cells 3 [.si .i64 ((z.1 : Nat) + 2)]), (5, .cells 25 [.sl 1]), (7, .vec 3 1 z.1 (trV m v rd)), (6, .vec 41 4 z.1 (trC mk ln co m v rd)), (3, .cells 36 (bC mk l1 l2 c1 c2 6)), (2, .cells 36 (bC mk l1 l2 c1 c2 0)), (1, .ro 1 m fun j => [.si .u16 (v j)]), (0, .ro 4 n fun i => rdC (rd i))], 8, []⟩)
        (fun z => n - z.1) (fun j hj => hG j (by omega)) ⟨0, Nat.zero_le _⟩ (fun j => match j with | 6 => 8 | 7 => 9 | j => j) ?_ ?_
      · refine ⟨?_, ?_, rfl, rfl, rfl, rfl, trivial⟩
        · repeat' (first | exact trivial | exact rfl | refine And.intro ?_ ?_)
        · repeat' (first | exact trivial | exact rfl | (intro i hi; exact ⟨rfl, rfl⟩) | refine And.intro ?_ ?_)
      rintro ⟨i, hi⟩
      refine Br.mk (fun h => ?_) (fun h => ?_)
      · have h : (i : Int) < (n : Int) := of_decide_eq_true h
        have hin : i < n := by omega
        have hrd := tru_rd hok hrs hv hin
        have htt := tru_t hok hrs hv hin
        have hw := tru_w hok hrs hv hin
        have hsh := tru_show hok hrs hv (a := ln) (b := co) (by omega) (by omega) hin
        rw [hB1] at hsh
        refine Chk.mk (show (0 : Int) ≤ (i : Int) ∧ (i : Int) < (n : Int) from ⟨by omega, h⟩) ?_
        refine fb_weaken (st' := ⟨[(2, ⟨[], .sp 2 0⟩), (4, ⟨[], .sp 3 0⟩), (5, ⟨[], .si .i64 ln⟩), (6, ⟨[], .si .i64 co⟩), (7, ⟨[], .sl 7⟩), (8, ⟨[], .fn (.func 113) [] [.sp 4 0, .sp 5 0]⟩), (27, ⟨[], .sl 0⟩), (28, ⟨[], .si .i64 n⟩), (29, ⟨[], .si .i64 (i : Nat)⟩), (10, ⟨[], .sp 8 0⟩), (33, ⟨[], .fn (.func 113) [] [.sp 4 0, .sp 5 0]⟩), (35, ⟨[], .agg [.si .i64 (rd i).1, .si .i64 (rd i).2.1]⟩)], [],
          [(4, .cells 3 [.si .i64 ((i : Nat) + 2)]), (5, .cells 25 [.sl 1]), (8, .cells 41 (rdC (rd i))), (7, .vec 3 1 i (fun j => [.si .i64 (truT m v rd j)])), (6, .vec 41 4 i (fun j => rdC (truR mk ln co m v rd j))), (3, .cells 36 (bC mk l1 l2 c1 c2 6)), (2, .cells 36 (bC mk l1 l2 c1 c2 0)), (1, .ro 1 m fun j => [.si .u16 (v j)]), (0, .ro 4 n fun i => rdC (rd i))], 9, []⟩) 2 (fun j => j) (fun j hj => hG j (by omega)) ?_ ?_
        · refine ⟨?_, ?_, rfl, rfl, rfl, rfl, trivial⟩
          · repeat' (first | exact trivial | exact rfl | refine And.intro ?_ ?_)
          · repeat' (first | exact trivial | exact rfl | (intro i hi; exact ⟨rfl, rfl⟩) | refine And.intro ?_ ?_)
        refine fb_call (g.ok _ _ _) cont_std rfl rfl rfl rfl ⟨b113, draw_b hm hv (by omega) (by omega) ⟨by omega, by omega, by omega⟩ _ _ ?_⟩
        have ek : (i : Int) + 2 + 1 = (i : Int) + 3 := by omega
        rw [ek]
        have etr : drwV m v ((i : Int) + 3) (rd i).1 (rd i).2.1 = truT m v rd i := rfl
        rw [etr]
        refine Chk.mk ⟨(show smB 1000000 ln from ⟨by omega, by omega⟩), (show smB 1000 mk from ⟨by omega, by omega⟩), (show smB 1000 co from ⟨by omega, by omega⟩), (show smB 1000 (truT m v rd i) from ⟨by omega, by omega⟩)⟩ ?_
        refine Chk.mk (show InK .i64 ((rd i).2.2.2 - (rd i).2.2.1) from ⟨by omega, by omega⟩) ?_
        refine drawn_ok (g.ok _ _ _) fol [0,1,0,4,0,0,32,112,0,0,768,0,2048,7936,16368,32764,65532,131071,262143,524287] [] 17 (by kernel_rfl) ?_
        have hwd : (min 40 ((rd i).2.2.2 - (rd i).2.2.1)) = truW (rd i) := rfl
        obtain ⟨tw, htw⟩ : ∃ tw, truW (rd i) = tw := ⟨_, rfl⟩
        rw [htw] at hw hwd
        obtain ⟨sh, hsh'⟩ : ∃ sh, showV mk (ln, co) (truT m v rd i) = sh := ⟨_, rfl⟩
        rw [hsh'] at hsh
        refine Chk.mk (show (2 : Int) ≠ 0 ∧ InK .i64 _ from ⟨by decide, by rw [hwd]; exact ⟨by omega, by omega⟩⟩) ?_
        rw [hwd, hsh']
        refine Chk.mk (show InK .i64 (sh - tw.tdiv 2) from ⟨by omega, by omega⟩) (Chk.mk (show InK .i64 (sh + tw) from ⟨by omega, by omega⟩) (Chk.mk (show (2 : Int) ≠ 0 ∧ InK .i64 (tw.tdiv 2) from ⟨by decide, by omega, by omega⟩) (Chk.mk (show InK .i64 (sh + tw - tw.tdiv 2) from ⟨by omega, by omega⟩) ?_)))
        have hri : trC mk ln co m v rd i = [.si .i64 (rd i).1, .si .i64 (rd i).2.1, .si .i64 (sh - tw.tdiv 2), .si .i64 (sh + tw - tw.tdiv 2)] := by
          unfold trC truR
          rw [htw, hsh']
          rfl
        refine fb_append (Te := 0) 6 73 i 1 _ _ (trC mk ln co m v rd) (g.ok _ _ _) cont_std rfl rfl rfl rfl rfl rfl rfl rfl rfl rfl rfl rfl (by decide) (by decide) rfl rfl rfl rfl (by omega) (fun j hj => ?_) ?_
        · by_cases hlt : j < i
          · rw [if_pos hlt]; rfl
          · rw [if_neg hlt, show j = i by omega, hri, Nat.sub_self]
            rfl
        refine fb_append (Te := 0) 7 78 i 1 _ _ (trV m v rd) (g.ok _ _ _) cont_std rfl rfl rfl rfl rfl rfl rfl rfl rfl rfl rfl rfl (by decide) (by decide) rfl rfl rfl rfl (by omega) (fun j hj => ?_) ?_
        · by_cases hlt : j < i
          · rw [if_pos hlt]; rfl
          · rw [if_neg hlt, show j = i by omega, Nat.sub_self]
            rfl
        have ek2 : (i : Int) + 3 = ((i + 1 : Nat) : Int) + 2 := by omega
        refine Chk.mk (show InK .i64 ((i : Int) + 1) from ⟨by omega, by omega⟩) ⟨⟨i + 1, by omega⟩, (fun j => match j with | 6 => 77 | 7 => 79 | j => j), ?_, by show n - (i + 1) < n - i; omega⟩
        refine ⟨?_, ?_, rfl, rfl, rfl, rfl, trivial⟩
        · repeat' (first | exact trivial | exact rfl | refine And.intro ?_ ?_)
        · repeat' (first | exact trivial | exact ek2 | exact rfl | (intro i hi; exact ⟨rfl, rfl⟩) | refine And.intro ?_ ?_)
      · have h : ¬ (i : Int) < (n : Int) := of_decide_eq_false h
        obtain rfl : i = n := by omega
        refine ⟨.inl rfl, ⟨?_, rfl, ?_, ?_, rfl, rfl⟩⟩
        · repeat' (first | exact trivial | exact rfl | refine And.intro ?_ ?_)
        · repeat' (first | exact trivial | exact rfl | (intro i hi; exact ⟨rfl, rfl⟩) | refine And.intro ?_ ?_)
        · repeat' (first | exact trivial | exact rfl | refine And.intro ?_ ?_)
    · cases h
  · cases h
theorem g40 {l : List (Nat × Ct)} (g : Good P T l) : Good P T ((40, c40) :: l) := g.add (k40 g) c40_mono (body_of Try.func40 (c := code Try.f40) rfl (by decide))
end Go.X.W
end

section
set_option linter.unusedVariables false
set_option linter.unusedSimpArgs false
set_option linter.unusedSectionVars false
/- Warm: WarmTrue answers true. -/
set_option linter.unusedVariables false
set_option linter.unusedSimpArgs false
set_option maxRecDepth 10000
set_option maxHeartbeats 8000000
namespace Go.X.W
open Go Go.Proofs Go.X

def c7 : Ct := fun fr args H =>
  match args with
  | [.agg [.si .i64 mk, .si .i64 l1, .si .i64 l2, .si .i64 c1, .si .i64 c2, .sl id], .sl oid, .si .u8 x, .si .u16 y] => (match sliceOf 4 H id, sliceOf 1 H oid with
    | some (n, get), some (m, og) => some ⟨some ((Rds n get ∧ U16s m og ∧ m ≤ maxLen) ∧ (0 ≤ x ∧ x < 256) ∧ 0 ≤ y ∧ y < 65536), none, .sb true, []⟩
    | _, _ => none)
  | _ => none
theorem k7 {l : List (Nat × Ct)} (g0 : Good P T l) : COk P 7 c7 := by
  have g := g39 (g24 (g40 (g19 (g26 (g33 (g37 (g28 (g30 (g22 (g41 (g42 (g43 good0))))))))))))
  refine cok (C := tabC _) g.ok Try.func7 (c := code Try.f7) rfl fun fr args H out h hp => ?_
  unfold c7 at h
  split at h
  · rename_i mk l1 l2 c1 c2 id oid x y
    split at h
    · rename_i n get m og e e2
      cases h
      obtain ⟨⟨hs, hs2, hml⟩, hx, hy⟩ : (Rds n get ∧ U16s m og ∧ m ≤ maxLen) ∧ (0 ≤ x ∧ x < 256) ∧ 0 ≤ y ∧ y < 65536 := hp
      have hh : Hand H [(id, .ro 4 n fun i => rdC (rdAt get i)), (oid, .ro 1 m fun i => [.si .u16 (u16At og i)])] := hand_mk ⟨sliceOf_piece e fun i hi => by rw [hs i hi]; rfl, sliceOf_piece e2 fun i hj => by rw [(hs2 i hj).1]; rfl, trivial⟩
        (by repeat' (first | exact trivial | (intro i hi; exact ⟨trivial, trivial, trivial, trivial, trivial⟩) | (intro i hi; exact ⟨trivial, trivial⟩) | refine And.intro ?_ ?_ | exact (by decide : (1 : Nat) < 4) | exact (by decide : (2 : Nat) < 4))) rfl
      refine ⟨_, [wA mk l1 l2 c1 c2 0, .sl 1, .si .u8 x, .si .u16 y], [(0, .ro 4 n fun i => rdC (rdAt get i)), (1, .ro 1 m fun i => [.si .u16 (u16At og i)])], 2, [], rfl, rfl, Nat.le_of_ble_eq_true rfl, hh, rfl, rfl, fun G hG => ?_⟩
      have hv : ∀ i, i < m → 0 ≤ u16At og i ∧ u16At og i < 65536 := fun i hi => (hs2 i hi).2
      generalize rdAt get = rd
      generalize u16At og = v at hv ⊢
      clear hs hs2 hh
      refine Chk.mk ⟨rds_rd _ _, rfl, trivial⟩ ?_
      refine Br.mk (fun h => ?_) (fun h => ?_)
      · exact ⟨.inl rfl, end_noid rfl rfl rfl ⟨trivial, trivial, trivial⟩⟩
      obtain ⟨B, hB⟩ : ∃ B : Blk, Blk.mk mk l1 l2 c1 c2 (rdL n fun i => rdC (rd i)) = B := ⟨_, rfl⟩
      have hok : blkOk B = true := by
        have h : (!fineB ⟨mk, l1, l2, c1, c2, rdL n fun i => rdC (rd i)⟩) = false := h
        rw [hB] at h
        exact fine_blk (by simpa using h)
      clear h
      have hB1 : B.mark = mk := by rw [← hB]
      have hB2 : B.l1 = l1 ∧ B.l2 = l2 ∧ B.c1 = c1 ∧ B.c2 = c2 := by rw [← hB]; exact ⟨rfl, rfl, rfl, rfl⟩
      have hrs : B.rs = (List.range n).map rd := by rw [← hB]; rfl
      have hBn : B.rs.length = n := by rw [hrs]; simp
      obtain ⟨hmk, hl, hc, hn, hr⟩ := blk_b hok
      have hLn : l1 ≤ lnV m v l1 l2 ∧ lnV m v l1 l2 ≤ l2 := drwV_in hv (by decide) (by omega)
      have hCo : c1 ≤ coV m v c1 c2 ∧ coV m v c1 c2 ≤ c2 := drwV_in hv (by decide) (by omega)
      refine Chk.mk ⟨⟨rds_rd _ _, fun i hi => ⟨rfl, hv i hi⟩, hml⟩, by rw [hB]; exact hok⟩ ?_
      have eu : (u16At fun i => [SV.si .u16 (v i)]) = v := by funext i; rfl
      have er : (rdAt fun i => rdC (rd i)) = rd := by funext i; rfl
      refine Chk.mk ⟨fun i hi => rfl, rfl, trivial⟩ ?_
      rw [eu, er]
      obtain ⟨ln, hln⟩ : ∃ ln, lnV m v l1 l2 = ln := ⟨_, rfl⟩
      obtain ⟨co, hco⟩ : ∃ co, coV m v c1 c2 = co := ⟨_, rfl⟩
      rw [hln] at hLn ⊢
      rw [hco] at hCo ⊢
      obtain ⟨D, hD⟩ : ∃ D : Blk, Blk.mk mk l1 l2 c1 c2 (rdL n (trC mk ln co m v rd)) = D := ⟨_, rfl⟩
      have hDt : D = truB B n ln co m v rd := by
        rw [← hD]
        unfold truB
        rw [hB1, hB2.1, hB2.2.1, hB2.2.2.1, hB2.2.2.2]
        rfl
      have ha : B.l1 ≤ ln ∧ ln ≤ B.l2 := by omega
      have hb : B.c1 ≤ co ∧ co ≤ B.c2 := by omega
      have dok : blkOk D = true := by rw [hDt]; exact tru_ok hok hrs hv ha hb
      have d0 : ¬ (pairsV D).length = 0 := by rw [hDt]; exact tru_pos hok hrs hv ha hb
      have dmem : (ln, co) ∈ pairsV D := by rw [hDt]; exact tru_mem hok hrs hv ha hb
      have dhull : ∀ (L : Pr → List Int) x, x ∈ L (ln, co) → (hullV D L).1 ≤ x ∧ x ≤ (hullV D L).2 := fun L x hx => by rw [hDt]; exact tru_hull hok hrs hv ha hb hx
      have dmk : D.mark = mk := by rw [← hD]
      have drs : D.rs = (List.range n).map (truR mk ln co m v rd) := by rw [← hD]; rfl
      have dlen : D.rs.length = n := by rw [drs]; simp
      have hLen := hullE_tell dok (is := true) (fun p => [p.1])
      have hCoe := hullE_tell dok (is := true) (fun p => [p.2])
      rw [if_pos rfl, if_neg d0] at hLen hCoe
      rw [hD, hLen]
      refine Chk.mk ⟨fun i hi => rfl, rfl, trivial⟩ ?_
      rw [hD, hCoe]
      refine Chk.mk ⟨fun i hi => rfl, rfl, trivial⟩ ?_
      refine Chk.mk ⟨fun i hi => rfl, rfl, trivial⟩ ?_
      rw [hD, cnt_ok dok]
      have hcl : clashV D = (0, 4) := by
        rcases clash_spec dok with ⟨_, h⟩ | ⟨h, _⟩
        · exact h
        · exact absurd h d0
      rw [hcl]
      have h1 := dhull (fun p => [p.1]) ln (by simp)
      have h2 := dhull (fun p => [p.2]) co (by simp)
      refine Br.mk (fun h => absurd h ?_) (fun _ => ?_)
      · simp [inB]
        omega
      refine loop_okR (g.ok _ _ _) 2 (fun z : {i : Nat // i ≤ n} => ⟨[(2, ⟨[], .si .u8 x⟩), (3, ⟨[], .si .u16 y⟩), (4, ⟨[], .sp 2 0⟩), (9, ⟨[], .sp 5 0⟩), (10, ⟨[], .si .i64 ln⟩), (11, ⟨[], .si .i64 co⟩), (95, ⟨[], .sl 4⟩), (96, ⟨[], .si .i64 n⟩), (97, ⟨[], .si .i64 (z.1 : Nat)⟩)], [],
        [(5, .cells 36 (bC mk l1 l2 c1 c2 3)), (4, .vec 3 1 n (trV m v rd)), (3, .vec 41 4 n (trC mk ln co m v rd)), (2, .cells 36 (bC mk l1 l2 c1 c2 0)), (0, .ro 4 n fun i => rdC (rd i))], 6, []⟩)
        (fun z => n - z.1) (fun j hj => hG j (by omega)) ⟨0, Nat.zero_le _⟩ (fun j => match j with | 5 => 7 | j => j) ?_ ?_
      · refine ⟨?_, ?_, rfl, rfl, rfl, rfl, trivial⟩
        · repeat' (first | exact trivial | exact rfl | refine And.intro ?_ ?_)
        · repeat' (first | exact trivial | exact rfl | (intro i hi; exact ⟨rfl, rfl⟩) | refine And.intro ?_ ?_)
      rintro ⟨i, hi⟩
      refine Br.mk (fun h => ?_) (fun h => ?_)
      · have h : (i : Int) < (n : Int) := of_decide_eq_true h
        have hin : i < n := by omega
        refine Chk.mk (show (0 : Int) ≤ (i : Int) ∧ (i : Int) < (n : Int) from ⟨by omega, h⟩) ?_
        refine Chk.mk ⟨fun i hi => rfl, rfl, (show (Blk.mk mk l1 l2 c1 c2 (rdL n (trC mk ln co m v rd))).rs.length ≤ 40 by rw [hD]; omega)⟩ ?_
        have hheld : hullE D (inB (i : Int) 0 ((D.rs.length : Int) - 1)) (fun p => warmV D.mark p (rdGet D.rs (i : Int))) = (hullV D (fun p => warmV D.mark p (rdGet D.rs (i : Int))), 0) := by
          rw [hullE_tell dok, if_pos (by simp only [inB, Bool.and_eq_true, decide_eq_true_eq]; omega), if_neg d0]
        have hti := dhull (fun p => warmV D.mark p (rdGet D.rs (i : Int))) (truT m v rd i) (by
          show _ ∈ warmV D.mark (ln, co) (rdGet D.rs (i : Int))
          rw [drs, rdGet_map (by omega) (by omega), show ((i : Int)).toNat = i by omega, dmk, ← hB1]
          exact tru_can hok hrs hv ha hb hin)
        rw [hD, hheld]
        refine Br.mk (fun h => absurd h ?_) (fun _ => ?_)
        · have hti' : (hullV D (fun p => warmV D.mark p (rdGet D.rs (i : Int)))).1 ≤ truT m v rd (((i : Int)).toNat) ∧ truT m v rd (((i : Int)).toNat) ≤ (hullV D (fun p => warmV D.mark p (rdGet D.rs (i : Int)))).2 := by
            rw [show ((i : Int)).toNat = i by omega]; exact hti
          simp only [inB]
          simp
          exact hti'
        refine Chk.mk (show InK .i64 ((i : Int) + 1) from ⟨by omega, by omega⟩) ⟨⟨i + 1, by omega⟩, (fun j => j), ?_, by show n - (i + 1) < n - i; omega⟩
        refine ⟨?_, ?_, rfl, rfl, rfl, rfl, trivial⟩
        · repeat' (first | exact trivial | exact rfl | refine And.intro ?_ ?_)
        · repeat' (first | exact trivial | exact rfl | (intro i hi; exact ⟨rfl, rfl⟩) | refine And.intro ?_ ?_)
      have h : ¬ (i : Int) < (n : Int) := of_decide_eq_false h
      obtain rfl : i = n := by omega
      have e1 : x.tmod 201 = x % 201 := Int.tmod_eq_emod_of_nonneg (by omega)
      have e2 : y.tmod 30001 = y % 30001 := Int.tmod_eq_emod_of_nonneg (by omega)
      refine Chk.mk (show InK .i64 x from ⟨by omega, by omega⟩) (Chk.mk (show (201 : Int) ≠ 0 by decide) (Chk.mk (show InK .i64 (x.tmod 201 - 100) from ⟨by omega, by omega⟩) ?_))
      obtain ⟨t, ht⟩ : ∃ t, x.tmod 201 - 100 = t := ⟨_, rfl⟩
      have ht1 : -100 ≤ t ∧ t ≤ 100 := by omega
      refine (show SemC _ _ _ _ from ?_)
      rw [ht]
      refine drawn_ok (g.ok _ _ _) fol [0,0,0,4,12,30,63,127,255,255,0,1535,4095] [(11, 46)] 13 (by kernel_rfl) ?_
      refine Chk.mk (show InK .i64 (t + 2) from ⟨by omega, by omega⟩) ?_
      refine Chk.mk ⟨fun i hi => rfl, rfl, trivial⟩ ?_
      obtain ⟨t2, ht2⟩ : ∃ t2, min 100 (t + 2) = t2 := ⟨_, rfl⟩
      have ht3 : t ≤ t2 ∧ t2 ≤ 100 := by omega
      have hsho : hullE D (spanB t t2 (-100) 100 200) (showL D.mark t t2) = (hullV D (showL D.mark t t2), 0) := by
        rw [hullE_tell dok, if_pos (by simp only [spanB, Bool.and_eq_true, decide_eq_true_eq]; omega), if_neg d0]
      have hsi := dhull (showL D.mark t t2) (showV D.mark (ln, co) t) (by simp [showL])
      rw [hD, ht2, hsho]
      refine Chk.mk (show InK .i64 y from ⟨by omega, by omega⟩) (Chk.mk (show (30001 : Int) ≠ 0 by decide) ?_)
      refine Chk.mk ⟨fun i hi => rfl, rfl, trivial⟩ ?_
      obtain ⟨off, hoff⟩ : ∃ off, y.tmod 30001 = off := ⟨_, rfl⟩
      have hof1 : 0 ≤ off ∧ off ≤ 30000 := by omega
      rw [hD, hoff, roomE_tell dok, if_pos (by simp only [inB, Bool.and_eq_true, decide_eq_true_eq]; omega), if_neg d0]
      have hro := room_b D off
      have hrin := fun k => room_in dok hof1.1 dmem (t := k)
      obtain ⟨ro, hroe⟩ : ∃ ro, roomV D off = ro := ⟨_, rfl⟩
      rw [hroe] at hro hrin ⊢
      refine drawn_ok (g.ok _ _ _) fol [0,1,3,7,15,7,7,7,255,7,1023,2047,4095,8191,16383,32767,65535,131071,262143,524287,1048575,2097151,4194303,8388607,16777215] [] 25 (by kernel_rfl) ?_
      have hsm : ∀ k : Int, -1000 ≤ k ∧ k ≤ 1000 → smB 1000000 ln ∧ smB 1000 mk ∧ smB 1000 co ∧ smB 1000 k := fun k hk => ⟨⟨by omega, by omega⟩, ⟨by omega, by omega⟩, ⟨by omega, by omega⟩, hk⟩
      refine Chk.mk (under_of (hsm t ⟨by omega, by omega⟩)) ?_
      rw [dmk] at hsi
      refine Br.mk (fun h => absurd h ?_) (fun _ => ?_)
      · simp only [inB]
        rw [dmk]
        simp
        exact ⟨⟨hsi, hro.1⟩, hro.2⟩
      refine Chk.mk (show InK .i64 (0 - ro) from ⟨by omega, by omega⟩) ?_
      refine loop_okR (g.ok _ _ _) 2 (fun z : {k : Int // 0 - ro ≤ k ∧ k ≤ ro + 1} => ⟨[(4, ⟨[], .sp 2 0⟩), (10, ⟨[], .si .i64 ln⟩), (11, ⟨[], .si .i64 co⟩), (28, ⟨[], .si .i64 off⟩), (29, ⟨[], .si .i64 ro⟩), (31, ⟨[], .si .i64 z.1⟩)], [],
        [(2, .cells 36 (bC mk l1 l2 c1 c2 0)), (0, .ro 4 i fun i => rdC (rd i))], 3, []⟩)
        (fun z => (ro + 1 - z.1).toNat) (fun j hj => hG j (by omega)) ⟨0 - ro, by omega, by omega⟩ (fun j => j) ?_ ?_
      · refine ⟨?_, ?_, rfl, rfl, rfl, rfl, trivial⟩
        · repeat' (first | exact trivial | exact rfl | refine And.intro ?_ ?_)
        · repeat' (first | exact trivial | exact rfl | (intro i hi; exact ⟨rfl, rfl⟩) | refine And.intro ?_ ?_)
      rintro ⟨k, hk1, hk2⟩
      refine Br.mk (fun h => ?_) (fun h => ?_)
      · have h : k ≤ ro := of_decide_eq_true h
        have hri := hrin k ⟨by omega, by omega⟩
        rw [dmk] at hri
        simp only at hri
        refine Chk.mk (hsm k ⟨by omega, by omega⟩) ?_
        refine Chk.mk (show InK .i64 (showV mk (ln, co) k - ln) from ⟨by omega, by omega⟩) ?_
        refine Chk.mk (show InK .i64 (0 - off) from ⟨by omega, by omega⟩) ?_
        refine Br.mk (fun h => absurd h ?_) (fun _ => ?_)
        · simp only [Bool.or_eq_true, decide_eq_true_eq]
          omega
        refine Chk.mk (show InK .i64 (k + 1) from ⟨by omega, by omega⟩) ⟨⟨k + 1, by omega, by omega⟩, (fun j => j), ?_, by show (ro + 1 - (k + 1)).toNat < (ro + 1 - k).toNat; omega⟩
        refine ⟨?_, ?_, rfl, rfl, rfl, rfl, trivial⟩
        · repeat' (first | exact trivial | exact rfl | refine And.intro ?_ ?_)
        · repeat' (first | exact trivial | exact rfl | (intro i hi; exact ⟨rfl, rfl⟩) | refine And.intro ?_ ?_)
      refine ⟨.inl rfl, end_noid rfl rfl rfl ?_⟩
      exact ⟨trivial, trivial, trivial⟩
    · cases h
  · cases h
end Go.X.W
end
