/- A chain by numbers walked, and the laws of chains. -/
import Derived.Test.YtknjpbmkpjcgjaaOR

section
set_option linter.unusedVariables false
set_option linter.unusedSimpArgs false
set_option linter.unusedSectionVars false
/- Pass: a chain by numbers, as the law walks it, in plain Lean. -/
set_option linter.unusedVariables false
set_option linter.unusedSimpArgs false
set_option maxRecDepth 10000
set_option maxHeartbeats 4000000
namespace Go.X.Ps
open Go Go.Proofs Go.X

def natsI (L : List Nat) : List Int := L.map fun k : Nat => (k : Int)
theorem natsI_len (L : List Nat) : (natsI L).length = L.length := by simp [natsI]
theorem natsI_snoc (L : List Nat) (k : Nat) : natsI (L ++ [k]) = natsI L ++ [(k : Int)] := by simp [natsI]
/-- Which certificates can come next, of the first ones. -/
def nxtV (ag : Int) (r : Nat → Pp) (u : Nat) (q y : Int) : Nat → List Nat
  | 0 => []
  | j + 1 => if (stepB ag q y (r j) && !u.testBit j) = true then nxtV ag r u q y j ++ [j] else nxtV ag r u q y j
theorem nxtV_mem {ag : Int} {r : Nat → Pp} {u : Nat} {q y : Int} {k : Nat} : ∀ {j}, k ∈ nxtV ag r u q y j ↔ k < j ∧ stepB ag q y (r k) = true ∧ u.testBit k = false
  | 0 => by simp [nxtV]
  | j + 1 => by
    unfold nxtV
    split
    · rename_i h
      rw [Bool.and_eq_true, Bool.not_eq_true'] at h
      rw [List.mem_append, nxtV_mem, List.mem_singleton]
      constructor
      · rintro (⟨h1, h2⟩ | rfl)
        · exact ⟨by omega, h2⟩
        · exact ⟨by omega, h⟩
      · rintro ⟨h1, h2⟩
        rcases Nat.lt_succ_iff_lt_or_eq.1 h1 with h3 | rfl
        · exact .inl ⟨h3, h2⟩
        · exact .inr rfl
    · rename_i h
      rw [nxtV_mem]
      constructor
      · rintro ⟨h1, h2⟩; exact ⟨by omega, h2⟩
      · rintro ⟨h1, h2⟩
        refine ⟨?_, h2⟩
        rcases Nat.lt_succ_iff_lt_or_eq.1 h1 with h3 | rfl
        · exact h3
        · rw [Bool.and_eq_true, Bool.not_eq_true'] at h; exact (h h2).elim
theorem nxtV_len {ag : Int} {r : Nat → Pp} {u : Nat} {q y : Int} : ∀ j, (nxtV ag r u q y j).length ≤ j
  | 0 => Nat.le_refl _
  | j + 1 => by
    have := nxtV_len (ag := ag) (r := r) (u := u) (q := q) (y := y) j
    unfold nxtV
    split
    · rw [List.length_append, List.length_singleton]; omega
    · omega
def pickV (mb : Nat) (o : Nat → Int) (i : Nat) (L : List Nat) : Nat := if 0 < mb then L.getD ((o (i % mb)).toNat % L.length) 0 else L.getD 0 0
theorem pickV_mem {mb : Nat} {o : Nat → Int} {i : Nat} {L : List Nat} (h : 0 < L.length) : pickV mb o i L ∈ L := by
  have key : ∀ j, j < L.length → L.getD j 0 ∈ L := fun j hj => by
    rw [List.getD, List.getElem?_eq_getElem hj]; exact List.getElem_mem hj
  unfold pickV
  split
  · exact key _ (Nat.mod_lt _ h)
  · exact key _ h
def walkedV (ag : Int) (n : Nat) (r : Nat → Pp) (mb : Nat) (o : Nat → Int) : Nat → Nat → Int → Int → List Nat → List Nat × Bool
  | 0, _, _, _, L => (L, false)
  | f + 1, u, q, y, L => if q < 0 then (L, true) else if (nxtV ag r u q y n).length = 0 then (L, false)
      else walkedV ag n r mb o f (u ||| 2 ^ pickV mb o L.length (nxtV ag r u q y n)) (r (pickV mb o L.length (nxtV ag r u q y n))).by_ (r (pickV mb o L.length (nxtV ag r u q y n))).yr (L ++ [pickV mb o L.length (nxtV ag r u q y n)])
/-- What holds of the list so far. -/
def WkI (n f u : Nat) (L : List Nat) : Prop := L.length + f = n + 1 ∧ L.Nodup ∧ (∀ k, k ∈ L ↔ u.testBit k = true) ∧ u < 2 ^ n
theorem wkI_lt {n f u : Nat} {L : List Nat} (h : WkI n f u L) {k : Nat} (hk : k ∈ L) : k < n := by
  obtain ⟨_, _, h3, h4⟩ := h
  by_cases h : k < n
  · exact h
  · have := Nat.testBit_lt_two_pow (Nat.lt_of_lt_of_le h4 (Nat.pow_le_pow_right (by decide) (show n ≤ k by omega)))
    rw [(h3 k).1 hk] at this; cases this
theorem wkI_len {n f u : Nat} {L : List Nat} (h : WkI n f u L) : L.length ≤ n := by
  have h1 := nodup_le (n := n) (l := natsI L) (by
    unfold natsI
    exact List.Pairwise.map _ (fun a b hab h => hab (Int.ofNat_inj.1 h)) h.2.1) (by
    intro v hv
    obtain ⟨k, hk, rfl⟩ := List.mem_map.1 hv
    exact ⟨k, wkI_lt h hk, rfl⟩)
  rwa [natsI_len] at h1
theorem wkI_pos {n f u : Nat} {L : List Nat} (h : WkI n f u L) : ∃ f', f = f' + 1 := by
  have h1 := wkI_len h
  have h2 := h.1
  exact ⟨f - 1, by omega⟩
theorem wkI_step {n f u : Nat} {L : List Nat} (h : WkI n (f + 1) u L) {k : Nat} (hk : k < n) (hb : u.testBit k = false) : WkI n f (u ||| 2 ^ k) (L ++ [k]) := by
  obtain ⟨h1, h2, h3, h4⟩ := h
  refine ⟨by rw [List.length_append, List.length_singleton]; omega, ?_, fun j => ?_, Nat.or_lt_two_pow h4 (Nat.pow_lt_pow_right (by decide) hk)⟩
  · refine List.nodup_append.2 ⟨h2, by simp, fun a ha b hb2 => ?_⟩
    rw [List.mem_singleton.1 hb2]
    rintro rfl
    rw [(h3 a).1 ha] at hb; cases hb
  · rw [List.mem_append, List.mem_singleton, h3, Nat.testBit_or, Bool.or_eq_true, Nat.testBit_two_pow, decide_eq_true_eq, eq_comm (a := k)]
theorem wkI_0 (n : Nat) : WkI n (n + 1) 0 [] := ⟨by simp, List.nodup_nil, fun k => by simp, Nat.two_pow_pos n⟩
end Go.X.Ps
end

section
set_option linter.unusedVariables false
set_option linter.unusedSimpArgs false
set_option linter.unusedSectionVars false
/- Pass: a chain by numbers, as the law walks it. -/
set_option linter.unusedVariables false
set_option linter.unusedSimpArgs false
set_option maxRecDepth 10000
set_option maxHeartbeats 4000000
namespace Go.X.Ps
open Go Go.Proofs Go.X

theorem nextCond {ag q y : Int} {x : Pp} {u j : Nat} : (decide (x.of = q) && decide (x.yr ≤ y) && decide (y - x.yr ≤ ag) && decide (((((u : Int).fdiv (2 ^ (j : Int).toNat)).toNat &&& (1 : Int).toNat : Nat) : Int) = 0)) = (stepB ag q y x && !u.testBit j) := by
  have h1 := hasB_eq (S := (u : Int)) (Int.natCast_nonneg _) j
  have h2 : hasB (u : Int) j = u.testBit j := by unfold hasB; rw [Int.toNat_natCast]
  rw [h2] at h1
  have h3 : ((u : Int).fdiv (2 ^ (j : Int).toNat)).toNat &&& (1 : Int).toNat ≤ 1 := Nat.and_le_right
  have h4 : decide (((((u : Int).fdiv (2 ^ (j : Int).toNat)).toNat &&& (1 : Int).toNat : Nat) : Int) = 0) = !u.testBit j := by
    rw [← h1, Bool.eq_iff_iff]
    simp only [decide_eq_true_eq, Bool.not_eq_true', decide_eq_false_iff_not]
    omega
  rw [h4]
  congr 1
  unfold stepB
  rw [Bool.eq_iff_iff]
  simp only [Bool.and_eq_true, decide_eq_true_eq, Bool.not_eq_true', Bool.or_eq_false_iff, Bool.not_eq_false', decide_eq_false_iff_not]
  omega
theorem shr_in31 {u n j : Nat} (h : u < 2 ^ n) (hn : n ≤ 40) : 0 ≤ (u : Int).fdiv (2 ^ (j : Int).toNat) ∧ (0 : Int) ≤ 1 ∧ InK .i64 ((u : Int).fdiv (2 ^ (j : Int).toNat)) ∧ InK .i64 1 := by
  have hu40 : 2 ^ n ≤ 2 ^ 40 := Nat.pow_le_pow_right (by decide) hn
  have e : (u : Int).fdiv (2 ^ (j : Int).toNat) = (u : Int) / ((2 ^ (j : Int).toNat : Nat) : Int) := by
    rw [show (2 : Int) ^ (j : Int).toNat = ((2 ^ (j : Int).toNat : Nat) : Int) by push_cast; rfl, Int.fdiv_eq_ediv_of_nonneg _ (Int.natCast_nonneg _)]
  rw [e]
  have h1 : 0 ≤ (u : Int) / ((2 ^ (j : Int).toNat : Nat) : Int) := Int.ediv_nonneg (by omega) (Int.natCast_nonneg _)
  have h2 : (u : Int) / ((2 ^ (j : Int).toNat : Nat) : Int) ≤ u := Int.ediv_le_self _ (by omega)
  exact ⟨h1, by decide, ⟨by omega, by omega⟩, by decide, by decide⟩
theorem getI_snoc' {acc : List Int} {k : Int} {n j : Nat} {get2 : Nat → List SV} (hn : acc.length = n) (hj : j < n + 1) (h2 : get2 0 = [SV.si .i64 k]) : getI (acc ++ [k]) j = if j < n then getI acc j else get2 (j - n) := by
  subst hn
  unfold getI
  split
  · rename_i h; rw [List.getD, List.getElem?_append_left h]; rfl
  · rename_i h
    obtain rfl : j = acc.length := by omega
    rw [Nat.sub_self, h2]
    simp [List.getD, intC]
theorem getI_snoc2 {acc : List Int} {k : Int} {n j : Nat} (hn : acc.length = n) (hj : j < n + 1) : getI (acc ++ [k]) j = if j < n then getI acc j else [SV.si .i64 k] := by
  rw [getI_snoc' (k := k) (get2 := fun _ => [SV.si .i64 k]) hn hj rfl]
theorem natsI_getD (L : List Nat) {j : Nat} : (natsI L).getD j 0 = ((L.getD j 0 : Nat) : Int) := by
  unfold natsI
  rw [List.getD, List.getD, List.getElem?_map]
  cases L[j]? <;> rfl
def u8At (get : Nat → List SV) (i : Nat) : Int := match get i with
  | [.si .u8 x] => x
  | _ => 0
def U8s (n : Nat) (get : Nat → List SV) : Prop := ∀ i, i < n → get i = [.si .u8 (u8At get i)] ∧ 0 ≤ u8At get i ∧ u8At get i < 256
def c31 : Ct := fun fr args H => match args with
  | [.agg l, .si .i64 q, .si .i64 y, .sl li] => (match sliceOf 1 H li with
    | some (m, g) => passK H l fun i1 it ag n get => some ⟨some (Pps n get ∧ U8s m g ∧ m ≤ maxLen ∧ PpOk ag n (ppAt get) ∧ 0 ≤ y ∧ y ≤ 20), none, .tup [.sl fr, .sb (walkedV ag n (ppAt get) m (u8At g) (n + 1) 0 q y []).2],
        [(fr, .vec 3 1 (walkedV ag n (ppAt get) m (u8At g) (n + 1) 0 q y []).1.length (getI (natsI (walkedV ag n (ppAt get) m (u8At g) (n + 1) 0 q y []).1)))]⟩
    | none => none)
  | _ => none
theorem c31_mono : CtMono c31 := by
  intro fr args H H' out hH h
  unfold c31 at h ⊢
  split at h
  · split at h
    · rename_i e
      simp only [sliceOf_mono hH e]
      exact passK_mono hH h
    · cases h
  · cases h
theorem k31 {l : List (Nat × Ct)} (g0 : Good P T l) : COk P 31 c31 := by
  have g := good0
  refine cok (C := tabC _) g.ok Try.func31 (c := code Try.f31) rfl fun fr args H out h hp => ?_
  unfold c31 at h
  split at h
  case h_2 => cases h
  rename_i l q y li
  split at h
  case h_2 => cases h
  rename_i m gg e2
  obtain ⟨i1, it, ag, n, get, rfl, e1, h⟩ := passK_some h
  cases h
  obtain ⟨hs, hsi, hm, hr, hy⟩ : Pps n get ∧ U8s m gg ∧ m ≤ maxLen ∧ PpOk ag n (ppAt get) ∧ 0 ≤ y ∧ y ≤ 20 := hp
  have hgg : ∀ i, i < m → gg i = [.si .u8 (u8At gg i)] := fun i hi => (hsi i hi).1
  have hoo : ∀ i, i < m → 0 ≤ u8At gg i ∧ u8At gg i < 256 := fun i hi => (hsi i hi).2
  have hh : Hand H [(i1, .ro 5 n fun i => ppC (ppAt get i)), (li, .ro 1 m fun i => [.si .u8 (u8At gg i)])] := hand_mk ⟨sliceOf_piece e1 fun i hi => (hs i hi).symm, sliceOf_piece e2 fun i hi => (hgg i hi).symm, trivial⟩
    (by repeat' (first | exact trivial | (intro i hi; exact ⟨trivial, trivial⟩) | (intro i hi; exact ⟨trivial, trivial, trivial, trivial, trivial, trivial⟩) | refine And.intro ?_ ?_)) rfl
  refine ⟨[(i1, .ro 5 n fun i => ppC (ppAt get i)), (li, .ro 1 m fun i => [.si .u8 (u8At gg i)])], [.agg (paA 0 it ag), .si .i64 q, .si .i64 y, .sl 1], [(0, .ro 5 n fun i => ppC (ppAt get i)), (1, .ro 1 m fun i => [.si .u8 (u8At gg i)])], 2, [3], rfl, rfl, Nat.le_of_ble_eq_true rfl, hh, rfl, rfl, fun G hG => ?_⟩
  generalize u8At gg = o at hoo ⊢
  generalize ppAt get = L at hr ⊢
  generalize hV : walkedV ag n L m o (n + 1) 0 q y [] = V
  have hn := hr.1
  refine nil_slot 8 3 1 (getI []) rfl ?_
  refine loop_okR (g.ok _ _ _) 2 (fun z : {p : Nat × Nat × Int × Int × List Nat // WkI n p.1 p.2.1 p.2.2.2.2 ∧ (0 ≤ p.2.2.2.1 ∧ p.2.2.2.1 ≤ 20) ∧ walkedV ag n L m o p.1 p.2.1 p.2.2.1 p.2.2.2.1 p.2.2.2.2 = V} => ⟨[(1, ⟨[], .si .i64 z.1.2.2.1⟩), (2, ⟨[], .si .i64 z.1.2.2.2.1⟩), (3, ⟨[], .sl 1⟩), (4, ⟨[], .sp 2 0⟩), (8, ⟨[], .sl 3⟩), (10, ⟨[], .si .i64 (z.1.2.1 : Int)⟩), (11, ⟨[], .si .i64 (z.1.2.2.2.2.length : Int)⟩)], [], H31 it ag n L m o (natsI z.1.2.2.2.2), 4, []⟩)
    (fun z => z.1.1) hG ⟨(n + 1, 0, q, y, []), wkI_0 n, hy, hV⟩ (fun j => j) ?_ ?_
  · refine ⟨?_, ?_, rfl, rfl, rfl, rfl, trivial⟩ <;> repeat' (first | exact trivial | exact rfl | exact List.Perm.refl _ | (intro i hi; exact absurd hi (Nat.not_lt_zero _)) | (intro i hi; exact ⟨rfl, rfl⟩) | refine And.intro ?_ ?_)
  rintro ⟨⟨f, u, q', y', acc⟩, hi, hy', hinv⟩
  have hi : WkI n f u acc := hi
  have hy' : 0 ≤ y' ∧ y' ≤ 20 := hy'
  have hinv : walkedV ag n L m o f u q' y' acc = V := hinv
  obtain ⟨f, rfl⟩ := wkI_pos hi
  have hal := wkI_len hi
  have hu40 : u < 2 ^ n := hi.2.2.2
  have hu41 : 2 ^ n ≤ 2 ^ 40 := Nat.pow_le_pow_right (by decide) hn
  rw [walkedV] at hinv
  refine Br.mk (fun h => ?_) (fun h => ?_)
  · have h : 0 ≤ q' := of_decide_eq_true h
    rw [if_neg (by omega)] at hinv
    refine nil_slot 12 3 1 (getI (natsI (nxtV ag L u q' y' 0))) rfl ?_
    refine loop_okR (g.ok _ _ _) 2 (fun z : {j : Nat // j ≤ n} => ⟨[(1, ⟨[], .si .i64 q'⟩), (2, ⟨[], .si .i64 y'⟩), (3, ⟨[], .sl 1⟩), (4, ⟨[], .sp 2 0⟩), (8, ⟨[], .sl 3⟩), (10, ⟨[], .si .i64 (u : Int)⟩), (11, ⟨[], .si .i64 (acc.length : Int)⟩), (12, ⟨[], .sl 4⟩), (21, ⟨[], .sl 0⟩), (22, ⟨[], .si .i64 (n : Int)⟩), (23, ⟨[], .si .i64 (z.1 : Int)⟩)], [], (4, .vec 3 1 (nxtV ag L u q' y' z.1).length (getI (natsI (nxtV ag L u q' y' z.1)))) :: H31 it ag n L m o (natsI acc), 5, []⟩)
      (fun z => n - z.1) hG ⟨0, Nat.zero_le _⟩ (fun j => j) ?_ ?_
    · refine ⟨?_, ?_, rfl, rfl, rfl, rfl, trivial⟩ <;> repeat' (first | exact trivial | exact rfl | exact List.Perm.refl _ | (intro i hi; exact absurd hi (Nat.not_lt_zero _)) | (intro i hi; exact ⟨rfl, rfl⟩) | refine And.intro ?_ ?_)
    rintro ⟨j, hj⟩
    have hj : j ≤ n := hj
    refine Br.mk (fun h2 => ?_) (fun h2 => ?_)
    · have h2 : (j : Int) < (n : Int) := of_decide_eq_true h2
      have hx := hr.2.2 j (by omega)
      have hag := hr.2.1
      have hin1 : InK .i64 (y' - (L j).yr) := ⟨by omega, by omega⟩
      have hlen := nxtV_len (ag := ag) (r := L) (u := u) (q := q') (y := y') j
      refine Chk.mk ⟨(show (0 : Int) ≤ (j : Int) by omega), h2⟩ ?_
      refine Chk.mk (under_of hin1) ?_
      refine Chk.mk (under_of ⟨(show (0 : Int) ≤ (j : Int) by omega), (show (j : Int).toNat ≤ 64 by omega)⟩) (Chk.mk (under_of (shr_in31 hu40 hn)) ?_)
      refine Br.mk (fun h3 => ?_) (fun h3 => ?_)
      · have h3 : (decide ((L j).of = q') && decide ((L j).yr ≤ y') && decide (y' - (L j).yr ≤ ag) && decide (((((u : Int).fdiv (2 ^ (j : Int).toNat)).toNat &&& (1 : Int).toNat : Nat) : Int) = 0)) = true := h3
        rw [nextCond] at h3
        refine fb_append (Te := 0) 4 6 (nxtV ag L u q' y' j).length 1 (getI (natsI (nxtV ag L u q' y' j))) _ (getI (natsI (nxtV ag L u q' y' j) ++ [(j : Int)])) (g.ok _ _ _) cont_std rfl rfl rfl rfl rfl rfl rfl rfl rfl rfl rfl rfl (by decide) (by decide) rfl rfl rfl rfl (by omega) ?_ ?_
        · intro i hi
          rw [getI_snoc2 (natsI_len _) hi]
          split
          · rfl
          · have e : i - (nxtV ag L u q' y' j).length = 0 := by omega
            rw [e]; rfl
        refine Chk.mk (show InK .i64 ((j : Int) + 1) from ⟨by omega, by omega⟩) ⟨⟨j + 1, by omega⟩, (fun j => match j with | 4 => 7 | j => j), ?_, by show n - (j + 1) < n - j; omega⟩
        have e : nxtV ag L u q' y' (j + 1) = nxtV ag L u q' y' j ++ [j] := by rw [nxtV, if_pos h3]
        show WeakR _ _ _ _
        simp only [e, natsI_snoc]
        have hls : (nxtV ag L u q' y' j).length + 1 = (nxtV ag L u q' y' j ++ [j]).length := by simp
        refine ⟨?_, ?_, rfl, rfl, rfl, rfl, trivial⟩ <;> repeat' (first | exact trivial | exact rfl | exact hls | exact List.Perm.refl _ | (intro i hi; exact ⟨rfl, rfl⟩) | refine And.intro ?_ ?_)
      · have h3 : (decide ((L j).of = q') && decide ((L j).yr ≤ y') && decide (y' - (L j).yr ≤ ag) && decide (((((u : Int).fdiv (2 ^ (j : Int).toNat)).toNat &&& (1 : Int).toNat : Nat) : Int) = 0)) = false := h3
        rw [nextCond] at h3
        refine Chk.mk (show InK .i64 ((j : Int) + 1) from ⟨by omega, by omega⟩) ⟨⟨j + 1, by omega⟩, (fun j => j), ?_, by show n - (j + 1) < n - j; omega⟩
        have e : nxtV ag L u q' y' (j + 1) = nxtV ag L u q' y' j := by rw [nxtV, if_neg (by rw [h3]; decide)]
        show WeakR _ _ _ _
        simp only [e]
        refine ⟨?_, ?_, rfl, rfl, rfl, rfl, trivial⟩ <;> repeat' (first | exact trivial | exact rfl | exact List.Perm.refl _ | (intro i hi; exact ⟨rfl, rfl⟩) | refine And.intro ?_ ?_)
    · have h2 : ¬ (j : Int) < (n : Int) := of_decide_eq_false h2
      obtain rfl : n = j := by omega
      have hm : ∀ i, 0 < (nxtV ag L u q' y' n).length → pickV m o i (nxtV ag L u q' y' n) ∈ nxtV ag L u q' y' n := fun i h => pickV_mem h
      have hlj := nxtV_len (ag := ag) (r := L) (u := u) (q := q') (y := y') n
      refine Br.mk (fun h3 => ?_) (fun h3 => ?_)
      · have h3 : (((nxtV ag L u q' y' n).length : Nat) : Int) = 0 := of_decide_eq_true h3
        rw [if_pos (by omega)] at hinv
        subst hinv
        refine ⟨.inl rfl, ⟨?_, rfl, ?_, ?_, rfl, rfl⟩⟩ <;> repeat' (first | exact trivial | exact rfl | exact (natsI_len acc) | (intro i hi; exact ⟨rfl, rfl⟩) | refine And.intro ?_ ?_)
      · have h3 : ¬ (((nxtV ag L u q' y' n).length : Nat) : Int) = 0 := of_decide_eq_false h3
        rw [if_neg (by omega)] at hinv
        have hm := hm acc.length (by omega)
        refine Chk.mk (show (0 : Int) ≤ 0 ∧ (0 : Int) < (((nxtV ag L u q' y' n).length : Nat) : Int) from ⟨by omega, by omega⟩) ?_
        refine Br.mk (fun h4 => ?_) (fun h4 => ?_)
        · have h4 : (0 : Int) < (m : Int) := of_decide_eq_true h4
          have hmm : ((acc.length : Int)).tmod (m : Int) = ((acc.length % m : Nat) : Int) := rfl
          have hlt : acc.length % m < m := Nat.mod_lt _ (by omega)
          have ho := hoo (acc.length % m) hlt
          have hmt : (((acc.length : Int)).tmod (m : Int)).toNat = acc.length % m := by rw [hmm, Int.toNat_natCast]
          have hl0 : 0 < (nxtV ag L u q' y' n).length := by omega
          have hot : (o (acc.length % m)).tmod (((nxtV ag L u q' y' n).length : Nat) : Int) = (((o (acc.length % m)).toNat % (nxtV ag L u q' y' n).length : Nat) : Int) := by
            obtain ⟨x, hx⟩ : ∃ x : Nat, o (acc.length % m) = (x : Int) := ⟨(o (acc.length % m)).toNat, by omega⟩
            rw [hx, Int.toNat_natCast]; rfl
          have hlt2 := Nat.mod_lt (o (acc.length % m)).toNat hl0
          refine Chk.mk (show (m : Int) ≠ 0 by omega) (Chk.mk (show (0 : Int) ≤ ((acc.length : Int)).tmod (m : Int) ∧ ((acc.length : Int)).tmod (m : Int) < (m : Int) from ⟨by rw [hmm]; omega, by rw [hmm]; omega⟩) ?_)
          refine Chk.mk (show InK .i64 (o (((acc.length : Int)).tmod (m : Int)).toNat) by rw [hmt]; exact ⟨by omega, by omega⟩) (Chk.mk (show (((nxtV ag L u q' y' n).length : Nat) : Int) ≠ 0 by omega) ?_)
          refine Chk.mk (show (0 : Int) ≤ (o (((acc.length : Int)).tmod (m : Int)).toNat).tmod (((nxtV ag L u q' y' n).length : Nat) : Int) ∧ (o (((acc.length : Int)).tmod (m : Int)).toNat).tmod (((nxtV ag L u q' y' n).length : Nat) : Int) < (((nxtV ag L u q' y' n).length : Nat) : Int) by rw [hmt, hot]; omega) ?_
          have hp : pickV m o acc.length (nxtV ag L u q' y' n) = (nxtV ag L u q' y' n).getD ((o (acc.length % m)).toNat % (nxtV ag L u q' y' n).length) 0 := by unfold pickV; rw [if_pos (by omega)]
          have hg0 : (natsI (nxtV ag L u q' y' n)).getD ((o (((acc.length : Int)).tmod (m : Int)).toNat).tmod (((nxtV ag L u q' y' n).length : Nat) : Int)).toNat 0 = ((pickV m o acc.length (nxtV ag L u q' y' n) : Nat) : Int) := by
            rw [hmt, hot, Int.toNat_natCast, hp]; exact natsI_getD _
          generalize pickV m o acc.length (nxtV ag L u q' y' n) = k at hm hinv hg0
          obtain ⟨k1, k2, k3⟩ := nxtV_mem.1 hm
          have hpk : 2 ^ k ≤ 2 ^ 40 := Nat.pow_le_pow_right (by decide) (by omega)
          obtain ⟨pk, hpk2⟩ : ∃ pk : Nat, pk = 2 ^ k := ⟨_, rfl⟩
          have hp2 : (1 : Int) * 2 ^ ((natsI (nxtV ag L u q' y' n)).getD ((o (((acc.length : Int)).tmod (m : Int)).toNat).tmod (((nxtV ag L u q' y' n).length : Nat) : Int)).toNat 0).toNat = (pk : Int) := by rw [hpk2, hg0, Int.toNat_natCast]; push_cast; omega
          rw [← hpk2] at hpk
          refine Chk.mk (show (0 : Int) ≤ (natsI (nxtV ag L u q' y' n)).getD ((o (((acc.length : Int)).tmod (m : Int)).toNat).tmod (((nxtV ag L u q' y' n).length : Nat) : Int)).toNat 0 ∧ ((natsI (nxtV ag L u q' y' n)).getD ((o (((acc.length : Int)).tmod (m : Int)).toNat).tmod (((nxtV ag L u q' y' n).length : Nat) : Int)).toNat 0).toNat ≤ 64 ∧ InK .i64 ((1 : Int) * 2 ^ ((natsI (nxtV ag L u q' y' n)).getD ((o (((acc.length : Int)).tmod (m : Int)).toNat).tmod (((nxtV ag L u q' y' n).length : Nat) : Int)).toNat 0).toNat) from ⟨by rw [hg0]; omega, by rw [hg0]; omega, by rw [hp2]; exact ⟨by omega, by omega⟩⟩) (Chk.mk (show (0 : Int) ≤ (u : Int) ∧ (0 : Int) ≤ (1 : Int) * 2 ^ ((natsI (nxtV ag L u q' y' n)).getD ((o (((acc.length : Int)).tmod (m : Int)).toNat).tmod (((nxtV ag L u q' y' n).length : Nat) : Int)).toNat 0).toNat ∧ InK .i64 (u : Int) ∧ InK .i64 ((1 : Int) * 2 ^ ((natsI (nxtV ag L u q' y' n)).getD ((o (((acc.length : Int)).tmod (m : Int)).toNat).tmod (((nxtV ag L u q' y' n).length : Nat) : Int)).toNat 0).toNat) from ⟨by omega, by rw [hp2]; omega, ⟨by omega, by omega⟩, by rw [hp2]; exact ⟨by omega, by omega⟩⟩) ?_)
          have hor : (((u : Int).toNat ||| ((1 : Int) * 2 ^ ((natsI (nxtV ag L u q' y' n)).getD ((o (((acc.length : Int)).tmod (m : Int)).toNat).tmod (((nxtV ag L u q' y' n).length : Nat) : Int)).toNat 0).toNat).toNat : Nat) : Int) = ((u ||| 2 ^ k : Nat) : Int) := by rw [hp2, Int.toNat_natCast, Int.toNat_natCast, hpk2]
          refine (show SemC _ _ _ _ from ?_)
          refine any_region fol ?_
          refine any_weaken (st' := ⟨(8, ⟨[], .sl 3⟩) :: (1, ⟨[], .si .i64 q'⟩) :: (2, ⟨[], .si .i64 y'⟩) :: bw0 ((u ||| 2 ^ k : Nat) : Int) (acc.length : Int) (k : Int), [], H31 it ag n L m o (natsI acc), 4, []⟩) 2 (fun j => j) hG (by
            refine ⟨?_, ?_, rfl, rfl, rfl, rfl, trivial⟩
            · repeat' (first | exact trivial | exact rfl | exact hor | exact hg0 | refine And.intro ?_ ?_)
            · repeat' (first | exact trivial | exact rfl | exact List.Perm.refl _ | (intro i hi; exact ⟨rfl, rfl⟩) | refine And.intro ?_ ?_)) ?_
          refine regw31 (g.ok _ _ _) hG k1 (by rw [natsI_len]; omega) ?_
          have hst := wkI_step hi k1 k3
          have hxk := hr.2.2 k k1
          refine Chk.mk (show InK .i64 ((acc.length : Int) + 1) from ⟨by omega, by omega⟩) ⟨⟨(f, u ||| 2 ^ k, (L k).by_, (L k).yr, acc ++ [k]), hst, hxk.2.1, hinv⟩, (fun j => j), ?_, by show f < f + 1; omega⟩
          refine ⟨?_, ?_, rfl, rfl, rfl, rfl, trivial⟩
          · have hl : (acc.length : Int) + 1 = ((acc ++ [k]).length : Nat) := by simp
            repeat' (first | exact trivial | exact rfl | exact hl | refine And.intro ?_ ?_)
          · show weakRH _ _ _ (H31 it ag n L m o (natsI (acc ++ [k])))
            rw [natsI_snoc]
            repeat' (first | exact trivial | exact rfl | exact List.Perm.refl _ | (intro i hi; exact ⟨rfl, rfl⟩) | refine And.intro ?_ ?_)
        · have h4 : ¬ (0 : Int) < (m : Int) := of_decide_eq_false h4
          have hp : pickV m o acc.length (nxtV ag L u q' y' n) = (nxtV ag L u q' y' n).getD 0 0 := by unfold pickV; rw [if_neg (by omega)]
          rw [hp] at hm hinv
          have hg0 : (natsI (nxtV ag L u q' y' n)).getD 0 0 = (((nxtV ag L u q' y' n).getD 0 0 : Nat) : Int) := natsI_getD _
          have hg0 : (natsI (nxtV ag L u q' y' n)).getD (Int.toNat 0) 0 = (((nxtV ag L u q' y' n).getD 0 0 : Nat) : Int) := hg0
          generalize (nxtV ag L u q' y' n).getD 0 0 = k at hm hinv hg0
          obtain ⟨k1, k2, k3⟩ := nxtV_mem.1 hm
          have hpk : 2 ^ k ≤ 2 ^ 40 := Nat.pow_le_pow_right (by decide) (by omega)
          obtain ⟨pk, hpk2⟩ : ∃ pk : Nat, pk = 2 ^ k := ⟨_, rfl⟩
          have hp2 : (1 : Int) * 2 ^ ((natsI (nxtV ag L u q' y' n)).getD (Int.toNat 0) 0).toNat = (pk : Int) := by rw [hpk2, hg0, Int.toNat_natCast]; push_cast; omega
          rw [← hpk2] at hpk
          refine Chk.mk (show (0 : Int) ≤ (natsI (nxtV ag L u q' y' n)).getD (Int.toNat 0) 0 ∧ ((natsI (nxtV ag L u q' y' n)).getD (Int.toNat 0) 0).toNat ≤ 64 ∧ InK .i64 ((1 : Int) * 2 ^ ((natsI (nxtV ag L u q' y' n)).getD (Int.toNat 0) 0).toNat) from ⟨by rw [hg0]; omega, by rw [hg0]; omega, by rw [hp2]; exact ⟨by omega, by omega⟩⟩) (Chk.mk (show (0 : Int) ≤ (u : Int) ∧ (0 : Int) ≤ (1 : Int) * 2 ^ ((natsI (nxtV ag L u q' y' n)).getD (Int.toNat 0) 0).toNat ∧ InK .i64 (u : Int) ∧ InK .i64 ((1 : Int) * 2 ^ ((natsI (nxtV ag L u q' y' n)).getD (Int.toNat 0) 0).toNat) from ⟨by omega, by rw [hp2]; omega, ⟨by omega, by omega⟩, by rw [hp2]; exact ⟨by omega, by omega⟩⟩) ?_)
          have hor : (((u : Int).toNat ||| ((1 : Int) * 2 ^ ((natsI (nxtV ag L u q' y' n)).getD (Int.toNat 0) 0).toNat).toNat : Nat) : Int) = ((u ||| 2 ^ k : Nat) : Int) := by rw [hp2, Int.toNat_natCast, Int.toNat_natCast, hpk2]
          refine (show SemC _ _ _ _ from ?_)
          refine any_region fol ?_
          refine any_weaken (st' := ⟨(8, ⟨[], .sl 3⟩) :: (1, ⟨[], .si .i64 q'⟩) :: (2, ⟨[], .si .i64 y'⟩) :: bw0 ((u ||| 2 ^ k : Nat) : Int) (acc.length : Int) (k : Int), [], H31 it ag n L m o (natsI acc), 4, []⟩) 2 (fun j => j) hG (by
            refine ⟨?_, ?_, rfl, rfl, rfl, rfl, trivial⟩
            · repeat' (first | exact trivial | exact rfl | exact hor | exact hg0 | refine And.intro ?_ ?_)
            · repeat' (first | exact trivial | exact rfl | exact List.Perm.refl _ | (intro i hi; exact ⟨rfl, rfl⟩) | refine And.intro ?_ ?_)) ?_
          refine regw31 (g.ok _ _ _) hG k1 (by rw [natsI_len]; omega) ?_
          have hst := wkI_step hi k1 k3
          have hxk := hr.2.2 k k1
          refine Chk.mk (show InK .i64 ((acc.length : Int) + 1) from ⟨by omega, by omega⟩) ⟨⟨(f, u ||| 2 ^ k, (L k).by_, (L k).yr, acc ++ [k]), hst, hxk.2.1, hinv⟩, (fun j => j), ?_, by show f < f + 1; omega⟩
          refine ⟨?_, ?_, rfl, rfl, rfl, rfl, trivial⟩
          · have hl : (acc.length : Int) + 1 = ((acc ++ [k]).length : Nat) := by simp
            repeat' (first | exact trivial | exact rfl | exact hl | refine And.intro ?_ ?_)
          · show weakRH _ _ _ (H31 it ag n L m o (natsI (acc ++ [k])))
            rw [natsI_snoc]
            repeat' (first | exact trivial | exact rfl | exact List.Perm.refl _ | (intro i hi; exact ⟨rfl, rfl⟩) | refine And.intro ?_ ?_)
  · have h : q' < 0 := Int.not_le.1 (of_decide_eq_false h)
    rw [if_pos h] at hinv
    subst hinv
    refine ⟨.inl rfl, ⟨?_, rfl, ?_, ?_, rfl, rfl⟩⟩ <;> repeat' (first | exact trivial | exact rfl | exact (natsI_len acc) | (intro i hi; exact ⟨rfl, rfl⟩) | refine And.intro ?_ ?_)
theorem g31 {l : List (Nat × Ct)} (g : Good P T l) : Good P T ((31, c31) :: l) := g.add (k31 g) c31_mono (body_of Try.func31 (c := code Try.f31) rfl (by decide))
end Go.X.Ps
end

section
set_option linter.unusedVariables false
set_option linter.unusedSimpArgs false
set_option linter.unusedSectionVars false
/- Pass: that the chain that is told is one, and that another one has no less, in plain Lean. -/
set_option linter.unusedVariables false
set_option linter.unusedSimpArgs false
set_option maxRecDepth 10000
set_option maxHeartbeats 4000000
namespace Go.X.Ps
open Go Go.Proofs Go.X

theorem step_holds (ag q y : Int) (x : Pp) : stepB ag q y x = holdsV q y x ag := by
  unfold stepB holdsV inB
  rw [Bool.eq_iff_iff]
  simp only [Bool.not_eq_true', Bool.or_eq_false_iff, Bool.not_eq_false', Bool.and_eq_true, decide_eq_true_eq, decide_eq_false_iff_not]
  omega
theorem sum_walk {ag : Int} {n : Nat} {r : Nat → Pp} {q y : Int} {c : Ch} (h : WalkC ag n r q y c) : ∀ (u : Nat) (acc : Int), c.ps.Nodup → (∀ k : Nat, (k : Int) ∈ c.ps → u.testBit k = false) → sumV ag n r c.ps u q y acc = (acc + c.w, true) := by
  induction h with
  | nil =>
    intro u acc _ _
    show (acc, decide ((-1 : Int) < 0)) = (acc + 0, true)
    simp
  | @cons it y i c h0 h1 h2 h3 ih =>
    intro u acc hd hu
    have hd : ((i : Int) :: c.ps).Nodup := hd
    have hu : ∀ k : Nat, (k : Int) ∈ (i : Int) :: c.ps → u.testBit k = false := hu
    obtain ⟨hd1, hd2⟩ := List.nodup_cons.1 hd
    show sumV ag n r ((i : Int) :: c.ps) u it y acc = (acc + (addsV y (r i) + c.w), true)
    rw [sumV, Int.toNat_natCast, if_neg (by rw [hu i List.mem_cons_self]; simp; omega), if_pos (by rw [step_holds]; exact h2), ih _ _ hd2 fun k hk => ?_]
    · unfold addsV
      rw [show acc + ((r i).wr + (r i).dr * (y - (r i).yr)) + c.w = acc + ((r i).wr + (r i).dr * (y - (r i).yr) + c.w) by omega]
    · have hne : i ≠ k := by rintro rfl; exact hd1 hk
      rw [Nat.testBit_or, hu k (List.mem_cons_of_mem _ hk), Nat.testBit_two_pow]
      simp [hne]
theorem walked_ok {ag : Int} {n : Nat} {r : Nat → Pp} {mb : Nat} {o : Nat → Int} (hby : ∀ j, j < n → -1 ≤ (r j).by_) : ∀ (f u : Nat) (q y : Int) (L0 L : List Nat), WkI n f u L0 → -1 ≤ q → walkedV ag n r mb o f u q y L0 = (L, true) → (L.Nodup ∧ ∀ k ∈ L, k < n) ∧ ∃ c tl, L = L0 ++ tl ∧ c.ps = natsI tl ∧ WalkC ag n r q y c
  | 0, u, q, y, L0, L, hi, hq, h => by cases h
  | f + 1, u, q, y, L0, L, hi, hq, h => by
    rw [walkedV] at h
    by_cases h0 : q < 0
    · rw [if_pos h0] at h
      obtain rfl : L0 = L := congrArg Prod.fst h
      obtain rfl : q = -1 := by omega
      exact ⟨⟨hi.2.1, fun k hk => wkI_lt hi hk⟩, ch0, [], by simp, rfl, .nil⟩
    · rw [if_neg h0] at h
      by_cases h1 : (nxtV ag r u q y n).length = 0
      · rw [if_pos h1] at h; cases h
      · rw [if_neg h1] at h
        have hm := pickV_mem (mb := mb) (o := o) (i := L0.length) (L := nxtV ag r u q y n) (by omega)
        generalize pickV mb o L0.length (nxtV ag r u q y n) = k at hm h
        obtain ⟨m1, m2, m3⟩ := nxtV_mem.1 hm
        obtain ⟨hN, c, tl, e1, e2, hc⟩ := walked_ok hby f _ _ _ _ L (wkI_step hi m1 m3) (hby k m1) h
        refine ⟨hN, linkC y k (r k) c, k :: tl, by rw [e1]; simp, ?_, WalkC.cons (by omega) m1 (by rw [← step_holds]; exact m2) hc⟩
        show (k : Int) :: c.ps = (k : Int) :: natsI tl
        rw [e2]
theorem natsI_nodup {L : List Nat} (h : L.Nodup) : (natsI L).Nodup := by
  unfold natsI
  exact List.Pairwise.map _ (fun a b hab h => hab (Int.ofNat_inj.1 h)) h
/-- What a chain by numbers adds together. -/
theorem walked_sum {ag : Int} {n : Nat} {r : Nat → Pp} {mb : Nat} {o : Nat → Int} (hby : ∀ j, j < n → -1 ≤ (r j).by_) {q y : Int} {L : List Nat} (hq : -1 ≤ q) (h : walkedV ag n r mb o (n + 1) 0 q y [] = (L, true)) :
    ∃ c, WalkC ag n r q y c ∧ c.ps = natsI L ∧ sumV ag n r (natsI L) 0 q y 0 = (c.w, true) := by
  obtain ⟨hN, c, tl, e1, e2, hc⟩ := walked_ok hby _ _ _ _ _ L (wkI_0 n) hq h
  rw [List.nil_append] at e1
  subst e1
  have h2 := sum_walk hc 0 0 (by rw [e2]; exact natsI_nodup hN.1) (fun k _ => by simp)
  rw [e2, Int.zero_add] at h2
  exact ⟨c, hc, e2, h2⟩
theorem bst_sum {ag : Int} {n : Nat} {r : Nat → Pp} (hr : PpB ag n r) {q y : Int} {b : Ch} (h : bst ag n r q y = some b) : sumV ag n r b.ps 0 q y 0 = (b.w, true) := by
  have := sum_walk (bst_some h) 0 0 (bst_nodup hr h) (fun k _ => by simp)
  rwa [Int.zero_add] at this
theorem cmp_at : ∀ {a b : List Int} {j : Nat}, a.length = b.length → (∀ i, i < j → a.getD i 0 = b.getD i 0) → j < a.length → ¬ cmpV b a < 0 → a.getD j 0 ≠ b.getD j 0 → a.getD j 0 < b.getD j 0
  | [], b, j, _, _, hj, _, _ => absurd hj (Nat.not_lt_zero _)
  | x :: a, [], j, hl, _, _, _, _ => by cases hl
  | x :: a, y :: b, 0, hl, hp, hj, hc, hne => by
    have hne : x ≠ y := hne
    show x < y
    unfold cmpV cmpI at hc
    by_cases h : x < y
    · exact h
    · exfalso
      have : y < x := by omega
      rw [if_pos this] at hc
      simp at hc
  | x :: a, y :: b, j + 1, hl, hp, hj, hc, hne => by
    have h0 : x = y := hp 0 (Nat.succ_pos _)
    subst h0
    rw [cmpV_cons] at hc
    exact cmp_at (a := a) (b := b) (j := j) (by simpa using hl) (fun i hi => hp (i + 1) (by omega)) (by simpa using hj) hc hne
/-- What the law asks of another chain. -/
theorem other_no_less {c b : Ch} (h : lessV c b = false) : b.w ≤ c.w ∧ (c.w = b.w → b.ps.length ≤ c.ps.length) ∧ (c.w = b.w → c.ps.length = b.ps.length → ¬ cmpV c.ps b.ps < 0) := by
  have h1 : ¬ (lessV c b = true) := by rw [h]; decide
  rw [lessV_iff] at h1
  refine ⟨by omega, fun e => ?_, fun e1 e2 e3 => h1 (.inr ⟨e1, .inr ⟨e2, e3⟩⟩)⟩
  apply Nat.le_of_not_lt
  intro h2
  exact h1 (.inr ⟨e, .inl h2⟩)
theorem bnL_L (ag : Int) (n : Nat) (L : Nat → Pp) (q y : Int) : bnL ag (papL n fun i => ppC (L i)) q y = bst ag n L q y := bnL_papL ag n (fun i => ppC (L i)) q y
theorem valid_by {it ag : Int} {n : Nat} {L : Nat → Pp} {ps : List Pp} (hps : papL n (fun i => ppC (L i)) = ps) (hv : validV it ag ps = true) : ∀ j, j < n → -1 ≤ (L j).by_ := by
  intro j hj
  have := valid_mem hv (show j < ps.length by rw [tolen hps]; exact hj)
  rw [toget hps hj] at this
  unfold badV inB at this
  simp only [Bool.or_eq_false_iff, Bool.not_eq_false', Bool.and_eq_true, decide_eq_true_eq] at this
  omega
end Go.X.Ps
end

section
set_option linter.unusedVariables false
set_option linter.unusedSimpArgs false
set_option linter.unusedSectionVars false
/- Pass: what the law asks first of a chain, in plain Lean. -/
set_option linter.unusedVariables false
set_option linter.unusedSimpArgs false
set_option maxRecDepth 10000
set_option maxHeartbeats 4000000
namespace Go.X.Ps
open Go Go.Proofs Go.X
theorem isItem_far {it : Int} (h : 1 ≤ it ∧ it ≤ 6) : isItemV it it = false := by
  unfold isItemV inB
  have e : IntKind.i64.wrap (it - 1) = it - 1 := wrap_in (show InK .i64 (it - 1) from ⟨by omega, by omega⟩)
  rw [e]
  simp
  omega
theorem inB_far {z lo hi : Int} (h : hi < z) : inB z lo hi = false := by
  unfold inB
  simp
  omega
theorem setN_small {f : Nat → Bool} {k : Nat} (h : ∀ i, k ≤ i → f i = false) : setN f 6 < 2 ^ k := by
  apply Nat.lt_pow_two_of_testBit
  intro i hi
  rw [setN_bit, h i hi, Bool.and_false]
theorem known_shr {it ag : Int} {ps : List Pp} {y : Int} (hv : validV it ag ps = true) (hit : 1 ≤ it ∧ it ≤ 6) (hy : 0 ≤ y ∧ y ≤ 20) : (knownR it ag ps y).fdiv (2 ^ it.toNat) = 0 := by
  rw [(known_in (it := it) hv hy).2]
  have h1 : setN (fun i => decide (0 ≤ bnN ag ps y i)) 6 < 2 ^ it.toNat := setN_small fun i hi => by
    have : bnL ag ps (i : Int) y = none := bn_far hv hit (by omega)
    unfold bnN
    rw [this]
    rfl
  rw [show (2 : Int) ^ it.toNat = ((2 ^ it.toNat : Nat) : Int) by push_cast; rfl, Int.fdiv_eq_ediv_of_nonneg _ (Int.natCast_nonneg _)]
  exact Int.ediv_eq_zero_of_lt (Int.natCast_nonneg _) (by omega)
theorem chainCond {it ag : Int} {ps : List Pp} {q y : Int} {n : Nat} (hv : validV it ag ps = true) (hn : ps.length = n) (hit : 1 ≤ it ∧ it ≤ 6) (hq : 0 ≤ q ∧ q < it) (hy : 0 ≤ y ∧ y ≤ 20) :
    (!decide (boundE it ag ps q y = boundE it ag ps q y) || !decide (knownE it ag ps y = 0) || decide (knownR it ag ps y < 0) || !decide ((knownR it ag ps y).fdiv (2 ^ it.toNat) = 0) || !(decide (((((knownR it ag ps y).fdiv (2 ^ q.toNat)).toNat &&& Int.toNat 1 : Nat) : Int) = 1) == decide (boundE it ag ps q y = 0)) || !decide (boundE it ag ps it y = 2) || !decide (boundE it ag ps q 21 = boundE it ag ps it y) || !decide (togE it ag ps (1 * 2 ^ it.toNat) y = boundE it ag ps it y) || !decide (recE it ag ps (n : Int) y = boundE it ag ps it y)) = false := by
  have f1 := known_in (it := it) hv hy
  have f2 : ¬ knownR it ag ps y < 0 := by rw [f1.2]; omega
  have f3 := known_shr hv hit hy
  have f5 : boundE it ag ps it y = 2 := by unfold boundE errO; rw [hv, isItem_far hit]; rfl
  have f6 : boundE it ag ps q 21 = 2 := by unfold boundE errO; rw [hv, inB_far (show (20 : Int) < 21 by decide), Bool.and_false]; rfl
  have f7 : togE it ag ps (1 * 2 ^ it.toNat) y = 2 := by unfold togE togI errO; rw [hv, inB_far (show (1 : Int) * 2 ^ it.toNat - 1 < 1 * 2 ^ it.toNat by omega)]; rfl
  have f8 : recE it ag ps (n : Int) y = 2 := by unfold recE errO; rw [hv, hn, inB_far (show (n : Int) - 1 < n by omega)]; rfl
  have f4 : decide (((((knownR it ag ps y).fdiv (2 ^ q.toNat)).toNat &&& Int.toNat 1 : Nat) : Int) = 1) = decide (boundE it ag ps q y = 0) := by
    have e := known_bit (i := q.toNat) hv (valid_ps hv) hy (by omega)
    rw [Int.toNat_natCast, show ((q.toNat : Nat) : Int) = q by omega] at e
    rw [(bound_in hv hit hq hy).1]
    refine e.trans ?_
    cases (bnL ag ps q y).isSome <;> rfl
  rw [f4, f5, f6, f7, f8, f3, f1.1]
  simp [f2]
/-- An item without a bound has no chain by numbers. -/
theorem none_other {it ag : Int} {n : Nat} {L : Nat → Pp} {ps : List Pp} (hps : papL n (fun i => ppC (L i)) = ps) (hv : validV it ag ps = true) (hit : 1 ≤ it ∧ it ≤ 6) {q y : Int} (hq : 0 ≤ q ∧ q < it) (hy : 0 ≤ y ∧ y ≤ 20) {m : Nat} {o : Nat → Int} (h : ¬ boundE it ag ps q y = 0) :
    (decide (boundE it ag ps q y = 4) && decide (boundR it ag ps q y = 0) && decide (((chainL it ag ps q y).length : Int) = 0) && !(walkedV ag n L m o (n + 1) 0 q y []).2 && true) = true := by
  obtain ⟨e1, e2⟩ := bound_in hv hit hq hy
  have e3 := chain_in hv hit hq hy
  have hN : bnL ag ps q y = none := by
    cases hb : bnL ag ps q y with
    | none => rfl
    | some b => rw [e1, hb] at h; exact (h rfl).elim
  rw [e1, e2, e3, hN]
  have hw : (walkedV ag n L m o (n + 1) 0 q y []).2 = false := by
    cases hw : (walkedV ag n L m o (n + 1) 0 q y []).2 with
    | false => rfl
    | true =>
      exfalso
      obtain ⟨c, hc, _⟩ := walked_sum (valid_by hps hv) (by omega) (show walkedV ag n L m o (n + 1) 0 q y [] = (_, true) from Prod.ext rfl hw)
      rw [← hps, bnL_L] at hN
      have hr := (valid_ok (r := L) (n := n) (by rw [← hps] at hv; exact hv)).1
      exact bst_none (fun j hj => ⟨(hr.2.2 j hj).1.1, (hr.2.2 j hj).2.2.1⟩) hN c hc
  rw [hw]
  rfl
end Go.X.Ps
end
