/- With ten certificates there are not too many chains; whether renewed certificates are enough, as the document says it. -/
import Derived.Test.YtknjpbmkpjcgjaaOV
import Derived.Test.YtknjpbmkpjcgjaaOX
import Derived.Test.YtknjpbmkpjcgjaaOP

section
set_option linter.unusedVariables false
set_option linter.unusedSimpArgs false
set_option linter.unusedSectionVars false
/- Pass: with ten certificates there are not too many chains either, in plain Lean. -/
set_option linter.unusedVariables false
set_option linter.unusedSimpArgs false
set_option maxRecDepth 10000
set_option maxHeartbeats 4000000
namespace Go.X.Ps
open Go Go.Proofs Go.X

def hN : Nat → Nat
  | 0 => 1
  | 1 => 1
  | t + 2 => (t + 2) + ((t + 2) * (t + 2) / 4) * hN t
theorem mul_four (a b : Nat) : a * b ≤ (a + b) * (a + b) / 4 := by
  rw [Nat.le_div_iff_mul_le (by decide)]
  rcases Nat.le_total a b with h | h
  · obtain ⟨d, rfl⟩ : ∃ d, b = a + d := ⟨b - a, by omega⟩
    simp only [Nat.mul_add, Nat.add_mul, Nat.mul_comm d a]
    omega
  · obtain ⟨d, rfl⟩ : ∃ d, a = b + d := ⟨a - b, by omega⟩
    simp only [Nat.mul_add, Nat.add_mul, Nat.mul_comm d b]
    omega
theorem filt_two {l : List Nat} {p c : Nat → Bool} : (l.filter fun i => p i && c i).length + (l.filter fun i => p i && !c i).length = (l.filter p).length := by
  induction l with
  | nil => rfl
  | cons a l ih =>
    simp only [List.filter_cons]
    cases p a <;> cases c a <;> simp <;> omega
theorem chainsD_few {ag : Int} {n : Nat} {r : Nat → Pp} (hne : ∀ j, j < n → (r j).by_ ≠ (r j).of) : ∀ (t : Nat) {beg : List Int} {q y : Int}, BegOk n beg → beg.length + t = n → (chainsD ag n r (t + 1) beg q y).length ≤ hN t
  | 0, beg, q, y, hb, ht => by
    unfold chainsD
    split
    · exact Nat.le_refl _
    · refine Nat.le_trans (flat_len (p2 := fun i : Nat => !beg.contains (i : Int)) (M := 0) (fun i h => ?_) (fun i _ _ => Nat.le_refl _)) (by omega)
      unfold canD at h
      exact (Bool.and_eq_true _ _ ▸ h).2
  | 1, beg, q, y, hb, ht => by
    have hfr := frees_len hb
    unfold chainsD
    split
    · exact Nat.le_refl _
    · refine Nat.le_trans (flat_len (p2 := fun i : Nat => !beg.contains (i : Int)) (M := 1) (fun i h => ?_) (fun i hi h => ?_)) ?_
      · unfold canD at h
        exact (Bool.and_eq_true _ _ ▸ h).2
      · exact chainsD_few hne 0 (begOk_snoc hb (List.mem_range.1 hi) (canD_free h)) (by rw [List.length_append, List.length_singleton]; omega)
      · show (frees n beg).length * 1 ≤ 1
        omega
  | t + 2, beg, q, y, hb, ht => by
    have hfr := frees_len hb
    unfold chainsD
    split
    · show 1 ≤ (t + 2) + _
      omega
    · have h2 := filt_two (l := List.range n) (p := fun i : Nat => !beg.contains (i : Int)) (c := fun i : Nat => decide ((r i).of = q))
      have h2 : ((List.range n).filter fun i : Nat => !beg.contains (i : Int) && decide ((r i).of = q)).length + ((List.range n).filter fun i : Nat => !beg.contains (i : Int) && !decide ((r i).of = q)).length = (frees n beg).length := h2
      obtain ⟨a, ha⟩ : ∃ a, ((List.range n).filter fun i : Nat => !beg.contains (i : Int) && decide ((r i).of = q)).length = a := ⟨_, rfl⟩
      obtain ⟨b, hb2⟩ : ∃ b, ((List.range n).filter fun i : Nat => !beg.contains (i : Int) && !decide ((r i).of = q)).length = b := ⟨_, rfl⟩
      rw [ha, hb2] at h2
      refine Nat.le_trans (flat_len (p2 := fun i : Nat => !beg.contains (i : Int) && decide ((r i).of = q)) (M := 1 + b * hN t) (fun i h => ?_) (fun i hi h => ?_)) ?_
      · unfold canD holdsV at h
        simp only [Bool.and_eq_true] at h ⊢
        exact ⟨h.2, h.1.1⟩
      · have hi := List.mem_range.1 hi
        have hq : (r i).of = q := by
          unfold canD holdsV at h
          simp only [Bool.and_eq_true, decide_eq_true_eq] at h
          exact h.1.1
        have hbn := begOk_snoc hb hi (canD_free h)
        unfold chainsD
        split
        · show 1 ≤ _
          omega
        · refine Nat.le_trans (flat_len (p2 := fun j : Nat => !beg.contains (j : Int) && !decide ((r j).of = q)) (M := hN t) (fun j hj => ?_) (fun j hj hc => ?_)) ?_
          · unfold canD holdsV at hj
            simp only [Bool.and_eq_true, decide_eq_true_eq, Bool.not_eq_true', decide_eq_false_iff_not] at hj ⊢
            refine ⟨?_, fun e => hne i hi ?_⟩
            · cases hcb : beg.contains (j : Int) with
              | false => rfl
              | true =>
                have : (beg ++ [(i : Int)]).contains (j : Int) = true := List.contains_iff_mem.2 (List.mem_append_left _ (List.contains_iff_mem.1 hcb))
                rw [this] at hj
                cases hj.2
            · rw [hq, ← e, hj.1.1]
          · exact chainsD_few hne t (begOk_snoc hbn (List.mem_range.1 hj) (canD_free hc)) (by simp only [List.length_append, List.length_singleton]; omega)
          · rw [hb2]
            omega
      · rw [ha]
        have hm := mul_four a b
        have hm2 : (a + b) * (a + b) / 4 ≤ (t + 2) * (t + 2) / 4 := Nat.div_le_div_right (Nat.mul_le_mul (by omega) (by omega))
        have hm3 : a * b * hN t ≤ ((t + 2) * (t + 2) / 4) * hN t := Nat.mul_le_mul_right _ (Nat.le_trans hm hm2)
        rw [Nat.mul_add, ← Nat.mul_assoc, Nat.mul_one]
        show a + a * b * hN t ≤ (t + 2) + ((t + 2) * (t + 2) / 4) * hN t
        omega
theorem few_of10 {ag : Int} {n : Nat} {r : Nat → Pp} (hne : ∀ j, j < n → (r j).by_ ≠ (r j).of) (h : n ≤ 10) : Few ag n r := fun q y => by
  refine Nat.le_trans (chainsD_few hne n ⟨List.nodup_nil, fun v hv => by cases hv⟩ (by simp)) ?_
  have : ∀ k, k < 11 → hN k ≤ 900000 := by decide
  exact this n (by omega)
end Go.X.Ps
end

section
set_option linter.unusedVariables false
set_option linter.unusedSimpArgs false
set_option linter.unusedSectionVars false
/- Pass: enough and Renew of the document (printed by gen-en6.py). -/
set_option linter.unusedVariables false
set_option linter.unusedSimpArgs false
set_option maxRecDepth 10000
set_option maxHeartbeats 4000000
namespace Go.X.Ps
open Go Go.Proofs Go.X
theorem rnw_mem2 {n : Nat} {L : Nat → Pp} {S y : Int} {x : Pp} (h : x ∈ rnw n L S y) : ∃ j, j < n ∧ x.of = (L j).of ∧ x.by_ = (L j).by_ := by
  unfold rnw rnB at h
  rcases List.mem_append.1 h with h | h
  · obtain ⟨j, hj, rfl⟩ := List.mem_map.1 h
    exact ⟨j, List.mem_range.1 hj, rfl, rfl⟩
  · obtain ⟨j, hj, _, rfl⟩ := rnL_mem h
    exact ⟨j, hj, rfl, rfl⟩
theorem eno_hold {it ag : Int} {n : Nat} {L : Nat → Pp} {S y lim : Int} (hr2 : PpOk ag (rnw n L S y).length (pget (rnw n L S y))) : enoB it ag n L S y lim = (List.range it.toNat).all fun i => holdO lim (bst ag (rnw n L S y).length (pget (rnw n L S y)) (i : Int) y) := by
  unfold enoB
  rw [List.not_any_eq_all_not]
  congr 1
  funext i
  unfold badI bnN bnL
  rw [Bool.not_not]
  cases h : bst ag (rnw n L S y).length (pget (rnw n L S y)) (i : Int) y with
  | none => rfl
  | some c =>
    have hw := bst_pos hr2 h.symm
    show inB c.w 0 lim = holdO lim (some c)
    unfold inB holdO
    simp [hw]
    rfl

def c71 : Ct := fun fr args H => match args with
  | [.agg l, .si .i64 S, .si .i64 y, .si .i64 lim] => passK H l fun i1 it ag n get => some ⟨some (Pps n get ∧ validV it ag (papL n get) = true ∧ n ≤ 5 ∧ (0 ≤ S ∧ S ≤ 1000000) ∧ 0 ≤ y ∧ y ≤ 20), none, .sb (enoB it ag n (ppAt get) S y lim), []⟩
  | _ => none
theorem c71_mono : CtMono c71 := by
  intro fr args H H' out hH h
  unfold c71 at h ⊢
  split at h
  · exact passK_mono hH h
  · cases h
theorem k71 {l : List (Nat × Ct)} (g0 : Good P T l) : COk P 71 c71 := by
  have g := g37 (g58 good0)
  refine cok (C := tabC _) g.ok Try.func71 (c := code Try.f71) rfl fun fr args H out h hp => ?_
  unfold c71 at h
  split at h
  case h_2 => cases h
  rename_i l S y lim
  obtain ⟨i1, it, ag, n, get, rfl, e1, h⟩ := passK_some h
  cases h
  obtain ⟨hs, hv, hn5, hS, hy⟩ : Pps n get ∧ validV it ag (papL n get) = true ∧ n ≤ 5 ∧ (0 ≤ S ∧ S ≤ 1000000) ∧ 0 ≤ y ∧ y ≤ 20 := hp
  refine ⟨[(i1, .ro 5 n fun i => ppC (ppAt get i))], [.agg (paA 0 it ag), .si .i64 S, .si .i64 y, .si .i64 lim], [(0, .ro 5 n fun i => ppC (ppAt get i))], 1, [], rfl, rfl, Nat.le_of_ble_eq_true rfl, pp_hand e1 hs, rfl, rfl, fun G hG => ?_⟩
  have hv : validV it ag (papL n (fun i => ppC (ppAt get i))) = true := hv
  generalize ppAt get = L at hv ⊢
  obtain ⟨hr, hit, hn8⟩ := valid_ok (r := L) (n := n) hv
  have hbad := valid_all (L := L) (n := n) hv
  have hr2 := rnw_ok (S := S) hr (by omega) hy
  have hml : (rnw n L S y).length ≤ 10 := by
    have := rnB_len n L S y n
    unfold rnw
    omega
  have hpg : ∀ j, j < (rnw n L S y).length → ∃ k, k < n ∧ (pget (rnw n L S y) j).of = (L k).of ∧ (pget (rnw n L S y) j).by_ = (L k).by_ := fun j hj => rnw_mem2 (pget_mem hj)
  have hbk : ∀ k, k < n → -1 ≤ (L k).by_ ∧ (L k).by_ ≠ (L k).of := fun k hk => by
    have := hbad k hk
    unfold badV inB at this
    simp only [Bool.or_eq_false_iff, Bool.not_eq_false', Bool.and_eq_true, decide_eq_true_eq, decide_eq_false_iff_not] at this
    exact ⟨this.1.1.1.1.2.1, this.1.1.1.2⟩
  have hby2 : ∀ j, j < (rnw n L S y).length → -1 ≤ (pget (rnw n L S y) j).by_ := fun j hj => by
    obtain ⟨k, hk, e1, e2⟩ := hpg j hj
    rw [e2]; exact (hbk k hk).1
  have hfew : Few ag (rnw n L S y).length (pget (rnw n L S y)) := few_of10 (fun j hj => by
    obtain ⟨k, hk, e1, e2⟩ := hpg j hj
    rw [e1, e2]; exact (hbk k hk).2) hml
  rw [eno_hold hr2]
  refine Chk.mk ⟨pps_i _ _, by omega, hS.1, hS.2⟩ ?_
  obtain ⟨R, hR⟩ : ∃ R, rnw n L S y = R := ⟨_, rfl⟩
  rw [hR] at hr2 hml hby2 hfew ⊢
  have hRl : (rnw n (ppAt fun i => ppC (L i)) S y).length = R.length := congrArg List.length hR
  have hRg : ∀ i, ppC (pget (rnw n (ppAt fun i => ppC (L i)) S y) i) = ppC (pget R i) := fun i => congrArg (fun l => ppC (pget l i)) hR
  generalize hV : ((List.range it.toNat).all fun i => holdO lim (bst ag R.length (pget R) (i : Int) y)) = V
  refine loop_okR (g.ok _ _ _) 1 (fun z : {i : Nat // (i : Int) ≤ it ∧ ∀ j, j < i → holdO lim (bst ag R.length (pget R) (j : Int) y) = true} => ⟨[(2, ⟨[], .si .i64 y⟩), (3, ⟨[], .si .i64 lim⟩), (4, ⟨[], .sp 1 0⟩), (9, ⟨[], .sp 3 0⟩), (10, ⟨[], .si .i64 (z.1 : Int)⟩)], [], [(3, .cells 24 [.si .i64 it, .si .i64 ag, .sl 2]), (2, .vec 49 5 R.length fun j => ppC (pget R j)), (1, .cells 24 (paA 0 it ag)), (0, .ro 5 n fun i => ppC (L i))], 4, []⟩) (fun z => it.toNat - z.1) hG ⟨0, by omega, fun j hj => absurd hj (Nat.not_lt_zero j)⟩ (fun j => match j with | 3 => 6 | j => j) ?_ ?_
  · refine ⟨?_, ?_, rfl, rfl, rfl, rfl, trivial⟩ <;> repeat' (first | exact trivial | exact rfl | exact hRl | (intro i hi; exact ⟨hRg i, rfl⟩) | exact List.Perm.refl _ | (intro i hi; exact ⟨rfl, rfl⟩) | refine And.intro ?_ ?_)
  rintro ⟨i, hi, hall⟩
  have hi : (i : Int) ≤ it := hi
  refine Br.mk (fun h => ?_) (fun h => ?_)
  · have h : (i : Int) < it := of_decide_eq_true h
    refine Chk.mk ⟨pps_i _ _, hr2, hby2, hfew, (show (0 : Int) ≤ (i : Int) by omega), hy⟩ ?_
    refine Br.mk (fun h2 => ?_) (fun h2 => ?_)
    · have h2 : (!holdO lim (bst ag R.length (pget R) (i : Int) y)) = true := h2
      have hVf : V = false := by
        rw [← hV, List.all_eq_false]
        exact ⟨i, List.mem_range.2 (by omega), by simpa using h2⟩
      subst hVf
      exact ⟨.inl rfl, end_noid rfl rfl rfl (by repeat' (first | exact trivial | exact rfl | (intro i hi; exact ⟨rfl, rfl⟩) | refine And.intro ?_ ?_))⟩
    · have h2 : (!holdO lim (bst ag R.length (pget R) (i : Int) y)) = false := h2
      refine Chk.mk (show InK .i64 ((i : Int) + 1) from ⟨by omega, by omega⟩) ⟨⟨i + 1, by omega, fun j hj => ?_⟩, (fun j => j), ?_, by show it.toNat - (i + 1) < it.toNat - i; omega⟩
      · rcases Nat.lt_succ_iff_lt_or_eq.1 hj with h | rfl
        · exact hall j h
        · simpa using h2
      · refine ⟨?_, ?_, rfl, rfl, rfl, rfl, trivial⟩ <;> repeat' (first | exact trivial | exact rfl | exact List.Perm.refl _ | (intro i hi; exact ⟨rfl, rfl⟩) | refine And.intro ?_ ?_)
  · have h : ¬ (i : Int) < it := of_decide_eq_false h
    have hVt : V = true := by
      rw [← hV, List.all_eq_true]
      intro j hj
      exact hall j (by have := List.mem_range.1 hj; omega)
    subst hVt
    exact ⟨.inl rfl, end_noid rfl rfl rfl (by repeat' (first | exact trivial | exact rfl | (intro i hi; exact ⟨rfl, rfl⟩) | refine And.intro ?_ ?_))⟩
theorem g71 {l : List (Nat × Ct)} (g : Good P T l) : Good P T ((71, c71) :: l) := g.add (k71 g) c71_mono (body_of Try.func71 (c := code Try.f71) rfl (by decide))

end Go.X.Ps
end
