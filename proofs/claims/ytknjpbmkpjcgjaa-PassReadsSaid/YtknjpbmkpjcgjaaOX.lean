/- Bound, Until, Known of the document. -/
import Derived.Test.YtknjpbmkpjcgjaaOW
import Derived.Test.YtknjpbmkpjcgjaaOS

section
set_option linter.unusedVariables false
set_option linter.unusedSimpArgs false
set_option linter.unusedSectionVars false
/- Pass: what the document says of bounds (printed by gen-en.py). -/
set_option linter.unusedVariables false
set_option linter.unusedSimpArgs false
set_option maxRecDepth 10000
set_option maxHeartbeats 4000000
namespace Go.X.Ps
open Go Go.Proofs Go.X
theorem errO_ok {v is : Bool} (h : errO v is = 0) : v = true ∧ is = true := by
  unfold errO at h
  cases v
  · simp at h
  · cases is
    · simp at h
    · exact ⟨rfl, rfl⟩
theorem bound_err {it ag : Int} {ps : List Pp} {q y : Int} (h : ¬ errO (validV it ag ps) (isItemV it q && inB y 0 20) = 0) : boundR it ag ps q y = 0 ∧ boundE it ag ps q y = errO (validV it ag ps) (isItemV it q && inB y 0 20) := by
  unfold boundR boundE
  rw [if_neg h, if_neg h]
  exact ⟨rfl, rfl⟩
theorem bound_val {it ag : Int} {n : Nat} {L : Nat → Pp} {q y : Int} {o : Option Ch} (h : errO (validV it ag (papL n fun i => ppC (L i))) (isItemV it q && inB y 0 20) = 0) (ho : o = bst ag n L q y) : boundR it ag (papL n fun i => ppC (L i)) q y = wO o ∧ boundE it ag (papL n fun i => ppC (L i)) q y = if o.isSome = true then 0 else 4 := by
  unfold boundR boundE
  rw [if_pos h, if_pos h, bnL_L, ← ho]
  exact ⟨rfl, rfl⟩
theorem inB_ok {z lo hi : Int} (h : inB z lo hi = true) : lo ≤ z ∧ z ≤ hi := by
  unfold inB at h
  simpa using h
theorem ppb_L {ag : Int} {n : Nat} {L : Nat → Pp} (hr : PpOk ag n L) : PpB ag n L := fun j hj => ⟨(hr.2.2 j hj).1.1, (hr.2.2 j hj).2.2.1⟩
theorem bst_pos {ag : Int} {n : Nat} {L : Nat → Pp} {q y : Int} {c : Ch} (hr : PpOk ag n L) (h : some c = bst ag n L q y) : 0 ≤ c.w := walkC_w (ppb_L hr) (bst_some h.symm)

theorem k16 {l : List (Nat × Ct)} (g0 : Good P T l) : COk P 16 c15 := by
  have g := g48 (g49 (g50 good0))
  refine cok (C := tabC _) g.ok Try.func16 (c := code Try.f16) rfl fun fr args H out h hp => ?_
  unfold c15 at h
  split at h
  case h_2 => cases h
  rename_i l q y
  obtain ⟨i1, it, ag, n, get, rfl, e1, h⟩ := passK_some h
  cases h
  obtain ⟨hs, hn⟩ : Pps n get ∧ n ≤ 1000000 := hp
  refine ⟨[(i1, .ro 5 n fun i => ppC (ppAt get i))], [.agg (paA 0 it ag), .si .i64 q, .si .i64 y], [(0, .ro 5 n fun i => ppC (ppAt get i))], 1, [], rfl, rfl, Nat.le_of_ble_eq_true rfl, pp_hand e1 hs, rfl, rfl, fun G hG => ?_⟩
  rw [show papL n get = papL n (fun i => ppC (ppAt get i)) from rfl]
  generalize ppAt get = L
  refine drawn_ok (g.ok _ _ _) fol [0,0,0,6,14,30,62,126,255,511] [] 10 (by kernel_rfl) ?_
  refine Chk.mk (pps_i _ _) ?_
  refine Chk.mk ⟨pps_i _ _, hn⟩ ?_
  refine Br.mk (fun h => ?_) (fun h => ?_)
  · have h : (!decide (errO (validV it ag (papL n fun i => ppC (L i))) (isItemV it q && inB y 0 20) = 0)) = true := h
    have h : ¬ (errO (validV it ag (papL n fun i => ppC (L i))) (isItemV it q && inB y 0 20) = 0) := by simpa using h
    obtain ⟨x1, x2⟩ := bound_err h
    exact ⟨.inl rfl, end_noid ⟨⟨rfl, x1.symm⟩, ⟨rfl, x2.symm⟩, trivial⟩ rfl rfl (by repeat' (first | exact trivial | exact rfl | (intro i hi; exact ⟨rfl, rfl⟩) | refine And.intro ?_ ?_))⟩
  have h : (!decide (errO (validV it ag (papL n fun i => ppC (L i))) (isItemV it q && inB y 0 20) = 0)) = false := h
  have h : (errO (validV it ag (papL n fun i => ppC (L i))) (isItemV it q && inB y 0 20) = 0) := by simpa using h
  obtain ⟨hv, hI⟩ := errO_ok h
  rw [Bool.and_eq_true] at hI
  obtain ⟨hr, hit, hn8⟩ := valid_ok (r := L) (n := n) hv
  have hq := inItem hit hI.1
  have hy := inB_ok hI.2
  have hby := valid_by rfl hv
  have hn9 : n ≤ 9 := by omega
  refine fb_call (g.ok _ _ _) cont_std rfl rfl rfl rfl ⟨b51, ?_⟩
  refine callS_at [.agg (paA 0 it ag), .si .i64 q, .si .i64 y] [(0, .ro 5 n fun i => ppC (L i))] 1 (fun j => j) (by repeat' (first | exact trivial | exact rfl | refine And.intro ?_ ?_)) rfl (by repeat' (first | exact trivial | exact rfl | (intro i hi; exact ⟨rfl, rfl⟩) | refine And.intro ?_ ?_)) rfl rfl ?_
  refine s51 hr hby hn9 hq.1 hy (fun o LB e ho hLe => ?_)
  cases o with
  | none =>
    refine ⟨rfl, (by repeat' (first | exact trivial | exact rfl | refine And.intro ?_ ?_)), (by repeat' (first | exact trivial | exact rfl | (intro i hi; exact rfl) | refine And.intro ?_ ?_)), ?_⟩
    obtain ⟨x1, x2⟩ := bound_val h ho
    refine Br.mk (fun h => ?_) (fun h => by cases h)
    exact ⟨.inl rfl, end_noid ⟨⟨rfl, x1.symm⟩, ⟨rfl, x2.symm⟩, trivial⟩ rfl rfl (by repeat' (first | exact trivial | exact rfl | (intro i hi; exact ⟨rfl, rfl⟩) | refine And.intro ?_ ?_))⟩
  | some c =>
    refine ⟨rfl, (by repeat' (first | exact trivial | exact rfl | refine And.intro ?_ ?_)), (by repeat' (first | exact trivial | exact rfl | (intro i hi; exact rfl) | refine And.intro ?_ ?_)), ?_⟩
    obtain ⟨x1, x2⟩ := bound_val h ho
    have hw := bst_pos hr ho
    refine Br.mk (fun h => ?_) (fun h => ?_)
    · have h : c.w < 0 := of_decide_eq_true h
      omega
    exact ⟨.inl rfl, end_noid ⟨⟨rfl, x1.symm⟩, ⟨rfl, x2.symm⟩, trivial⟩ rfl rfl (by repeat' (first | exact trivial | exact rfl | (intro i hi; exact ⟨rfl, rfl⟩) | refine And.intro ?_ ?_))⟩
theorem g16 {l : List (Nat × Ct)} (g : Good P T l) : Good P T ((16, c15) :: l) := g.add (k16 g) c15_mono (body_of Try.func16 (c := code Try.f16) rfl (by decide))
end Go.X.Ps
end

section
set_option linter.unusedVariables false
set_option linter.unusedSimpArgs false
set_option linter.unusedSectionVars false
/- Pass: Until and Known of the document (printed by gen-en.py). -/
set_option linter.unusedVariables false
set_option linter.unusedSimpArgs false
set_option maxRecDepth 10000
set_option maxHeartbeats 4000000
namespace Go.X.Ps
open Go Go.Proofs Go.X

theorem setN_sum {f : Nat → Bool} (i : Nat) : setN f (i + 1) = if f i = true then setN f i + 2 ^ i else setN f i := by
  rw [setN]
  split
  · have h := Nat.two_pow_add_eq_or_of_lt (setN_lt f i) 1
    rw [Nat.mul_one] at h
    rw [Nat.or_comm, ← h, Nat.add_comm]
  · rfl
theorem setN_stop {f : Nat → Bool} {i : Nat} (h : ∀ j, i ≤ j → f j = false) : ∀ k, setN f (i + k) = setN f i
  | 0 => rfl
  | k + 1 => by
    show setN f (i + k + 1) = _
    rw [setN, h (i + k) (by omega), if_neg (by decide), setN_stop h k]
theorem setN_6 {it ag : Int} {ps : List Pp} {y : Int} {f : Nat → Bool} (hv : validV it ag ps = true) (hit : 1 ≤ it ∧ it ≤ 6) (hf : ∀ j, bnN ag ps y j = -1 → f j = false) : setN f 6 = setN f it.toNat := by
  have := setN_stop (f := f) (i := it.toNat) (fun j hj => hf j (by unfold bnN; rw [bn_far hv hit (by omega)]; rfl)) (6 - it.toNat)
  rw [← this]
  congr 1
  omega
theorem bnN_L (ag : Int) (n : Nat) (L : Nat → Pp) (y : Int) (i : Nat) : bnN ag (papL n fun i => ppC (L i)) y i = bO (bst ag n L (i : Int) y) := by
  unfold bnN
  rw [bnL_L]

theorem k20 {l : List (Nat × Ct)} (g0 : Good P T l) : COk P 20 c19 := by
  have g := g48 (g50 (g55 good0))
  refine cok (C := tabC _) g.ok Try.func20 (c := code Try.f20) rfl fun fr args H out h hp => ?_
  unfold c19 at h
  split at h
  case h_2 => cases h
  rename_i l y
  obtain ⟨i1, it, ag, n, get, rfl, e1, h⟩ := passK_some h
  cases h
  obtain ⟨hs, hn⟩ : Pps n get ∧ n ≤ 1000000 := hp
  refine ⟨[(i1, .ro 5 n fun i => ppC (ppAt get i))], [.agg (paA 0 it ag), .si .i64 y], [(0, .ro 5 n fun i => ppC (ppAt get i))], 1, [], rfl, rfl, Nat.le_of_ble_eq_true rfl, pp_hand e1 hs, rfl, rfl, fun G hG => ?_⟩
  rw [show papL n get = papL n (fun i => ppC (ppAt get i)) from rfl]
  generalize ppAt get = L
  refine drawn_ok (g.ok _ _ _) fol [0,0,2,7,15] [] 5 (by kernel_rfl) ?_
  refine Chk.mk ⟨pps_i _ _, hn⟩ ?_
  refine Br.mk (fun h => ?_) (fun h => ?_)
  · have h : (!decide (errO (validV it ag (papL n fun i => ppC (L i))) (inB y 0 20) = 0)) = true := h
    have h : ¬ (errO (validV it ag (papL n fun i => ppC (L i))) (inB y 0 20) = 0) := by simpa using h
    have x2 : knownE it ag (papL n fun i => ppC (L i)) y = errO (validV it ag (papL n fun i => ppC (L i))) (inB y 0 20) := rfl
    have x1 : knownR it ag (papL n fun i => ppC (L i)) y = 0 := by unfold knownR; rw [x2, if_neg h]
    exact ⟨.inl rfl, end_noid ⟨⟨rfl, x1.symm⟩, ⟨rfl, x2.symm⟩, trivial⟩ rfl rfl (by repeat' (first | exact trivial | exact rfl | (intro i hi; exact ⟨rfl, rfl⟩) | refine And.intro ?_ ?_))⟩
  have h : (!decide (errO (validV it ag (papL n fun i => ppC (L i))) (inB y 0 20) = 0)) = false := h
  have h : (errO (validV it ag (papL n fun i => ppC (L i))) (inB y 0 20) = 0) := by simpa using h
  obtain ⟨hv, hI⟩ := errO_ok h
  obtain ⟨hr, hit, hn8⟩ := valid_ok (r := L) (n := n) hv
  have hy := inB_ok hI
  have hby := valid_by rfl hv
  have hn9 : n ≤ 9 := by omega
  have x2 : knownE it ag (papL n fun i => ppC (L i)) y = 0 := h
  obtain ⟨F, hF⟩ : ∃ F : Nat → Bool, F = fun i => decide (0 ≤ bnN ag (papL n fun i => ppC (L i)) y i) := ⟨_, rfl⟩
  have x1 : knownR it ag (papL n fun i => ppC (L i)) y = ((setN F it.toNat : Nat) : Int) := by
    unfold knownR
    rw [x2, if_pos rfl, ← hF]
    rw [setN_6 (f := F) (y := y) hv hit (fun j hj => by rw [hF]; show decide (0 ≤ bnN ag (papL n fun i => ppC (L i)) y j) = false; rw [hj]; rfl)]
  have hFv : ∀ i : Nat, F i = decide (0 ≤ bO (bst ag n L (i : Int) y)) := fun i => by rw [hF]; simp only [bnN_L]
  clear hF
  refine loop_okR (g.ok _ _ _) 1 (fun z : {i : Nat // (i : Int) ≤ it} => ⟨[(1, ⟨[], .si .i64 y⟩), (2, ⟨[], .sp 1 0⟩), (7, ⟨[], .si .i64 ((setN F z.1 : Nat) : Int)⟩), (8, ⟨[], .si .i64 (z.1 : Int)⟩)], [], [(1, .cells 24 (paA 0 it ag)), (0, .ro 5 n fun i => ppC (L i))], 2, []⟩) (fun z => it.toNat - z.1) hG ⟨0, by omega⟩ (fun j => j) ?_ ?_
  · refine ⟨?_, ?_, rfl, rfl, rfl, rfl, trivial⟩ <;> repeat' (first | exact trivial | exact rfl | exact List.Perm.refl _ | (intro i hi; exact ⟨rfl, rfl⟩) | refine And.intro ?_ ?_)
  rintro ⟨i, hi⟩
  have hslt := setN_lt F i
  have hpw : 2 ^ i ≤ 2 ^ 6 := Nat.pow_le_pow_right (by decide) (by omega)
  refine Br.mk (fun h2 => ?_) (fun h2 => ?_)
  · have h2 : (i : Int) < it := of_decide_eq_true h2
    refine fb_call (g.ok _ _ _) cont_std rfl rfl rfl rfl ⟨b51, ?_⟩
    refine callS_at [.agg (paA 0 it ag), .si .i64 (i : Int), .si .i64 y] [(0, .ro 5 n fun i => ppC (L i))] 1 (fun j => j) (by repeat' (first | exact trivial | exact rfl | refine And.intro ?_ ?_)) rfl (by repeat' (first | exact trivial | exact rfl | (intro i hi; exact ⟨rfl, rfl⟩) | refine And.intro ?_ ?_)) rfl rfl ?_
    refine s51 hr hby hn9 (by omega) hy (fun o LB e ho hLe => ?_)
    cases o with
    | none =>
      refine ⟨rfl, (by repeat' (first | exact trivial | exact rfl | refine And.intro ?_ ?_)), (by repeat' (first | exact trivial | exact rfl | (intro i hi; exact rfl) | refine And.intro ?_ ?_)), ?_⟩
      have hFi : F i = false := by rw [hFv, ← ho]; rfl
      refine Br.mk (fun h => by cases h) (fun _ => ?_)
      refine Chk.mk (show InK .i64 ((i : Int) + 1) from ⟨by omega, by omega⟩) ⟨⟨i + 1, by omega⟩, (fun j => j), ?_, by show it.toNat - (i + 1) < it.toNat - i; omega⟩
      have hs2 := setN_sum (f := F) i
      rw [hFi] at hs2
      refine ⟨?_, ?_, rfl, rfl, rfl, rfl, trivial⟩ <;> repeat' (first | exact trivial | exact rfl | exact (congrArg (fun x : Nat => (x : Int)) hs2).symm | exact List.Perm.refl _ | (intro i hi; exact ⟨rfl, rfl⟩) | refine And.intro ?_ ?_)
    | some c =>
      refine ⟨rfl, (by repeat' (first | exact trivial | exact rfl | refine And.intro ?_ ?_)), (by repeat' (first | exact trivial | exact rfl | (intro i hi; exact rfl) | refine And.intro ?_ ?_)), ?_⟩
      have hw := bst_pos hr ho
      have hFi : F i = true := by rw [hFv, ← ho]; exact decide_eq_true hw
      have hp2 : (2 : Int) ^ ((i : Nat) : Int).toNat = ((2 ^ i : Nat) : Int) := by rw [Int.toNat_natCast]; push_cast; rfl
      have hsm : ((setN F i : Nat) : Int) + 2 ^ ((i : Nat) : Int).toNat = ((setN F (i + 1) : Nat) : Int) := by rw [hp2, setN_sum, hFi, if_pos rfl]; push_cast; rfl
      refine Br.mk (fun _ => ?_) (fun h => absurd hw (of_decide_eq_false h))
      refine Chk.mk (show ((i : Nat) : Int) ≤ 62 by omega) (Chk.mk (show InK .i64 (((setN F i : Nat) : Int) + 2 ^ ((i : Nat) : Int).toNat) by rw [hp2]; exact ⟨by omega, by omega⟩) ?_)
      refine Chk.mk (show InK .i64 ((i : Int) + 1) from ⟨by omega, by omega⟩) ⟨⟨i + 1, by omega⟩, (fun j => j), ?_, by show it.toNat - (i + 1) < it.toNat - i; omega⟩
      have hs2 := setN_sum (f := F) i
      rw [hFi] at hs2
      refine ⟨?_, ?_, rfl, rfl, rfl, rfl, trivial⟩ <;> repeat' (first | exact trivial | exact rfl | exact hsm | exact List.Perm.refl _ | (intro i hi; exact ⟨rfl, rfl⟩) | refine And.intro ?_ ?_)
  · have h2 : ¬ (i : Int) < it := of_decide_eq_false h2
    have e : it.toNat = i := by omega
    rw [e] at x1
    exact ⟨.inl rfl, end_noid ⟨⟨rfl, x1.symm⟩, ⟨rfl, x2.symm⟩, trivial⟩ rfl rfl (by repeat' (first | exact trivial | exact rfl | (intro i hi; exact ⟨rfl, rfl⟩) | refine And.intro ?_ ?_))⟩
theorem g20 {l : List (Nat × Ct)} (g : Good P T l) : Good P T ((20, c19) :: l) := g.add (k20 g) c19_mono (body_of Try.func20 (c := code Try.f20) rfl (by decide))
end Go.X.Ps
end
