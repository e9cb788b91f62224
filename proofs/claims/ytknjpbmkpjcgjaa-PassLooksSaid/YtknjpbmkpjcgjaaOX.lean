/- Bound, Until, Known of the document. -/
import Derived.Test.YtknjpbmkpjcgjaaOW
import Derived.Test.YtknjpbmkpjcgjaaOS

section
set_option linter.unusedVariables false
set_option linter.unusedSimpArgs false
set_option linter.unusedSectionVars false
/- Pass: what the document says of bounds (printed by gen-en.py). -/
set_option linter.unusedVariables false
set_option linter.unusedSimpArgs false
set_option maxRecDepth 10000
set_option maxHeartbeats 4000000
namespace Go.X.Ps
open Go Go.Proofs Go.X
theorem errO_ok {v is : Bool} (h : errO v is = 0) : v = true ∧ is = true := by
  unfold errO at h
  cases v
  · simp at h
  · cases is
    · simp at h
    · exact ⟨rfl, rfl⟩
theorem inB_ok {z lo hi : Int} (h : inB z lo hi = true) : lo ≤ z ∧ z ≤ hi := by
  unfold inB at h
  simpa using h
theorem ppb_L {ag : Int} {n : Nat} {L : Nat → Pp} (hr : PpOk ag n L) : PpB ag n L := fun j hj => ⟨(hr.2.2 j hj).1.1, (hr.2.2 j hj).2.2.1⟩
theorem bst_pos {ag : Int} {n : Nat} {L : Nat → Pp} {q y : Int} {c : Ch} (hr : PpOk ag n L) (h : some c = bst ag n L q y) : 0 ≤ c.w := walkC_w (ppb_L hr) (bst_some h.symm)

def c58 : Ct := fun fr args H => match args with
  | [.agg l, .si .i64 q, .si .i64 y, .si .i64 lim] => passK H l fun i1 it ag n get => some ⟨some (Pps n get ∧ PpOk ag n (ppAt get) ∧ (∀ j, j < n → -1 ≤ (ppAt get j).by_) ∧ Few ag n (ppAt get) ∧ 0 ≤ q ∧ 0 ≤ y ∧ y ≤ 20), none, .sb (holdO lim (bst ag n (ppAt get) q y)), []⟩
  | _ => none
theorem c58_mono : CtMono c58 := by
  intro fr args H H' out hH h
  unfold c58 at h ⊢
  split at h
  · exact passK_mono hH h
  · cases h
theorem k58 {l : List (Nat × Ct)} (g0 : Good P T l) : COk P 58 c58 := by
  have g := g65 good0
  refine cok (C := tabC _) g.ok Try.func58 (c := code Try.f58) rfl fun fr args H out h hp => ?_
  unfold c58 at h
  split at h
  case h_2 => cases h
  rename_i l q y lim
  obtain ⟨i1, it, ag, n, get, rfl, e1, h⟩ := passK_some h
  cases h
  obtain ⟨hs, hr, hby, hn9, hq, hy⟩ : Pps n get ∧ PpOk ag n (ppAt get) ∧ (∀ j, j < n → -1 ≤ (ppAt get j).by_) ∧ Few ag n (ppAt get) ∧ 0 ≤ q ∧ 0 ≤ y ∧ y ≤ 20 := hp
  refine ⟨[(i1, .ro 5 n fun i => ppC (ppAt get i))], [.agg (paA 0 it ag), .si .i64 q, .si .i64 y, .si .i64 lim], [(0, .ro 5 n fun i => ppC (ppAt get i))], 1, [], rfl, rfl, Nat.le_of_ble_eq_true rfl, pp_hand e1 hs, rfl, rfl, fun G hG => ?_⟩
  generalize ppAt get = L at hr hby hn9 ⊢
  refine fb_call (g.ok _ _ _) cont_std rfl rfl rfl rfl ⟨b51, ?_⟩
  refine callS_at [.agg (paA 0 it ag), .si .i64 q, .si .i64 y] [(0, .ro 5 n fun i => ppC (L i))] 1 (fun j => j) (by repeat' (first | exact trivial | exact rfl | refine And.intro ?_ ?_)) rfl (by repeat' (first | exact trivial | exact rfl | (intro i hi; exact ⟨rfl, rfl⟩) | refine And.intro ?_ ?_)) rfl rfl ?_
  refine s51 hr hby hn9 hq hy (fun o LB e ho hLe => ?_)
  cases o with
  | none =>
    refine ⟨rfl, (by repeat' (first | exact trivial | exact rfl | refine And.intro ?_ ?_)), (by repeat' (first | exact trivial | exact rfl | (intro i hi; exact rfl) | refine And.intro ?_ ?_)), ?_⟩
    rw [← ho]
    exact ⟨.inl rfl, end_noid rfl rfl rfl (by repeat' (first | exact trivial | exact rfl | (intro i hi; exact ⟨rfl, rfl⟩) | refine And.intro ?_ ?_))⟩
  | some c =>
    refine ⟨rfl, (by repeat' (first | exact trivial | exact rfl | refine And.intro ?_ ?_)), (by repeat' (first | exact trivial | exact rfl | (intro i hi; exact rfl) | refine And.intro ?_ ?_)), ?_⟩
    have hw := bst_pos hr ho
    rw [← ho]
    refine ⟨.inl rfl, end_noid ?_ rfl rfl (by repeat' (first | exact trivial | exact rfl | (intro i hi; exact ⟨rfl, rfl⟩) | refine And.intro ?_ ?_))⟩
    show inB c.w 0 lim = holdO lim (some c)
    unfold inB holdO
    simp [hw]
    rfl
theorem g58 {l : List (Nat × Ct)} (g : Good P T l) : Good P T ((58, c58) :: l) := g.add (k58 g) c58_mono (body_of Try.func58 (c := code Try.f58) rfl (by decide))
end Go.X.Ps
end

section
set_option linter.unusedVariables false
set_option linter.unusedSimpArgs false
set_option linter.unusedSectionVars false
/- Pass: Until and Known of the document (printed by gen-en.py). -/
set_option linter.unusedVariables false
set_option linter.unusedSimpArgs false
set_option maxRecDepth 10000
set_option maxHeartbeats 4000000
namespace Go.X.Ps
open Go Go.Proofs Go.X

theorem until_err {it ag : Int} {ps : List Pp} {q y lim : Int} (h : ¬ errO (validV it ag ps) (isItemV it q && inB y 0 20 && inB lim 0 2000) = 0) : untilR it ag ps q y lim = 0 ∧ untilE it ag ps q y lim = errO (validV it ag ps) (isItemV it q && inB y 0 20 && inB lim 0 2000) := by
  have e : untilE it ag ps q y lim = errO (validV it ag ps) (isItemV it q && inB y 0 20 && inB lim 0 2000) := by unfold untilE; rw [if_neg h]
  refine ⟨?_, e⟩
  unfold untilR
  rw [e, if_neg h]
theorem until_no {it ag : Int} {n : Nat} {L : Nat → Pp} {q y lim : Int} (h : errO (validV it ag (papL n fun i => ppC (L i))) (isItemV it q && inB y 0 20 && inB lim 0 2000) = 0) (h2 : holdO lim (bst ag n L q y) = false) : untilR it ag (papL n fun i => ppC (L i)) q y lim = 0 ∧ untilE it ag (papL n fun i => ppC (L i)) q y lim = 4 := by
  have e : untilE it ag (papL n fun i => ppC (L i)) q y lim = 4 := by unfold untilE; rw [if_pos h, bnL_L, h2]; rfl
  refine ⟨?_, e⟩
  unfold untilR
  rw [e]
  rfl
theorem until_yes {it ag : Int} {n : Nat} {L : Nat → Pp} {q y lim : Int} (h : errO (validV it ag (papL n fun i => ppC (L i))) (isItemV it q && inB y 0 20 && inB lim 0 2000) = 0) (h2 : holdO lim (bst ag n L q y) = true) : untilR it ag (papL n fun i => ppC (L i)) q y lim = untilN (fun z => holdO lim (bst ag n L q z)) (21 - y).toNat y - 1 ∧ untilE it ag (papL n fun i => ppC (L i)) q y lim = 0 := by
  have e : untilE it ag (papL n fun i => ppC (L i)) q y lim = 0 := by unfold untilE; rw [if_pos h, bnL_L, h2]; rfl
  refine ⟨?_, e⟩
  unfold untilR
  rw [e, if_pos rfl]
  simp only [bnL_L]
theorem untilN_go {h : Int → Bool} {y : Int} (hy : y ≤ 20) (hh : h y = true) : untilN h (21 - y).toNat y = untilN h (21 - (y + 1)).toNat (y + 1) := by
  rw [show (21 - y).toNat = (21 - (y + 1)).toNat + 1 by omega, untilN, if_pos hh]
theorem untilN_stop {h : Int → Bool} {y : Int} (hy : y ≤ 20) (hh : h y = true) (he : y < 20 → h (y + 1) = false) : untilN h (21 - y).toNat y = y + 1 := by
  rw [untilN_go hy hh]
  by_cases e : y < 20
  · rw [show (21 - (y + 1)).toNat = (21 - (y + 2)).toNat + 1 by omega, untilN, if_neg (by rw [he e]; decide)]
  · rw [show (21 - (y + 1)).toNat = 0 by omega]; rfl

theorem k23 {l : List (Nat × Ct)} (g0 : Good P T l) : COk P 23 c22 := by
  have g := g48 (g49 (g50 (g57 (g58 good0))))
  refine cok (C := tabC _) g.ok Try.func23 (c := code Try.f23) rfl fun fr args H out h hp => ?_
  unfold c22 at h
  split at h
  case h_2 => cases h
  rename_i l q y lim
  obtain ⟨i1, it, ag, n, get, rfl, e1, h⟩ := passK_some h
  cases h
  obtain ⟨hs, hn⟩ : Pps n get ∧ n ≤ 1000000 := hp
  refine ⟨[(i1, .ro 5 n fun i => ppC (ppAt get i))], [.agg (paA 0 it ag), .si .i64 q, .si .i64 y, .si .i64 lim], [(0, .ro 5 n fun i => ppC (ppAt get i))], 1, [], rfl, rfl, Nat.le_of_ble_eq_true rfl, pp_hand e1 hs, rfl, rfl, fun G hG => ?_⟩
  rw [show papL n get = papL n (fun i => ppC (ppAt get i)) from rfl]
  generalize ppAt get = L
  refine drawn_ok (g.ok _ _ _) fol [0,0,0,6,14,30,62,126,254,510,1022,2046,4095,8191] [] 14 (by kernel_rfl) ?_
  refine Chk.mk (pps_i _ _) (Chk.mk ⟨pps_i _ _, hn⟩ ?_)
  refine Br.mk (fun h => ?_) (fun h => ?_)
  · have h : (!decide (errO (validV it ag (papL n fun i => ppC (L i))) (isItemV it q && inB y 0 20 && inB lim 0 2000) = 0)) = true := h
    have h : ¬ (errO (validV it ag (papL n fun i => ppC (L i))) (isItemV it q && inB y 0 20 && inB lim 0 2000) = 0) := by simpa using h
    obtain ⟨x1, x2⟩ := until_err h
    exact ⟨.inl rfl, end_noid ⟨⟨rfl, x1.symm⟩, ⟨rfl, x2.symm⟩, trivial⟩ rfl rfl (by repeat' (first | exact trivial | exact rfl | (intro i hi; exact ⟨rfl, rfl⟩) | refine And.intro ?_ ?_))⟩
  have h : (!decide (errO (validV it ag (papL n fun i => ppC (L i))) (isItemV it q && inB y 0 20 && inB lim 0 2000) = 0)) = false := h
  have h : (errO (validV it ag (papL n fun i => ppC (L i))) (isItemV it q && inB y 0 20 && inB lim 0 2000) = 0) := by simpa using h
  obtain ⟨hv, hI⟩ := errO_ok h
  rw [Bool.and_eq_true, Bool.and_eq_true] at hI
  obtain ⟨hr, hit, hn8⟩ := valid_ok (r := L) (n := n) hv
  have hq := inItem hit hI.1.1
  have hy := inB_ok hI.1.2
  have hby := valid_by rfl hv
  have hn9 := few_of (ag := ag) (r := L) (show n ≤ 9 by omega)
  refine Chk.mk ⟨pps_i _ _, hr, hby, hn9, hq.1, hy⟩ ?_
  refine Br.mk (fun h2 => ?_) (fun h2 => ?_)
  · have h2 : (!holdO lim (bst ag n L q y)) = true := h2
    obtain ⟨x1, x2⟩ := until_no h (by simpa using h2)
    exact ⟨.inl rfl, end_noid ⟨⟨rfl, x1.symm⟩, ⟨rfl, x2.symm⟩, trivial⟩ rfl rfl (by repeat' (first | exact trivial | exact rfl | (intro i hi; exact ⟨rfl, rfl⟩) | refine And.intro ?_ ?_))⟩
  have h2 : (!holdO lim (bst ag n L q y)) = false := h2
  have h2 : holdO lim (bst ag n L q y) = true := by simpa using h2
  obtain ⟨x1, x2⟩ := until_yes h h2
  refine loop_okR (g.ok _ _ _) 1 (fun z : {z : Int // (y ≤ z ∧ z ≤ 20) ∧ holdO lim (bst ag n L q z) = true ∧ untilN (fun z => holdO lim (bst ag n L q z)) (21 - y).toNat y = untilN (fun z => holdO lim (bst ag n L q z)) (21 - z).toNat z} => ⟨[(1, ⟨[], .si .i64 q⟩), (2, ⟨[], .si .i64 z.1⟩), (3, ⟨[], .si .i64 lim⟩), (4, ⟨[], .sp 1 0⟩)], [], [(1, .cells 24 (paA 0 it ag)), (0, .ro 5 n fun i => ppC (L i))], 2, []⟩)
    (fun z => (20 - z.1).toNat) hG ⟨y, ⟨Int.le_refl _, hy.2⟩, h2, rfl⟩ (fun j => j) ?_ ?_
  · refine ⟨?_, ?_, rfl, rfl, rfl, rfl, trivial⟩ <;> repeat' (first | exact trivial | exact rfl | exact List.Perm.refl _ | (intro i hi; exact ⟨rfl, rfl⟩) | refine And.intro ?_ ?_)
  rintro ⟨z, hz, hh, hinv⟩
  refine Chk.mk (fun hg => (show InK .i64 (z + 1) from ⟨by omega, by omega⟩)) (Chk.mk (fun hg => ⟨pps_i _ _, hr, hby, hn9, hq.1, (show (0 : Int) ≤ z + 1 by omega), (show z + 1 ≤ 20 by have := of_decide_eq_true (show decide (z < 20) = true from hg); omega)⟩) ?_)
  refine Br.mk (fun h3 => ?_) (fun h3 => ?_)
  · have h3 : (decide (z < 20) && holdO lim (bst ag n L q (z + 1))) = true := h3
    rw [Bool.and_eq_true, decide_eq_true_eq] at h3
    refine Chk.mk (show InK .i64 (z + 1) from ⟨by omega, by omega⟩) ⟨⟨z + 1, ⟨by omega, by omega⟩, h3.2, hinv.trans (untilN_go hz.2 hh)⟩, (fun j => j), ?_, by show (20 - (z + 1)).toNat < (20 - z).toNat; omega⟩
    refine ⟨?_, ?_, rfl, rfl, rfl, rfl, trivial⟩ <;> repeat' (first | exact trivial | exact rfl | exact List.Perm.refl _ | (intro i hi; exact ⟨rfl, rfl⟩) | refine And.intro ?_ ?_)
  · have h3 : (decide (z < 20) && holdO lim (bst ag n L q (z + 1))) = false := h3
    have he := hinv.trans (untilN_stop hz.2 hh (fun hlt => by simpa [hlt] using h3))
    rw [he] at x1
    have x1 : z = untilR it ag (papL n fun i => ppC (L i)) q y lim := by omega
    exact ⟨.inl rfl, end_noid ⟨⟨rfl, x1⟩, ⟨rfl, x2.symm⟩, trivial⟩ rfl rfl (by repeat' (first | exact trivial | exact rfl | (intro i hi; exact ⟨rfl, rfl⟩) | refine And.intro ?_ ?_))⟩
theorem g23 {l : List (Nat × Ct)} (g : Good P T l) : Good P T ((23, c22) :: l) := g.add (k23 g) c22_mono (body_of Try.func23 (c := code Try.f23) rfl (by decide))
theorem setN_sum {f : Nat → Bool} (i : Nat) : setN f (i + 1) = if f i = true then setN f i + 2 ^ i else setN f i := by
  rw [setN]
  split
  · have h := Nat.two_pow_add_eq_or_of_lt (setN_lt f i) 1
    rw [Nat.mul_one] at h
    rw [Nat.or_comm, ← h, Nat.add_comm]
  · rfl
theorem setN_stop {f : Nat → Bool} {i : Nat} (h : ∀ j, i ≤ j → f j = false) : ∀ k, setN f (i + k) = setN f i
  | 0 => rfl
  | k + 1 => by
    show setN f (i + k + 1) = _
    rw [setN, h (i + k) (by omega), if_neg (by decide), setN_stop h k]
theorem setN_6 {it ag : Int} {ps : List Pp} {y : Int} {f : Nat → Bool} (hv : validV it ag ps = true) (hit : 1 ≤ it ∧ it ≤ 6) (hf : ∀ j, bnN ag ps y j = -1 → f j = false) : setN f 6 = setN f it.toNat := by
  have := setN_stop (f := f) (i := it.toNat) (fun j hj => hf j (by unfold bnN; rw [bn_far hv hit (by omega)]; rfl)) (6 - it.toNat)
  rw [← this]
  congr 1
  omega
theorem bnN_L (ag : Int) (n : Nat) (L : Nat → Pp) (y : Int) (i : Nat) : bnN ag (papL n fun i => ppC (L i)) y i = bO (bst ag n L (i : Int) y) := by
  unfold bnN
  rw [bnL_L]

end Go.X.Ps
end
