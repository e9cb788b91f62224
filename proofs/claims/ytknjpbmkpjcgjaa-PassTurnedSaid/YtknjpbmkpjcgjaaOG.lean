/- The samples; that awake answers true; the document's word whether certificates are valid. -/
import Derived.Test.YtknjpbmkpjcgjaaOF

section
set_option linter.unusedVariables false
set_option linter.unusedSimpArgs false
set_option linter.unusedSectionVars false
/- Pass: samples, lists of numbers, awake. -/
set_option linter.unusedVariables false
set_option linter.unusedSimpArgs false
set_option maxRecDepth 10000
set_option maxHeartbeats 4000000
namespace Go.X.Ps
open Go Go.Proofs Go.X

def c13 : Ct := fun fr args H => match args with
  | [.agg l] => passK H l fun i1 it ag n get => some ⟨some (Pps n get), none, .sb (decide ((40 : Int) < (n : Int))), []⟩
  | _ => none
theorem c13_mono : CtMono c13 := by
  intro fr args H H' out hH h
  unfold c13 at h ⊢
  split at h
  · exact passK_mono hH h
  · cases h
theorem k13 {l : List (Nat × Ct)} (g0 : Good P T l) : COk P 13 c13 := by
  have g := good0
  refine cok (C := tabC _) g.ok Try.func13 (c := code Try.f13) rfl fun fr args H out h hp => ?_
  unfold c13 at h
  split at h
  case h_2 => cases h
  rename_i l
  obtain ⟨i1, it, ag, n, get, rfl, e1, h⟩ := passK_some h
  cases h
  have hs : Pps n get := hp
  refine ⟨[(i1, .ro 5 n fun i => ppC (ppAt get i))], [.agg (paA 0 it ag)], [(0, .ro 5 n fun i => ppC (ppAt get i))], 1, [], rfl, rfl, Nat.le_of_ble_eq_true rfl, pp_hand e1 hs, rfl, rfl, fun G hG => ?_⟩
  refine ⟨.inl rfl, end_noid rfl rfl rfl (by repeat' (first | exact trivial | exact rfl | (intro i hi; exact ⟨rfl, rfl⟩) | refine And.intro ?_ ?_))⟩
theorem g13 {l : List (Nat × Ct)} (g : Good P T l) : Good P T ((13, c13) :: l) := g.add (k13 g) c13_mono (body_of Try.func13 (c := code Try.f13) rfl (by decide))
def c40 : Ct := plainCt fun
  | [.si .i64 a, .si .i64 b, .si .i64 c, .si .i64 d, .si .i64 e] => some ⟨none, none, .agg [.si .i64 a, .si .i64 b, .si .i64 c, .si .i64 d, .si .i64 e], []⟩
  | _ => none
theorem k40 {l : List (Nat × Ct)} (g0 : Good P T l) : COk P 40 c40 := by
  have g := good0
  refine cok (C := tabC _) g.ok Try.func40 (c := code Try.f40) rfl fun fr args H out h hp => ?_
  simp only [c40, plainCt] at h
  split at h
  · cases h
    refine walk_plain rfl (Nat.le_of_ble_eq_true rfl) fun G hG => ?_
    exact ⟨.inl rfl, end_plain ⟨⟨rfl, rfl⟩, ⟨rfl, rfl⟩, ⟨rfl, rfl⟩, ⟨rfl, rfl⟩, ⟨rfl, rfl⟩, trivial⟩ rfl rfl⟩
  · cases h
theorem g40 {l : List (Nat × Ct)} (g : Good P T l) : Good P T ((40, c40) :: l) := g.add (k40 g) (plainCt_mono _) (body_of Try.func40 (c := code Try.f40) rfl (by decide))
def smpL : List SV := [.si .i64 0, .si .i64 (-1), .si .i64 2, .si .i64 1, .si .i64 1, .si .i64 1, .si .i64 0, .si .i64 3, .si .i64 3, .si .i64 2, .si .i64 2, .si .i64 1, .si .i64 1, .si .i64 4, .si .i64 0, .si .i64 2, .si .i64 0, .si .i64 9, .si .i64 2, .si .i64 0]
def c41 : Ct := fun fr args H => match args with
  | [] => some ⟨none, none, .agg (paA fr 3 5), [(fr, .row 49 5 4 smpL)]⟩
  | _ => none
theorem c41_mono : CtMono c41 := by
  intro fr args H H' out hH h
  unfold c41 at h ⊢
  exact h
theorem k41 {l : List (Nat × Ct)} (g0 : Good P T l) : COk P 41 c41 := by
  have g := g40 good0
  refine cok (C := tabC _) g.ok Try.func41 (c := code Try.f41) rfl fun fr args H out h hp => ?_
  unfold c41 at h
  split at h
  case h_2 => cases h
  cases h
  refine ⟨[], [], [], 0, [1], rfl, rfl, Nat.le_of_ble_eq_true rfl, hand_nil _, rfl, rfl, fun G hG => ?_⟩
  refine ⟨.inl rfl, ⟨?_, rfl, ?_, ?_, rfl, rfl⟩⟩ <;> repeat' (first | exact trivial | exact rfl | (intro i hi; exact ⟨rfl, rfl⟩) | refine And.intro ?_ ?_)
theorem g41 {l : List (Nat × Ct)} (g : Good P T l) : Good P T ((41, c41) :: l) := g.add (k41 g) c41_mono (body_of Try.func41 (c := code Try.f41) rfl (by decide))
/-- Are two lists the same? -/
def c21 : Ct := fun fr args H => match args with
  | [.sl i1, .sl i2] => (match sliceOf 1 H i1, sliceOf 1 H i2 with
    | some (m, g1), some (n, g2) => some ⟨some ((Ints m g1 ∧ Ints n g2) ∧ m ≤ 1000000 ∧ n ≤ 1000000), none, .sb (decide (intL m (intAt g1) = intL n (intAt g2))), []⟩
    | _, _ => none)
  | _ => none
theorem c21_mono : CtMono c21 := by
  intro fr args H H' out hH h
  unfold c21 at h ⊢
  split at h
  · split at h
    · rename_i e1 e2
      simp only [sliceOf_mono hH e1, sliceOf_mono hH e2]
      exact h
    · cases h
  · cases h
theorem intL_eq {n : Nat} {x y : Nat → Int} : intL n x = intL n y ↔ ∀ i, i < n → x i = y i := by
  unfold intL
  constructor
  · intro h i hi
    have := congrArg (fun l => l[i]?) h
    simp [hi] at this
    exact this
  · intro h
    exact List.map_congr_left fun i hi => h i (List.mem_range.1 hi)
theorem k21 {l : List (Nat × Ct)} (g0 : Good P T l) : COk P 21 c21 := by
  have g := good0
  refine cok (C := tabC _) g.ok Try.func21 (c := code Try.f21) rfl fun fr args H out h hp => ?_
  unfold c21 at h
  split at h
  case h_2 => cases h
  rename_i i1 i2
  split at h
  case h_2 => cases h
  rename_i m g1 n g2 e1 e2
  cases h
  obtain ⟨⟨hs1, hs2⟩, hm, hn⟩ : (Ints m g1 ∧ Ints n g2) ∧ m ≤ 1000000 ∧ n ≤ 1000000 := hp
  generalize hx : intAt g1 = x at hs1 ⊢
  generalize hy : intAt g2 = y at hs2 ⊢
  have hh : Hand H [(i1, .ro 1 m fun i => intC (x i)), (i2, .ro 1 n fun i => intC (y i))] := hand_mk ⟨sliceOf_piece e1 fun i hi => by rw [hs1 i hi, hx]; rfl, sliceOf_piece e2 fun i hi => by rw [hs2 i hi, hy]; rfl, trivial⟩
    (by repeat' (first | exact trivial | (intro i hi; exact ⟨trivial, trivial⟩) | refine And.intro ?_ ?_)) rfl
  refine ⟨[(i1, .ro 1 m fun i => intC (x i)), (i2, .ro 1 n fun i => intC (y i))], [.sl 0, .sl 1], cmpH m n x y, 2, [], rfl, rfl, Nat.le_of_ble_eq_true rfl, hh, rfl, rfl, fun G hG => ?_⟩
  refine Br.mk (fun h => ?_) (fun h => ?_)
  · have h : (!decide ((m : Int) = (n : Int))) = true := h
    have h : ¬ m = n := by simp at h; omega
    refine ⟨.inl rfl, end_noid ?_ rfl rfl (by repeat' (first | exact trivial | exact rfl | (intro i hi; exact ⟨rfl, rfl⟩) | refine And.intro ?_ ?_))⟩
    show false = decide _
    rw [eq_comm, decide_eq_false_iff_not]
    intro he
    have := congrArg List.length he
    rw [intL_len, intL_len] at this
    exact h this
  have h : (!decide ((m : Int) = (n : Int))) = false := h
  obtain rfl : m = n := by simp at h; omega
  refine loop_ok (g.ok _ _ _) (fun z : {i : Nat // i ≤ m ∧ ∀ j, j < i → x j = y j} => ⟨[(0, ⟨[], .sl 0⟩), (1, ⟨[], .sl 1⟩), (5, ⟨[], .si .i64 z.1⟩)], [], cmpH m m x y, 2, []⟩)
    (fun z => m - z.1) (fun _ j hj => hG j hj) ⟨0, Nat.zero_le _, fun j hj => by omega⟩ ?_ ?_
  · refine ⟨?_, ?_, rfl, rfl, rfl⟩ <;> repeat' (first | exact trivial | exact rfl | (intro i hi; exact rfl) | refine And.intro ?_ ?_)
  rintro ⟨i, hi, hall⟩
  refine Br.mk (fun h => ?_) (fun h => ?_)
  · have h : (i : Int) < (m : Int) := of_decide_eq_true h
    refine drawn_ok (g.ok _ _ _) fol [0,0,3,7,0,0,48,112,255] [] 9 (by kernel_rfl) ?_
    refine Chk.mk (show (0 : Int) ≤ (i : Int) ∧ (i : Int) < (m : Int) from ⟨by omega, h⟩) (Chk.mk (show (0 : Int) ≤ (i : Int) ∧ (i : Int) < (m : Int) from ⟨by omega, h⟩) ?_)
    refine Br.mk (fun h2 => ?_) (fun h2 => ?_)
    · have h2 : (!decide (x i = y i)) = true := h2
      refine ⟨.inl rfl, end_noid ?_ rfl rfl (by repeat' (first | exact trivial | exact rfl | (intro i hi; exact ⟨rfl, rfl⟩) | refine And.intro ?_ ?_))⟩
      show false = decide _
      rw [eq_comm, decide_eq_false_iff_not, intL_eq]
      intro he
      rw [he i (by omega)] at h2
      simp at h2
    · have h2 : (!decide (x i = y i)) = false := h2
      have h2 : x i = y i := by simpa using h2
      refine Chk.mk (show InK .i64 ((i : Int) + 1) from ⟨by omega, by omega⟩) ⟨⟨i + 1, by omega, fun j hj => ?_⟩, ?_, by show m - (i + 1) < m - i; omega⟩
      · rcases Nat.lt_or_eq_of_le (show j ≤ i by omega) with h | h
        · exact hall j h
        · subst h; exact h2
      · refine ⟨?_, ?_, rfl, rfl, rfl⟩ <;> repeat' (first | exact trivial | exact rfl | (intro i hi; exact rfl) | refine And.intro ?_ ?_)
  · have h : ¬ (i : Int) < (m : Int) := of_decide_eq_false h
    refine ⟨.inl rfl, end_noid ?_ rfl rfl (by repeat' (first | exact trivial | exact rfl | (intro i hi; exact ⟨rfl, rfl⟩) | refine And.intro ?_ ?_))⟩
    show true = decide _
    rw [eq_comm, decide_eq_true_eq, intL_eq]
    exact fun j hj => hall j (by omega)
theorem g21 {l : List (Nat × Ct)} (g : Good P T l) : Good P T ((21, c21) :: l) := g.add (k21 g) c21_mono (body_of Try.func21 (c := code Try.f21) rfl (by decide))
end Go.X.Ps
end

section
set_option linter.unusedVariables false
set_option linter.unusedSimpArgs false
set_option linter.unusedSectionVars false
/- Pass: awake. -/
set_option linter.unusedVariables false
set_option linter.unusedSimpArgs false
set_option maxRecDepth 10000
set_option maxHeartbeats 4000000
namespace Go.X.Ps
open Go Go.Proofs Go.X

def smpG (i : Nat) : List SV := takeL 5 (dropL (i * 5) smpL)
theorem pps_smp : Pps 4 smpG := fun i hi => by
  rcases (show i = 0 ∨ i = 1 ∨ i = 2 ∨ i = 3 by omega) with rfl | rfl | rfl | rfl <;> rfl
def c14 : Ct := plainCt fun
  | [] => some ⟨none, none, .sb true, []⟩
  | _ => none
theorem k14 {l : List (Nat × Ct)} (g0 : Good P T l) : COk P 14 c14 := by
  have g := g41 (g21 (g15 (g17 (g19 (g22 (g24 (g26 (g29 good0))))))))
  refine cok (C := tabC _) g.ok Try.func14 (c := code Try.f14) rfl fun fr args H out h hp => ?_
  simp only [c14, plainCt] at h
  split at h
  · cases h
    refine walk_plain rfl (Nat.le_of_ble_eq_true rfl) fun G hG => ?_
    have hp4 : Pps 4 smpG ∧ 4 ≤ 1000000 := ⟨pps_smp, by decide⟩
    refine Chk.mk hp4 (Chk.mk hp4 (Chk.mk hp4 (Chk.mk hp4 (Chk.mk hp4 (Chk.mk hp4 (Chk.mk hp4 (Chk.mk hp4 ?_)))))))
    refine fb_run rfl rfl ⟨trivial, rfl, (by kernel_rfl)⟩ ?_
    refine fb_again (g.ok _ _ _) cont_std rfl ?_
    refine Chk.mk (under_of ⟨⟨ints_getI _ _, fun i hi => by rcases (show i = 0 ∨ i = 1 ∨ i = 2 by omega) with rfl | rfl | rfl <;> rfl⟩, (by
      have e : chainL 3 5 (papL 4 smpG) 2 4 = [2, 1, 0] := by kernel_rfl
      show (chainL 3 5 (papL 4 smpG) 2 4).length ≤ 1000000
      rw [e]
      decide), by decide⟩) ?_
    refine Br.mk (fun h => ?_) (fun _ => ?_)
    · exfalso
      exact absurd h (Bool.eq_false_iff.1 (by kernel_rfl))
    · refine ⟨.inl rfl, end_plain ?_ rfl rfl⟩
      show _ = true
      kernel_rfl
  · cases h
theorem g14 {l : List (Nat × Ct)} (g : Good P T l) : Good P T ((14, c14) :: l) := g.add (k14 g) (plainCt_mono _) (body_of Try.func14 (c := code Try.f14) rfl (by decide))
end Go.X.Ps
end

section
set_option linter.unusedVariables false
set_option linter.unusedSimpArgs false
set_option linter.unusedSectionVars false
/- Pass: are certificates valid (the document), and fine? -/
set_option linter.unusedVariables false
set_option linter.unusedSimpArgs false
set_option maxRecDepth 10000
set_option maxHeartbeats 4000000
namespace Go.X.Ps
open Go Go.Proofs Go.X

def c66 : Ct := fun fr args H => match args with
  | [.agg l, .agg [.si .i64 a, .si .i64 b, .si .i64 c, .si .i64 d, .si .i64 e]] => passK H l fun i1 it ag n get => some ⟨some (Pps n get ∧ 1 ≤ it ∧ it ≤ 6), none, .sb (!badV it ⟨a, b, c, d, e⟩), []⟩
  | _ => none
theorem c66_mono : CtMono c66 := by
  intro fr args H H' out hH h
  unfold c66 at h ⊢
  split at h
  · exact passK_mono hH h
  · cases h
theorem k66 {l : List (Nat × Ct)} (g0 : Good P T l) : COk P 66 c66 := by
  have g := g65 good0
  refine cok (C := tabC _) g.ok Try.func66 (c := code Try.f66) rfl fun fr args H out h hp => ?_
  unfold c66 at h
  split at h
  case h_2 => cases h
  rename_i l a b c d e
  obtain ⟨i1, it, ag, n, get, rfl, e1, h⟩ := passK_some h
  cases h
  obtain ⟨hs, h1, h6⟩ : Pps n get ∧ 1 ≤ it ∧ it ≤ 6 := hp
  have hi : InK .i64 (it - 1) := ⟨by omega, by omega⟩
  refine ⟨[(i1, .ro 5 n fun i => ppC (ppAt get i))], [.agg (paA 0 it ag), .agg [.si .i64 a, .si .i64 b, .si .i64 c, .si .i64 d, .si .i64 e]], [(0, .ro 5 n fun i => ppC (ppAt get i))], 1, [], rfl, rfl, Nat.le_of_ble_eq_true rfl, pp_hand e1 hs, rfl, rfl, fun G hG => ?_⟩
  refine Chk.mk hi (Chk.mk (under_of hi) ?_)
  refine ⟨.inl rfl, end_noid ?_ rfl rfl (by repeat' (first | exact trivial | exact rfl | (intro i hi; exact ⟨rfl, rfl⟩) | refine And.intro ?_ ?_))⟩
  show (inB a 0 (it - 1) && inB b (-1) (it - 1) && (!decide (b = a)) && inB c 0 50 && inB d 0 20 && inB e 0 10) = !badV it ⟨a, b, c, d, e⟩
  unfold badV
  simp only [Bool.not_or, Bool.not_not]
theorem g66 {l : List (Nat × Ct)} (g : Good P T l) : Good P T ((66, c66) :: l) := g.add (k66 g) c66_mono (body_of Try.func66 (c := code Try.f66) rfl (by decide))
theorem valid_all {it ag : Int} {n : Nat} {L : Nat → Pp} (h : validV it ag ((List.range n).map L) = true) : ∀ i, i < n → badV it (L i) = false := by
  intro i hi
  unfold validV at h
  simp only [Bool.and_eq_true, Bool.not_eq_true', List.any_eq_false, List.mem_map, List.mem_range] at h
  have := h.2.2.2 (L i) ⟨i, hi, rfl⟩
  simpa using this
theorem valid_iff {it ag : Int} {n : Nat} {L : Nat → Pp} (h1 : inB it 1 6 = true) (h2 : inB ag 0 20 = true) (h3 : n ≤ 8) (h4 : ∀ i, i < n → badV it (L i) = false) : validV it ag ((List.range n).map L) = true := by
  unfold validV
  rw [h1, h2]
  simp only [Bool.true_and, Bool.and_eq_true, decide_eq_true_eq, List.length_map, List.length_range, Bool.not_eq_true', List.any_eq_false, List.mem_map, List.mem_range]
  refine ⟨h3, ?_⟩
  rintro x ⟨i, hi, rfl⟩
  rw [h4 i hi]
  decide
theorem k28 {l : List (Nat × Ct)} (g0 : Good P T l) : COk P 28 c59 := by
  have g := g66 (g65 good0)
  refine cok (C := tabC _) g.ok Try.func28 (c := code Try.f28) rfl fun fr args H out h hp => ?_
  unfold c59 at h
  split at h
  case h_2 => cases h
  rename_i l
  obtain ⟨i1, it, ag, n, get, rfl, e1, h⟩ := passK_some h
  cases h
  obtain ⟨hs, hn⟩ : Pps n get ∧ n ≤ 1000000 := hp
  refine ⟨[(i1, .ro 5 n fun i => ppC (ppAt get i))], [.agg (paA 0 it ag)], [(0, .ro 5 n fun i => ppC (ppAt get i))], 1, [], rfl, rfl, Nat.le_of_ble_eq_true rfl, pp_hand e1 hs, rfl, rfl, fun G hG => ?_⟩
  unfold papL
  generalize ppAt get = L
  refine Br.mk (fun h => ?_) (fun h => ?_)
  · have h : (!inB it 1 6 || !inB ag 0 20 || decide ((8 : Int) < (n : Int))) = true := h
    refine ⟨.inl rfl, end_noid ?_ rfl rfl (by repeat' (first | exact trivial | exact rfl | (intro i hi; exact ⟨rfl, rfl⟩) | refine And.intro ?_ ?_))⟩
    show false = validV it ag ((List.range n).map L)
    cases hv : validV it ag ((List.range n).map L) with
    | false => rfl
    | true =>
      exfalso
      unfold validV at hv
      simp only [Bool.and_eq_true, decide_eq_true_eq, List.length_map, List.length_range] at hv
      rw [hv.1, hv.2.1] at h
      simp at h
      omega
  have h : (!inB it 1 6 || !inB ag 0 20 || decide ((8 : Int) < (n : Int))) = false := h
  simp only [Bool.or_eq_false_iff, Bool.not_eq_false', decide_eq_false_iff_not] at h
  obtain ⟨⟨h1, h2⟩, h3⟩ := h
  have hit : 1 ≤ it ∧ it ≤ 6 := by simpa only [inB, Bool.and_eq_true, decide_eq_true_eq] using h1
  refine loop_ok (g.ok _ _ _) (fun z : {i : Nat // i ≤ n ∧ ∀ j, j < i → badV it (L j) = false} => ⟨[(1, ⟨[], .sp 1 0⟩), (3, ⟨[], .si .i64 z.1⟩)], [], [(1, .cells 24 (paA 0 it ag)), (0, .ro 5 n fun i => ppC (L i))], 2, []⟩)
    (fun z => n - z.1) (fun _ j hj => hG j (Nat.le_trans (show 1 ≤ 2 by decide) hj)) ⟨0, Nat.zero_le _, fun j hj => by omega⟩ ?_ ?_
  · refine ⟨?_, ?_, rfl, rfl, rfl⟩ <;> repeat' (first | exact trivial | exact rfl | (intro i hi; exact rfl) | refine And.intro ?_ ?_)
  rintro ⟨i, hi, hall⟩
  refine Br.mk (fun h => ?_) (fun h => ?_)
  · have h : (i : Int) < (n : Int) := of_decide_eq_true h
    refine drawn_ok (g.ok _ _ _) fol [0,0,2,0,14,30,63,127] [] 8 (by kernel_rfl) ?_
    refine Chk.mk (show (0 : Int) ≤ (i : Int) ∧ (i : Int) < (n : Int) from ⟨by omega, h⟩) (Chk.mk ⟨pps_i _ _, hit⟩ ?_)
    refine Br.mk (fun h2 => ?_) (fun h2 => ?_)
    · have h2 : (!!badV it (L i)) = true := h2
      refine ⟨.inl rfl, end_noid ?_ rfl rfl (by repeat' (first | exact trivial | exact rfl | (intro i hi; exact ⟨rfl, rfl⟩) | refine And.intro ?_ ?_))⟩
      show false = validV it ag ((List.range n).map L)
      cases hv : validV it ag ((List.range n).map L) with
      | false => rfl
      | true =>
        rw [valid_all hv i (by omega)] at h2
        cases h2
    · have h2 : (!!badV it (L i)) = false := h2
      rw [Bool.not_not] at h2
      refine Chk.mk (show InK .i64 ((i : Int) + 1) from ⟨by omega, by omega⟩) ⟨⟨i + 1, by omega, fun j hj => ?_⟩, ?_, by show n - (i + 1) < n - i; omega⟩
      · rcases Nat.lt_or_eq_of_le (show j ≤ i by omega) with h | h
        · exact hall j h
        · subst h; exact h2
      · refine ⟨?_, ?_, rfl, rfl, rfl⟩ <;> repeat' (first | exact trivial | exact rfl | (intro i hi; exact rfl) | refine And.intro ?_ ?_)
  · have h : ¬ (i : Int) < (n : Int) := of_decide_eq_false h
    refine ⟨.inl rfl, end_noid ?_ rfl rfl (by repeat' (first | exact trivial | exact rfl | (intro i hi; exact ⟨rfl, rfl⟩) | refine And.intro ?_ ?_))⟩
    exact (valid_iff h1 h2 (by omega) fun j hj => hall j (by omega)).symm
theorem g28 {l : List (Nat × Ct)} (g : Good P T l) : Good P T ((28, c59) :: l) := g.add (k28 g) c59_mono (body_of Try.func28 (c := code Try.f28) rfl (by decide))
def c33 : Ct := fun fr args H => match args with
  | [.agg l] => passK H l fun i1 it ag n get => some ⟨some (Pps n get), none, .sb (validV it ag (papL n get)), []⟩
  | _ => none
theorem c33_mono : CtMono c33 := by
  intro fr args H H' out hH h
  unfold c33 at h ⊢
  split at h
  · exact passK_mono hH h
  · cases h
theorem k33 {l : List (Nat × Ct)} (g0 : Good P T l) : COk P 33 c33 := by
  have g := g28 (g13 good0)
  refine cok (C := tabC _) g.ok Try.func33 (c := code Try.f33) rfl fun fr args H out h hp => ?_
  unfold c33 at h
  split at h
  case h_2 => cases h
  rename_i l
  obtain ⟨i1, it, ag, n, get, rfl, e1, h⟩ := passK_some h
  cases h
  have hs : Pps n get := hp
  refine ⟨[(i1, .ro 5 n fun i => ppC (ppAt get i))], [.agg (paA 0 it ag)], [(0, .ro 5 n fun i => ppC (ppAt get i))], 1, [], rfl, rfl, Nat.le_of_ble_eq_true rfl, pp_hand e1 hs, rfl, rfl, fun G hG => ?_⟩
  unfold papL
  generalize ppAt get = L
  refine Chk.mk (pps_i _ _) (Chk.mk (fun h => ?_) ?_)
  · have h : (!decide ((40 : Int) < (n : Int))) = true := h
    simp at h
    exact ⟨pps_i _ _, by omega⟩
  refine ⟨.inl rfl, end_noid ?_ rfl rfl (by repeat' (first | exact trivial | exact rfl | (intro i hi; exact ⟨rfl, rfl⟩) | refine And.intro ?_ ?_))⟩
  show (!decide ((40 : Int) < (n : Int)) && validV it ag ((List.range n).map L)) = validV it ag ((List.range n).map L)
  cases hv : validV it ag ((List.range n).map L) with
  | false => simp
  | true =>
    have := (valid_ok hv).2.2
    simp
    omega
theorem g33 {l : List (Nat × Ct)} (g : Good P T l) : Good P T ((33, c33) :: l) := g.add (k33 g) c33_mono (body_of Try.func33 (c := code Try.f33) rfl (by decide))
end Go.X.Ps
end
