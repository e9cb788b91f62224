/- Contracts of functions of the document: small ones, those of one block, and all truths. -/
import Derived.Test.YtafggknckgmkaaaNP
import Derived.Test.YtafggknckgmkaaaMH
import Derived.Test.YtafggknckgmkaaaNB

section
set_option linter.unusedVariables false
set_option linter.unusedSimpArgs false
set_option linter.unusedSectionVars false
/- Grade: the document's small functions. -/
set_option linter.unusedVariables false
set_option linter.unusedSimpArgs false
set_option maxRecDepth 10000
set_option maxHeartbeats 2000000
namespace Go.X.Gr
open Go Go.Proofs Go.X

/-! ### apart, next -/
def apV (a b : Int) : Int := max (a - b) (b - a)
def c93 : Ct := plainCt fun
  | [.si .i64 a, .si .i64 b] => some ⟨some (InK .i64 (a - b) ∧ InK .i64 (b - a)), none, .si .i64 (apV a b), []⟩
  | _ => none
theorem k93 {l : List (Nat × Ct)} (g : Good P T l) : COk P 93 c93 := by
  refine cok (C := tabC _) g.ok Try.func93 (c := code Try.f93) rfl fun fr args H out h hp => ?_
  simp only [c93, plainCt] at h
  split at h
  · rename_i a b
    cases h
    obtain ⟨h1, h2⟩ : InK .i64 (a - b) ∧ InK .i64 (b - a) := hp
    refine walk_plain rfl (Nat.le_of_ble_eq_true rfl) fun G hG => ?_
    exact Chk.mk h1 (Chk.mk h2 ⟨.inl rfl, end_plain ⟨rfl, rfl⟩ rfl rfl⟩)
  · cases h
theorem g93 {l : List (Nat × Ct)} (g : Good P T l) : Good P T ((93, c93) :: l) := g.add (k93 g) (plainCt_mono _) (body_of Try.func93 (c := code Try.f93) rfl (by decide))
def nxV (a b : Int) : Bool := !decide (a = b) && (decide (a = 0) || decide (b = 0) || decide ((a - b + 4).tmod 4 = 1) || decide ((b - a + 4).tmod 4 = 1))
def c105 : Ct := plainCt fun
  | [.si .i64 a, .si .i64 b] => some ⟨some ((0 ≤ a ∧ a ≤ 4) ∧ 0 ≤ b ∧ b ≤ 4), none, .sb (nxV a b), []⟩
  | _ => none
theorem k105 {l : List (Nat × Ct)} (g : Good P T l) : COk P 105 c105 := by
  refine cok (C := tabC _) g.ok Try.func105 (c := code Try.f105) rfl fun fr args H out h hp => ?_
  simp only [c105, plainCt] at h
  split at h
  · rename_i a b
    cases h
    obtain ⟨⟨h1, h2⟩, h3, h4⟩ : (0 ≤ a ∧ a ≤ 4) ∧ 0 ≤ b ∧ b ≤ 4 := hp
    refine walk_plain rfl (Nat.le_of_ble_eq_true rfl) fun G hG => ?_
    refine Br.mk (fun h => ?_) (fun h => ?_)
    · have h : decide (a = b) = true := h
      exact ⟨.inl rfl, end_plain (by rw [nxV, h]; rfl) rfl rfl⟩
    · have h : decide (a = b) = false := h
      refine Chk.mk (under_of (show InK .i64 (a - b) from ⟨by omega, by omega⟩)) (Chk.mk (under_of (show InK .i64 (a - b + 4) from ⟨by omega, by omega⟩)) (Chk.mk (under_of (show (4 : Int) ≠ 0 from by decide)) ?_))
      refine Chk.mk (under_of (show InK .i64 (b - a) from ⟨by omega, by omega⟩)) (Chk.mk (under_of (show InK .i64 (b - a + 4) from ⟨by omega, by omega⟩)) (Chk.mk (under_of (show (4 : Int) ≠ 0 from by decide)) ?_))
      refine ⟨.inl rfl, end_plain ?_ rfl rfl⟩
      rw [nxV, h, Bool.not_false, Bool.true_and]
      rfl
  · cases h
theorem g105 {l : List (Nat × Ct)} (g : Good P T l) : Good P T ((105, c105) :: l) := g.add (k105 g) (plainCt_mono _) (body_of Try.func105 (c := code Try.f105) rfl (by decide))

/-! ### power, Has -/
def c97 : Ct := plainCt fun
  | [.si .i64 n] => some ⟨some (0 ≤ n ∧ n ≤ 40), none, .si .i64 ((2 ^ n.toNat : Nat) : Int), []⟩
  | _ => none
theorem pow_le40 {n : Nat} (h : n ≤ 40) : 2 ^ n ≤ 1099511627776 := by
  have : 2 ^ n ≤ 2 ^ 40 := Nat.pow_le_pow_right (by decide) h
  simpa using this
theorem k97 {l : List (Nat × Ct)} (g : Good P T l) : COk P 97 c97 := by
  refine cok (C := tabC _) g.ok Try.func97 (c := code Try.f97) rfl fun fr args H out h hp => ?_
  simp only [c97, plainCt] at h
  split at h
  · rename_i n
    cases h
    obtain ⟨h1, h2⟩ : 0 ≤ n ∧ n ≤ 40 := hp
    obtain ⟨m, rfl⟩ : ∃ m : Nat, n = (m : Int) := ⟨n.toNat, by omega⟩
    refine walk_plain rfl (Nat.le_of_ble_eq_true rfl) fun G hG => ?_
    refine loop_ok (g.ok _ _ _) (fun i : {i : Nat // i ≤ m} => ⟨[(0, ⟨[], .si .i64 m⟩), (3, ⟨[], .si .i64 ((2 ^ i.1 : Nat) : Int)⟩), (4, ⟨[], .si .i64 i.1⟩)], [], [], 0, []⟩) (fun i => m - i.1) (fun _ => hG) ⟨0, Nat.zero_le _⟩ ?_ ?_
    · refine ⟨?_, ?_, rfl, rfl, rfl⟩ <;> repeat' (first | exact trivial | exact rfl | refine And.intro ?_ ?_)
    · rintro ⟨i, hi⟩
      have hp := pow_le40 (n := i) (by omega)
      refine Br.mk (fun h => ?_) (fun h => ?_)
      · have h : (i : Int) < (m : Int) := of_decide_eq_true h
        have hz1 : (0 : Int) ≤ ((2 ^ i : Nat) : Int) := Int.natCast_nonneg _
        have hz2 : ((2 ^ i : Nat) : Int) ≤ 1099511627776 := Int.ofNat_le.2 hp
        refine Chk.mk (show _ ∧ _ from ⟨?_, ?_⟩) (Chk.mk (show InK .i64 ((i : Int) + 1) from ⟨by omega, by omega⟩) ⟨⟨i + 1, by omega⟩, ?_, by show m - (i + 1) < m - i; omega⟩)
        · show _ ≤ (2 : Int) * ((2 ^ i : Nat) : Int); generalize ((2 ^ i : Nat) : Int) = z at hz1 hz2 ⊢; omega
        · show (2 : Int) * ((2 ^ i : Nat) : Int) ≤ _; generalize ((2 ^ i : Nat) : Int) = z at hz1 hz2 ⊢; omega
        · refine ⟨?_, ?_, rfl, rfl, rfl⟩ <;> repeat' (first | exact trivial | exact rfl | refine And.intro ?_ ?_)
          show (2 : Int) * ((2 ^ i : Nat) : Int) = ((2 ^ (i + 1) : Nat) : Int)
          rw [Nat.pow_succ]; omega
      · have h : ¬ (i : Int) < (m : Int) := of_decide_eq_false h
        obtain rfl : i = m := by omega
        exact ⟨.inl rfl, end_plain ⟨rfl, rfl⟩ rfl rfl⟩
  · cases h
theorem g97 {l : List (Nat × Ct)} (g : Good P T l) : Good P T ((97, c97) :: l) := g.add (k97 g) (plainCt_mono _) (body_of Try.func97 (c := code Try.f97) rfl (by decide))
def hasV (s n : Nat) : Bool := decide (s / 2 ^ n % 2 = 1)
def c96 : Ct := plainCt fun
  | [.si .i64 s, .si .i64 n] => some ⟨some ((0 ≤ s ∧ s < 4611686018427387904) ∧ 0 ≤ n ∧ n ≤ 40), none, .sb (hasV s.toNat n.toNat), []⟩
  | _ => none
theorem k96 {l : List (Nat × Ct)} (g0 : Good P T l) : COk P 96 c96 := by
  have g := g97 good0
  refine cok (C := tabC _) g.ok Try.func96 (c := code Try.f96) rfl fun fr args H out h hp => ?_
  simp only [c96, plainCt] at h
  split at h
  · rename_i s n
    cases h
    obtain ⟨⟨h1, h2⟩, h3, h4⟩ : (0 ≤ s ∧ s < 4611686018427387904) ∧ 0 ≤ n ∧ n ≤ 40 := hp
    obtain ⟨m, rfl⟩ : ∃ m : Nat, n = (m : Int) := ⟨n.toNat, by omega⟩
    obtain ⟨q, rfl⟩ : ∃ q : Nat, s = (q : Int) := ⟨s.toNat, by omega⟩
    refine walk_plain rfl (Nat.le_of_ble_eq_true rfl) fun G hG => ?_
    have hpw := pow_le40 (n := m) (by omega)
    have hpos : 0 < 2 ^ m := Nat.pow_pos (by decide)
    have e1 : ((q : Int)).tdiv ((2 ^ m : Nat) : Int) = ((q / 2 ^ m : Nat) : Int) := by
      rw [Int.tdiv_eq_ediv_of_nonneg (by omega)]; exact (Int.natCast_ediv _ _).symm
    have hle : q / 2 ^ m ≤ q := Nat.div_le_self _ _
    refine Chk.mk (show (0 : Int) ≤ (m : Int) ∧ (m : Int) ≤ 40 from ⟨h3, h4⟩) ?_
    refine Chk.mk (show ((2 ^ m : Nat) : Int) ≠ 0 ∧ InK .i64 _ from ⟨by omega, ?_⟩) ?_
    · show InK .i64 (((q : Int)).tdiv ((2 ^ m : Nat) : Int))
      rw [e1]
      generalize q / 2 ^ m = d at hle ⊢
      exact ⟨by omega, by omega⟩
    refine Chk.mk (show (2 : Int) ≠ 0 from by decide) ?_
    refine ⟨.inl rfl, end_plain ?_ rfl rfl⟩
    show decide ((((q : Int)).tdiv ((2 ^ m : Nat) : Int)).tmod 2 = 1) = hasV q m
    rw [e1, hasV]
    generalize q / 2 ^ m = d
    rw [Int.tmod_eq_emod_of_nonneg (by omega)]
    apply decide_eq_decide.2
    omega
  · cases h
theorem g96 {l : List (Nat × Ct)} (g : Good P T l) : Good P T ((96, c96) :: l) := g.add (k96 g) (plainCt_mono _) (body_of Try.func96 (c := code Try.f96) rfl (by decide))

/-! ### Number, check -/
def c66 : Ct := fun fr args H => match args with
  | [.agg l, .si .i64 q] => gradeK H l fun i1 g n get => some ⟨some (Lims n get ∧ n ≤ 1000000), none, .sb (isG (limsL n get) q), []⟩
  | _ => none
theorem c66_mono : CtMono c66 := by
  intro fr args H H' out hH h
  unfold c66 at h ⊢
  split at h
  · exact gradeK_mono hH h
  · cases h
theorem k66 {l : List (Nat × Ct)} (g0 : Good P T l) : COk P 66 c66 := by
  have g := g90 good0
  refine cok (C := tabC _) g.ok Try.func66 (c := code Try.f66) rfl fun fr args H out h hp => ?_
  unfold c66 at h
  split at h
  case h_2 => cases h
  rename_i l q
  obtain ⟨i1, p, n, get, rfl, e1, h⟩ := gradeK_some h
  cases h
  obtain ⟨hs, hn⟩ : Lims n get ∧ n ≤ 1000000 := hp
  have hh : Hand H [(i1, .ro 2 n fun i => liC (liAt get i))] := hand_one e1 (fun i => rfl) (fun i hi => (hs i hi).symm)
  refine ⟨[(i1, .ro 2 n fun i => liC (liAt get i))], [.agg (grA 0 p), .si .i64 q], [(0, .ro 2 n fun i => liC (liAt get i))], 1, [], rfl, rfl, Nat.le_of_ble_eq_true rfl, hh, rfl, rfl, fun G hG => ?_⟩
  refine Chk.mk (show InK .i64 ((n : Int) - 1) from ⟨by omega, by omega⟩) ?_
  refine ⟨.inl rfl, end_noid ?_ rfl rfl (by repeat' (first | exact trivial | exact rfl | (intro i hi; exact ⟨rfl, rfl⟩) | refine And.intro ?_ ?_))⟩
  show inB q 0 ((n : Int) - 1) = inB q 0 (((limsL n get).length : Int) - 1)
  rw [limsL, List.length_map, List.length_range]
theorem g66 {l : List (Nat × Ct)} (g : Good P T l) : Good P T ((66, c66) :: l) := g.add (k66 g) c66_mono (body_of Try.func66 (c := code Try.f66) rfl (by decide))
def c86 : Ct := fun fr args H => match args with
  | [.agg l, .sb q] => gradeK H l fun i1 g n get => some ⟨some (Lims n get ∧ n ≤ 1000000), none, .si .i64 (errG g (limsL n get) q), []⟩
  | _ => none
theorem c86_mono : CtMono c86 := by
  intro fr args H H' out hH h
  unfold c86 at h ⊢
  split at h
  · exact gradeK_mono hH h
  · cases h
theorem k86 {l : List (Nat × Ct)} (g0 : Good P T l) : COk P 86 c86 := by
  have g := g40 good0
  refine cok (C := tabC _) g.ok Try.func86 (c := code Try.f86) rfl fun fr args H out h hp => ?_
  unfold c86 at h
  split at h
  case h_2 => cases h
  rename_i l q
  obtain ⟨i1, p, n, get, rfl, e1, h⟩ := gradeK_some h
  cases h
  obtain ⟨hs, hn⟩ : Lims n get ∧ n ≤ 1000000 := hp
  have hh : Hand H [(i1, .ro 2 n fun i => liC (liAt get i))] := hand_one e1 (fun i => rfl) (fun i hi => (hs i hi).symm)
  refine ⟨[(i1, .ro 2 n fun i => liC (liAt get i))], [.agg (grA 0 p), .sb q], [(0, .ro 2 n fun i => liC (liAt get i))], 1, [], rfl, rfl, Nat.le_of_ble_eq_true rfl, hh, rfl, rfl, fun G hG => ?_⟩
  refine Chk.mk (show Lims n (fun i => liC (liAt get i)) ∧ n ≤ 1000000 from ⟨fun i hi => rfl, hn⟩) ?_
  have hE : limsL n (fun i => liC (liAt get i)) = limsL n get := rfl
  refine Br.mk (fun h => ?_) (fun h => ?_)
  · have h : (!gradeOk p (limsL n get)) = true := h
    have h : gradeOk p (limsL n get) = false := by simpa using h
    refine ⟨.inl rfl, end_noid ?_ rfl rfl (by repeat' (first | exact trivial | exact rfl | (intro i hi; exact ⟨rfl, rfl⟩) | refine And.intro ?_ ?_))⟩
    rw [errG, h]; exact ⟨rfl, rfl⟩
  have h : (!gradeOk p (limsL n get)) = false := h
  have h : gradeOk p (limsL n get) = true := by simpa using h
  refine Br.mk (fun h2 => ?_) (fun h2 => ?_)
  · have h2 : (!q) = true := h2
    have h2 : q = false := by simpa using h2
    refine ⟨.inl rfl, end_noid ?_ rfl rfl (by repeat' (first | exact trivial | exact rfl | (intro i hi; exact ⟨rfl, rfl⟩) | refine And.intro ?_ ?_))⟩
    rw [errG, if_pos h, h2]; exact ⟨rfl, rfl⟩
  · have h2 : (!q) = false := h2
    have h2 : q = true := by simpa using h2
    refine ⟨.inl rfl, end_noid ?_ rfl rfl (by repeat' (first | exact trivial | exact rfl | (intro i hi; exact ⟨rfl, rfl⟩) | refine And.intro ?_ ?_))⟩
    rw [errG, if_pos h, h2]; exact ⟨rfl, rfl⟩
theorem g86 {l : List (Nat × Ct)} (g : Good P T l) : Good P T ((86, c86) :: l) := g.add (k86 g) c86_mono (body_of Try.func86 (c := code Try.f86) rfl (by decide))
end Go.X.Gr
end

section
set_option linter.unusedVariables false
set_option linter.unusedSimpArgs false
set_option linter.unusedSectionVars false
/- Grade: the document's functions of one block. -/
set_option linter.unusedVariables false
set_option linter.unusedSimpArgs false
set_option maxRecDepth 10000
set_option maxHeartbeats 4000000
namespace Go.X.Gr
open Go Go.Proofs Go.X

/-- A number out of cells. -/
def iAt (get : Nat → List SV) (i : Nat) : Int := match get i with
  | [.si .i64 z] => z
  | _ => 0
def iC (z : Int) : List SV := [.si .i64 z]
def Ints (n : Nat) (get : Nat → List SV) : Prop := ∀ i, i < n → get i = iC (iAt get i) ∧ sm (iAt get i)
theorem ints_hand {H : LH} {id n : Nat} {get : Nat → List SV} (h : sliceOf 1 H id = some (n, get)) (hi : Ints n get) : Hand H [(id, .ro 1 n fun i => iC (iAt get i))] :=
  hand_one h (fun i => rfl) (fun i hin => (hi i hin).1.symm)
def oneK (args : List SV) (H : LH) (K : (n : Nat) → (Nat → List SV) → Option COut) : Option COut := match args with
  | [.sl i] => (match sliceOf 1 H i with
    | some (n, get) => K n get
    | none => none)
  | _ => none
theorem oneK_some {args : List SV} {H : LH} {K : (n : Nat) → (Nat → List SV) → Option COut} {out : COut} (h : oneK args H K = some out) : ∃ i n get, args = [.sl i] ∧ sliceOf 1 H i = some (n, get) ∧ K n get = some out := by
  unfold oneK at h
  split at h
  · split at h
    · rename_i e; exact ⟨_, _, _, rfl, e, h⟩
    · cases h
  · cases h
theorem oneK_mono {H H' : LH} {args : List SV} {K : (n : Nat) → (Nat → List SV) → Option COut} {out : COut} (hH : ∀ id hb, H id = some hb → H' id = some hb) (h : oneK args H K = some out) : oneK args H' K = some out := by
  obtain ⟨i, n, get, rfl, e, h⟩ := oneK_some h
  simp only [oneK, sliceOf_mono hH e]
  exact h

/-! ### fits -/
def fitV (f : Nat → Int) (n : Nat) (st : Int) : Bool := (List.range n).all fun i => !(nxV i n && decide (apV (f i) (f n) > st))
def c104 : Ct := fun fr args H => match args with
  | [.sl i, .si .i64 st] => (match sliceOf 1 H i with
    | some (n, get) => some ⟨some (Ints n get ∧ 1 ≤ n ∧ n ≤ 5), none, .sb (fitV (iAt get) (n - 1) st), []⟩
    | none => none)
  | _ => none
theorem c104_mono : CtMono c104 := by
  intro fr args H H' out hH h
  unfold c104 at h ⊢
  split at h
  · split at h
    · rename_i e
      simp only [sliceOf_mono hH e]
      exact h
    · cases h
  · cases h
theorem all_last {p : Nat → Bool} {n i : Nat} (hi : i < n) (h : p i = false) : (List.range n).all p = false := by
  cases e : (List.range n).all p with
  | false => rfl
  | true => rw [List.all_eq_true] at e; rw [e i (List.mem_range.2 hi)] at h; cases h
theorem k104 {l : List (Nat × Ct)} (g0 : Good P T l) : COk P 104 c104 := by
  have g := g93 (g105 good0)
  refine cok (C := tabC _) g.ok Try.func104 (c := code Try.f104) rfl fun fr args H out h hp => ?_
  unfold c104 at h
  split at h
  case h_2 => cases h
  rename_i id st
  split at h
  case h_2 => cases h
  rename_i n get e1
  cases h
  obtain ⟨hs, hn1, hn5⟩ : Ints n get ∧ 1 ≤ n ∧ n ≤ 5 := hp
  have hsm : ∀ i, i < n → sm (iAt get i) := fun i hi => (hs i hi).2
  refine ⟨[(id, .ro 1 n fun i => iC (iAt get i))], [.sl 0, .si .i64 st], [(0, .ro 1 n fun i => iC (iAt get i))], 1, [], rfl, rfl, Nat.le_of_ble_eq_true rfl, ints_hand e1 hs, rfl, rfl, fun G hG => ?_⟩
  clear hs
  generalize iAt get = f at hsm ⊢
  refine Chk.mk (show InK .i64 ((n : Int) - 1) from ⟨by omega, by omega⟩) ?_
  refine loop_okR (g.ok _ _ _) 1 (fun x : {i : Nat // i ≤ n - 1 ∧ ∀ j, j < i → (!(nxV j (n - 1 : Nat) && decide (apV (f j) (f (n - 1)) > st))) = true} => ⟨[(0, ⟨[], .sl 0⟩), (1, ⟨[], .si .i64 st⟩), (5, ⟨[], .si .i64 (n - 1 : Nat)⟩), (6, ⟨[], .si .i64 x.1⟩)], [], [(0, .ro 1 n fun i => iC (f i))], 1, []⟩) (fun x => n - 1 - x.1) hG
    ⟨0, Nat.zero_le _, fun j hj => absurd hj (Nat.not_lt_zero _)⟩ (fun j => j) ?_ ?_
  · refine ⟨?_, ?_, rfl, rfl, rfl, rfl, trivial⟩ <;> repeat' (first | exact trivial | exact rfl | (intro i hi; exact ⟨rfl, rfl⟩) | refine And.intro ?_ ?_)
    show (n : Int) - 1 = ((n - 1 : Nat) : Int)
    omega
  rintro ⟨i, hi, hall⟩
  refine Br.mk (fun h => ?_) (fun h => ?_)
  · have h : (i : Int) < ((n - 1 : Nat) : Int) := of_decide_eq_true h
    have s1 := hsm i (by omega)
    have s2 := hsm (n - 1) (by omega)
    unfold sm at s1 s2
    refine drawn_ok (g.ok _ _ _) fol [0,0,3,7,15,15,63,127,15,15,783,1807,4095,15,16383,32767] [] 16 (by kernel_rfl) ?_
    refine Chk.mk (show (0 ≤ (i : Int) ∧ (i : Int) ≤ 4) ∧ 0 ≤ ((n - 1 : Nat) : Int) ∧ ((n - 1 : Nat) : Int) ≤ 4 from ⟨⟨by omega, by omega⟩, by omega, by omega⟩) ?_
    refine Chk.mk (under_of (show 0 ≤ (i : Int) ∧ (i : Int) < (n : Int) from ⟨by omega, by omega⟩)) (Chk.mk (under_of (show 0 ≤ ((n - 1 : Nat) : Int) ∧ ((n - 1 : Nat) : Int) < (n : Int) from ⟨by omega, by omega⟩)) ?_)
    have e1 : ((i : Int)).toNat = i := Int.toNat_natCast i
    have e2 : (((n - 1 : Nat) : Int)).toNat = n - 1 := Int.toNat_natCast _
    refine Chk.mk (under_of (show InK .i64 (f i - f (n - 1)) ∧ InK .i64 (f (n - 1) - f i) from ⟨⟨by omega, by omega⟩, by omega, by omega⟩)) ?_
    refine Br.mk (fun h2 => ?_) (fun h2 => ?_)
    · have h2 : (nxV i (n - 1 : Nat) && decide (apV (f i) (f (n - 1)) > st)) = true := h2
      refine ⟨.inl rfl, end_noid ?_ rfl rfl (by repeat' (first | exact trivial | exact rfl | (intro i hi; exact ⟨rfl, rfl⟩) | refine And.intro ?_ ?_))⟩
      show false = fitV f (n - 1) st
      exact (all_last (i := i) (by omega) (by rw [h2]; rfl)).symm
    · have h2 : (nxV i (n - 1 : Nat) && decide (apV (f i) (f (n - 1)) > st)) = false := h2
      refine Chk.mk (show InK .i64 ((i : Int) + 1) from ⟨by omega, by omega⟩) ⟨⟨i + 1, by omega, fun j hj => ?_⟩, (fun j => j), ?_, by show n - 1 - (i + 1) < n - 1 - i; omega⟩
      · by_cases hji : j = i
        · subst hji; rw [h2]; rfl
        · exact hall j (by omega)
      · refine ⟨?_, ?_, rfl, rfl, rfl, rfl, trivial⟩ <;> repeat' (first | exact trivial | exact rfl | (intro i hi; exact ⟨rfl, rfl⟩) | refine And.intro ?_ ?_)
  · have h : ¬ (i : Int) < ((n - 1 : Nat) : Int) := of_decide_eq_false h
    refine ⟨.inl rfl, end_noid ?_ rfl rfl (by repeat' (first | exact trivial | exact rfl | (intro i hi; exact ⟨rfl, rfl⟩) | refine And.intro ?_ ?_))⟩
    show true = fitV f (n - 1) st
    refine (List.all_eq_true.2 fun j hj => ?_).symm
    have := List.mem_range.1 hj
    exact hall j (by omega)
theorem g104 {l : List (Nat × Ct)} (g : Good P T l) : Good P T ((104, c104) :: l) := g.add (k104 g) c104_mono (body_of Try.func104 (c := code Try.f104) rfl (by decide))

/-! ### Off, Varies -/
def offD (f : Nat → Int) : Nat → Int
  | 0 => 0
  | n + 1 => max (offD f n) (apV (f n) 0)
def c59 : Ct := fun fr args H => oneK args H fun n get => some ⟨some (Ints n get ∧ n ≤ 1000), none, .si .i64 (offD (iAt get) n), []⟩
theorem k59 {l : List (Nat × Ct)} (g0 : Good P T l) : COk P 59 c59 := by
  have g := g93 good0
  refine cok (C := tabC _) g.ok Try.func59 (c := code Try.f59) rfl fun fr args H out h hp => ?_
  obtain ⟨id, n, get, rfl, e1, h⟩ := oneK_some h
  cases h
  obtain ⟨hs, hn⟩ : Ints n get ∧ n ≤ 1000 := hp
  have hsm : ∀ i, i < n → sm (iAt get i) := fun i hi => (hs i hi).2
  refine ⟨[(id, .ro 1 n fun i => iC (iAt get i))], [.sl 0], [(0, .ro 1 n fun i => iC (iAt get i))], 1, [], rfl, rfl, Nat.le_of_ble_eq_true rfl, ints_hand e1 hs, rfl, rfl, fun G hG => ?_⟩
  clear hs
  generalize iAt get = f at hsm ⊢
  refine loop_okR (g.ok _ _ _) 1 (fun x : {i : Nat // i ≤ n} => ⟨[(0, ⟨[], .sl 0⟩), (3, ⟨[], .si .i64 (offD f x.1)⟩), (4, ⟨[], .si .i64 x.1⟩)], [], [(0, .ro 1 n fun i => iC (f i))], 1, []⟩) (fun x => n - x.1) hG ⟨0, Nat.zero_le _⟩ (fun j => j) ?_ ?_
  · refine ⟨?_, ?_, rfl, rfl, rfl, rfl, trivial⟩ <;> repeat' (first | exact trivial | exact rfl | (intro i hi; exact ⟨rfl, rfl⟩) | refine And.intro ?_ ?_)
  rintro ⟨i, hi⟩
  refine Br.mk (fun h => ?_) (fun h => ?_)
  · have h : (i : Int) < (n : Int) := of_decide_eq_true h
    have s1 := hsm i (by omega)
    unfold sm at s1
    refine Chk.mk (show 0 ≤ (i : Int) ∧ (i : Int) < (n : Int) from ⟨by omega, by omega⟩) ?_
    refine Chk.mk (show InK .i64 (f i - 0) ∧ InK .i64 (0 - f i) from ⟨⟨by omega, by omega⟩, by omega, by omega⟩) ?_
    refine Chk.mk (show InK .i64 ((i : Int) + 1) from ⟨by omega, by omega⟩) ⟨⟨i + 1, by omega⟩, (fun j => j), ?_, by show n - (i + 1) < n - i; omega⟩
    refine ⟨?_, ?_, rfl, rfl, rfl, rfl, trivial⟩ <;> repeat' (first | exact trivial | exact rfl | (intro i hi; exact ⟨rfl, rfl⟩) | refine And.intro ?_ ?_)
  · have h : ¬ (i : Int) < (n : Int) := of_decide_eq_false h
    obtain rfl : i = n := by omega
    exact ⟨.inl rfl, end_noid ⟨rfl, rfl⟩ rfl rfl (by repeat' (first | exact trivial | exact rfl | (intro i hi; exact ⟨rfl, rfl⟩) | refine And.intro ?_ ?_))⟩
theorem g59 {l : List (Nat × Ct)} (g : Good P T l) : Good P T ((59, c59) :: l) := g.add (k59 g) (fun fr args H H' out hH h => oneK_mono hH h) (body_of Try.func59 (c := code Try.f59) rfl (by decide))
/-- The greatest difference from one point, and from all before. -/
def vrO (f : Nat → Int) (o x : Int) : Nat → Int
  | 0 => o
  | k + 1 => max (vrO f o x k) (x - f k)
def vrD (f : Nat → Int) (n : Nat) : Nat → Int
  | 0 => 0
  | i + 1 => vrO f (vrD f n i) (f i) n
def c56 : Ct := fun fr args H => oneK args H fun n get => some ⟨some (Ints n get ∧ n ≤ 1000), none, .si .i64 (vrD (iAt get) n n), []⟩
theorem k56 {l : List (Nat × Ct)} (g0 : Good P T l) : COk P 56 c56 := by
  have g := good0
  refine cok (C := tabC _) g.ok Try.func56 (c := code Try.f56) rfl fun fr args H out h hp => ?_
  obtain ⟨id, n, get, rfl, e1, h⟩ := oneK_some h
  cases h
  obtain ⟨hs, hn⟩ : Ints n get ∧ n ≤ 1000 := hp
  have hsm : ∀ i, i < n → sm (iAt get i) := fun i hi => (hs i hi).2
  refine ⟨[(id, .ro 1 n fun i => iC (iAt get i))], [.sl 0], [(0, .ro 1 n fun i => iC (iAt get i))], 1, [], rfl, rfl, Nat.le_of_ble_eq_true rfl, ints_hand e1 hs, rfl, rfl, fun G hG => ?_⟩
  clear hs
  generalize iAt get = f at hsm ⊢
  refine loop_okR (g.ok _ _ _) 1 (fun x : {i : Nat // i ≤ n} => ⟨[(0, ⟨[], .sl 0⟩), (3, ⟨[], .si .i64 (vrD f n x.1)⟩), (4, ⟨[], .si .i64 x.1⟩)], [], [(0, .ro 1 n fun i => iC (f i))], 1, []⟩) (fun x => n - x.1) hG ⟨0, Nat.zero_le _⟩ (fun j => j) ?_ ?_
  · refine ⟨?_, ?_, rfl, rfl, rfl, rfl, trivial⟩ <;> repeat' (first | exact trivial | exact rfl | (intro i hi; exact ⟨rfl, rfl⟩) | refine And.intro ?_ ?_)
  rintro ⟨i, hi⟩
  refine Br.mk (fun h => ?_) (fun h => ?_)
  · have h : (i : Int) < (n : Int) := of_decide_eq_true h
    have s1 := hsm i (by omega)
    unfold sm at s1
    refine loop_okR (g.ok _ _ _) 1 (fun x : {k : Nat // k ≤ n} => ⟨[(0, ⟨[], .sl 0⟩), (3, ⟨[], .si .i64 (vrO f (vrD f n i) (f i) x.1)⟩), (4, ⟨[], .si .i64 i⟩), (5, ⟨[], .si .i64 x.1⟩)], [], [(0, .ro 1 n fun i => iC (f i))], 1, []⟩) (fun x => n - x.1) hG ⟨0, Nat.zero_le _⟩ (fun j => j) ?_ ?_
    · refine ⟨?_, ?_, rfl, rfl, rfl, rfl, trivial⟩ <;> repeat' (first | exact trivial | exact rfl | (intro i hi; exact ⟨rfl, rfl⟩) | refine And.intro ?_ ?_)
    rintro ⟨k, hk⟩
    refine Br.mk (fun h2 => ?_) (fun h2 => ?_)
    · have h2 : (k : Int) < (n : Int) := of_decide_eq_true h2
      have s2 := hsm k (by omega)
      unfold sm at s2
      refine drawn_ok (g.ok _ _ _) fol [0,0,0,6,14,0,0,96,224,510,1023,2047] [] 12 (by kernel_rfl) ?_
      refine Chk.mk (show 0 ≤ (i : Int) ∧ (i : Int) < (n : Int) from ⟨by omega, by omega⟩) (Chk.mk (show 0 ≤ (k : Int) ∧ (k : Int) < (n : Int) from ⟨by omega, by omega⟩) ?_)
      refine Chk.mk (show InK .i64 (f i - f k) from ⟨by omega, by omega⟩) ?_
      refine Chk.mk (show InK .i64 ((k : Int) + 1) from ⟨by omega, by omega⟩) ⟨⟨k + 1, by omega⟩, (fun j => j), ?_, by show n - (k + 1) < n - k; omega⟩
      refine ⟨?_, ?_, rfl, rfl, rfl, rfl, trivial⟩ <;> repeat' (first | exact trivial | exact rfl | (intro i hi; exact ⟨rfl, rfl⟩) | refine And.intro ?_ ?_)
    · have h2 : ¬ (k : Int) < (n : Int) := of_decide_eq_false h2
      obtain rfl : k = n := by omega
      refine Chk.mk (show InK .i64 ((i : Int) + 1) from ⟨by omega, by omega⟩) ⟨⟨i + 1, by omega⟩, (fun j => j), ?_, by show k - (i + 1) < k - i; omega⟩
      refine ⟨?_, ?_, rfl, rfl, rfl, rfl, trivial⟩ <;> repeat' (first | exact trivial | exact rfl | (intro i hi; exact ⟨rfl, rfl⟩) | refine And.intro ?_ ?_)
  · have h : ¬ (i : Int) < (n : Int) := of_decide_eq_false h
    obtain rfl : i = n := by omega
    exact ⟨.inl rfl, end_noid ⟨rfl, rfl⟩ rfl rfl (by repeat' (first | exact trivial | exact rfl | (intro i hi; exact ⟨rfl, rfl⟩) | refine And.intro ?_ ?_))⟩
theorem g56 {l : List (Nat × Ct)} (g : Good P T l) : Good P T ((56, c56) :: l) := g.add (k56 g) (fun fr args H H' out hH h => oneK_mono hH h) (body_of Try.func56 (c := code Try.f56) rfl (by decide))

/-! ### Keeps, Of -/
def c75 : Ct := fun fr args H => match args with
  | [.agg [.si .i64 lo, .si .i64 lv], .sl i] => (match sliceOf 1 H i with
    | some (n, get) => some ⟨some (Ints n get ∧ n ≤ 1000), none, .sb (keepsP (offD (iAt get) n, vrD (iAt get) n n) (lo, lv)), []⟩
    | none => none)
  | _ => none
theorem c75_mono : CtMono c75 := by
  intro fr args H H' out hH h
  unfold c75 at h ⊢
  split at h
  · split at h
    · rename_i e
      simp only [sliceOf_mono hH e]
      exact h
    · cases h
  · cases h
theorem k75 {l : List (Nat × Ct)} (g0 : Good P T l) : COk P 75 c75 := by
  have g := g59 (g56 good0)
  refine cok (C := tabC _) g.ok Try.func75 (c := code Try.f75) rfl fun fr args H out h hp => ?_
  unfold c75 at h
  split at h
  case h_2 => cases h
  rename_i lo lv id
  split at h
  case h_2 => cases h
  rename_i n get e1
  cases h
  obtain ⟨hs, hn⟩ : Ints n get ∧ n ≤ 1000 := hp
  refine ⟨[(id, .ro 1 n fun i => iC (iAt get i))], [.agg [.si .i64 lo, .si .i64 lv], .sl 0], [(0, .ro 1 n fun i => iC (iAt get i))], 1, [], rfl, rfl, Nat.le_of_ble_eq_true rfl, ints_hand e1 hs, rfl, rfl, fun G hG => ?_⟩
  have hs : Ints n (fun i => iC (iAt get i)) := fun i hi => ⟨rfl, (hs i hi).2⟩
  have hf : iAt (fun i => iC (iAt get i)) = iAt get := rfl
  refine drawn_ok (g.ok _ _ _) fol [0,1,0,4,15,31,63,127,63,319,1023,2047,4095] [] 13 (by kernel_rfl) ?_
  refine Chk.mk ⟨hs, hn⟩ (Chk.mk (under_of ⟨hs, hn⟩) ?_)
  exact ⟨.inl rfl, end_noid rfl rfl rfl (by repeat' (first | exact trivial | exact rfl | (intro i hi; exact ⟨rfl, rfl⟩) | refine And.intro ?_ ?_))⟩
theorem g75 {l : List (Nat × Ct)} (g : Good P T l) : Good P T ((75, c75) :: l) := g.add (k75 g) c75_mono (body_of Try.func75 (c := code Try.f75) rfl (by decide))
def c67 : Ct := fun fr args H => match args with
  | [.agg l, .sl i] => (match sliceOf 1 H i with
    | some (m, get2) => gradeK H l fun i1 g n get => some ⟨some ((Lims n get ∧ n ≤ 1000000) ∧ Ints m get2 ∧ m ≤ 1000), none, .si .i64 (ofL (limsL n get) (offD (iAt get2) m, vrD (iAt get2) m m) : Nat), []⟩
    | none => none)
  | _ => none
theorem c67_mono : CtMono c67 := by
  intro fr args H H' out hH h
  unfold c67 at h ⊢
  split at h
  · split at h
    · rename_i e
      simp only [sliceOf_mono hH e]
      exact gradeK_mono hH h
    · cases h
  · cases h
theorem k67 {l : List (Nat × Ct)} (g0 : Good P T l) : COk P 67 c67 := by
  have g := g75 good0
  refine cok (C := tabC _) g.ok Try.func67 (c := code Try.f67) rfl fun fr args H out h hp => ?_
  unfold c67 at h
  split at h
  case h_2 => cases h
  rename_i l id
  split at h
  case h_2 => cases h
  rename_i m get2 e2
  obtain ⟨i1, p, n, get, rfl, e1, h⟩ := gradeK_some h
  cases h
  obtain ⟨⟨hs, hn⟩, hs2, hm⟩ : (Lims n get ∧ n ≤ 1000000) ∧ Ints m get2 ∧ m ≤ 1000 := hp
  have hh : Hand H [(i1, .ro 2 n fun i => liC (liAt get i)), (id, .ro 1 m fun i => iC (iAt get2 i))] := hand_mk ⟨sliceOf_piece e1 (fun i hi => (hs i hi).symm), sliceOf_piece e2 (fun i hi => (hs2 i hi).1.symm), trivial⟩ (by repeat' (first | exact trivial | (intro i hi; exact ⟨trivial, trivial, trivial⟩) | (intro i hi; exact ⟨trivial, trivial⟩) | refine And.intro ?_ ?_)) rfl
  refine ⟨[(i1, .ro 2 n fun i => liC (liAt get i)), (id, .ro 1 m fun i => iC (iAt get2 i))], [.agg (grA 0 p), .sl 1], [(0, .ro 2 n fun i => liC (liAt get i)), (1, .ro 1 m fun i => iC (iAt get2 i))], 2, [], rfl, rfl, Nat.le_of_ble_eq_true rfl, hh, rfl, rfl, fun G hG => ?_⟩
  have hs2 : Ints m (fun i => iC (iAt get2 i)) := fun i hi => ⟨rfl, (hs2 i hi).2⟩
  unfold limsL
  generalize liAt get = L
  generalize hf : iAt get2 = f at hs2 ⊢
  obtain ⟨F, hF⟩ : ∃ F, (offD f m, vrD f m m) = F := ⟨_, rfl⟩
  obtain ⟨x, hxe⟩ : ∃ x, ofL ((List.range n).map L) F = x := ⟨_, rfl⟩
  have hxl : x ≤ n := by
    rw [← hxe]
    have := List.findIdx_le_length (p := fun l => keepsP F l) (xs := (List.range n).map L)
    simpa [ofL] using this
  have hlt : ∀ i, i < x → keepsP F (L i) = false := fun i hi => by
    have h := List.not_of_lt_findIdx (p := fun l => keepsP F l) (xs := (List.range n).map L) (i := i) (by rw [← hxe] at hi; exact hi)
    simpa using h
  have hat : x < n → keepsP F (L x) = true := fun hx => by
    have h := List.findIdx_getElem (p := fun l => keepsP F l) (xs := (List.range n).map L) (w := by
      have := hx
      rw [← hxe] at this
      unfold ofL at this
      simpa using this)
    have e : List.findIdx (fun l => keepsP F l) ((List.range n).map L) = x := hxe
    simp only [e] at h
    simpa using h
  rw [hF, hxe]
  refine loop_okR (g.ok _ _ _) 2 (fun z : {i : Nat // i ≤ x} => ⟨[(1, ⟨[], .sl 1⟩), (2, ⟨[], .sp 2 0⟩), (5, ⟨[], .si .i64 z.1⟩)], [], [(2, .cells 27 (grA 0 p)), (0, .ro 2 n fun i => liC (L i)), (1, .ro 1 m fun i => iC (f i))], 3, []⟩) (fun z => n - z.1) hG ⟨0, Nat.zero_le _⟩ (fun j => j) ?_ ?_
  · refine ⟨?_, ?_, rfl, rfl, rfl, rfl, trivial⟩ <;> repeat' (first | exact trivial | exact rfl | (intro i hi; exact ⟨rfl, rfl⟩) | refine And.intro ?_ ?_)
  rintro ⟨i, hi⟩
  refine Br.mk (fun h => ?_) (fun h => ?_)
  · have h : (i : Int) < (n : Int) := of_decide_eq_true h
    refine Chk.mk (show (0 : Int) ≤ (i : Int) ∧ (i : Int) < (n : Int) from ⟨by omega, by omega⟩) ?_
    refine Chk.mk ⟨hs2, hm⟩ ?_
    refine Br.mk (fun h2 => ?_) (fun h2 => ?_)
    · have h2 : keepsP (offD f m, vrD f m m) (L i) = true := h2
      rw [hF] at h2
      have hix : i = x := by
        rcases Nat.lt_or_ge i x with hl | hl
        · rw [hlt i hl] at h2; cases h2
        · omega
      subst hix
      exact ⟨.inl rfl, end_noid ⟨rfl, rfl⟩ rfl rfl (by repeat' (first | exact trivial | exact rfl | (intro i hi; exact ⟨rfl, rfl⟩) | refine And.intro ?_ ?_))⟩
    · have h2 : keepsP (offD f m, vrD f m m) (L i) = false := h2
      rw [hF] at h2
      have hix : i ≠ x := fun e => by
        have h3 := hat (by omega)
        rw [← e, h2] at h3; cases h3
      refine Chk.mk (show InK .i64 ((i : Int) + 1) from ⟨by omega, by omega⟩) ⟨⟨i + 1, by omega⟩, (fun j => j), ?_, by show n - (i + 1) < n - i; omega⟩
      refine ⟨?_, ?_, rfl, rfl, rfl, rfl, trivial⟩ <;> repeat' (first | exact trivial | exact rfl | (intro i hi; exact ⟨rfl, rfl⟩) | refine And.intro ?_ ?_)
  · have h : ¬ (i : Int) < (n : Int) := of_decide_eq_false h
    have hix : x = n := by omega
    refine ⟨.inl rfl, end_noid ?_ rfl rfl (by repeat' (first | exact trivial | exact rfl | (intro i hi; exact ⟨rfl, rfl⟩) | refine And.intro ?_ ?_))⟩
    rw [hix]
    exact ⟨rfl, rfl⟩
theorem g67 {l : List (Nat × Ct)} (g : Good P T l) : Good P T ((67, c67) :: l) := g.add (k67 g) c67_mono (body_of Try.func67 (c := code Try.f67) rfl (by decide))
end Go.X.Gr
end

section
set_option linter.unusedVariables false
set_option linter.unusedSimpArgs false
set_option linter.unusedSectionVars false
/- Grade: all truths, as slices that are told of (the document's from, at each depth). -/
set_option linter.unusedVariables false
set_option linter.unusedSimpArgs false
set_option maxRecDepth 10000
set_option maxHeartbeats 4000000
namespace Go.X.Gr
open Go Go.Proofs Go.X

/-- A block that lies frozen: where, how much room, and its numbers. -/
abbrev En := Addr × Nat × B5
def slE (e : En) : Value := .slice (some e.1) 5 e.2.1
def b5N (b : B5) : Nat → Int
  | 0 => b.1
  | 1 => b.2.1
  | 2 => b.2.2.1
  | 3 => b.2.2.2.1
  | _ => b.2.2.2.2
def b5G (b : B5) (i : Nat) : List SV := iC (b5N b i)
def famC (L : List En) : Value → Nat → (Nat → List SV) → Prop := fun v n get => ∃ e ∈ L, v = slE e ∧ n = 5 ∧ get = b5G e.2.2
def eD : En := (⟨0, 0, none⟩, 0, (0, 0, 0, 0, 0))
def oG (L : List En) (i : Nat) : List SV := [.sv (slE (L.getD i eD))]
def fA (k : Nat) (b : B5) (L : List En) (n : Nat) (l : Nat → Int × Int) : List (Nat × HB) := [(0, .ro 2 n fun i => liC (l i)), (1, .vec 3 1 k (b5G b)), (2, .vec 73 1 L.length (oG L)), (3, .fam 1 (famC L))]
def fH (L : List En) (n : Nat) (l : Nat → Int × Int) : List (Nat × HB) := [(5, .vec 73 1 L.length (oG L)), (3, .fam 1 (famC L)), (2, .dead), (1, .dead), (0, .ro 2 n fun i => liC (l i))]
theorem oG_app {L : List En} {e : En} {i : Nat} (hi : i < L.length + 1) : oG (L ++ [e]) i = if i < L.length then oG L i else [.sv (slE e)] := by
  unfold oG
  split
  · rename_i h; simp [List.getD, List.getElem?_append_left h]
  · rename_i h
    obtain rfl : i = L.length := by omega
    simp [List.getD]
theorem famC_app {L : List En} {e : En} {v : Value} {n : Nat} {get : Nat → List SV} (h : famC (L ++ [e]) v n get) : addC (famC L) (slE e) 5 (b5G e.2.2) v n get := by
  obtain ⟨x, hx, h⟩ := h
  rcases List.mem_append.1 hx with hx | hx
  · exact .inr ⟨x, hx, h⟩
  · obtain rfl := List.mem_singleton.1 hx
    exact .inl h
theorem b102 : Body P 102 := body_of Try.func102 (c := code Try.f102) rfl (by decide)
theorem ints_b5 {b : B5} (h : okI b.1 ∧ okI b.2.1 ∧ okI b.2.2.1 ∧ okI b.2.2.2.1 ∧ okI b.2.2.2.2) {k : Nat} : Ints k (b5G b) := fun i hi => ⟨rfl, by
  obtain ⟨h0, h1, h2, h3, h4⟩ := h
  have key : okI (b5N b i) := by
    unfold b5N
    split <;> assumption
  show sm (b5N b i)
  unfold okI at key
  unfold sm
  omega⟩
theorem okI0 : okI 0 := by unfold okI; omega
theorem s102_5 {p : Pts} (hp : ptsB p) {n : Nat} {l : Nat → Int × Int} {a0 a1 a2 a3 a4 : Int} (o0 : okI a0) (o1 : okI a1) (o2 : okI a2) (o3 : okI a3) (o4 : okI a4) {L : List En} {T : List B5} (hT : L.map (·.2.2) ++ [(a0, a1, a2, a3, a4)] = T) (hN : T.length ≤ 900000) {Rv : SV → List (Nat × HB) → Nat → Prop} {Rp : List PanicEntry → List (Nat × HB) → Nat → Prop}
    (hRv : ∀ L' : List En, L'.map (·.2.2) = T → Rv (.sl 5) (fH L' n l) 6) : CallS P 102 [.agg (grA 0 p), .sl 1, .sl 2] (fA 5 (a0, a1, a2, a3, a4) L n l) 4 Rv Rp := by
  have g := g104 good0
  have hN : L.length ≤ 900000 := by
    rw [← hT] at hN
    simp only [List.length_append, List.length_map] at hN
    omega
  refine callS_move 2 [.agg (grA 0 p), .sl 1, .sl 4] rfl rfl (by repeat' (first | exact trivial | exact rfl | refine And.intro ?_ ?_)) rfl ?_
  refine callS_toE (ι := Addr × Nat) g.ok Try.func102 (c := code Try.f102) rfl (Nat.le_of_ble_eq_true rfl) (fun _ => .sl 5) (fun x => fH (L ++ [(x.1, x.2, (a0, a1, a2, a3, a4))]) n l) 6 (fun G hG => ?_) (fun x => hRv _ (by rw [← hT]; simp))
  refine Br.mk (fun _ => ?_) (fun h => by cases h)
  refine fb_freeze 1 3 [] [6] (g.ok _ _ _) cont_std rfl ⟨rfl, by decide, fun i hi => rfl, rfl, rfl, by decide, fun ad c => ?_⟩
  refine fb_append (Te := 0) 4 6 L.length 1 (oG L) _ (oG (L ++ [(ad, c, (a0, a1, a2, a3, a4))])) (g.ok _ _ _) cont_std rfl rfl rfl rfl rfl rfl rfl rfl rfl rfl rfl rfl (by decide) (by decide) rfl rfl rfl rfl (by omega) ?_ ?_
  · intro i hi
    rw [oG_app hi]
    split
    · rfl
    · have e : i - L.length = 0 := by omega
      rw [e]; rfl
  refine ⟨(ad, c), (fun j => match j with | 5 => 7 | j => j), ?_, ?_, rfl, rfl, rfl, rfl⟩ <;> repeat' (first | exact trivial | exact rfl | (intro i hi; exact ⟨rfl, rfl⟩) | refine And.intro ?_ ?_)
  · show L.length + 1 = (L ++ [_]).length
    simp
  · intro v m g h
    exact famC_app h

theorem fit_4 {p : Pts} {a0 a1 a2 a3 kv : Int} : fitV (iAt (b5G (a0, a1, a2, a3, kv))) 4 p.st = fu4 p.st a0 a1 a2 a3 kv 4 := by
  simp [fitV, List.range_succ, nxV, apV, near, fu4, iAt, b5G, iC, b5N, Bool.and_assoc]
theorem s102_4 {p : Pts} (hp : ptsB p) {n : Nat} {l : Nat → Int × Int} {a0 a1 a2 a3 : Int} (o0 : okI a0) (o1 : okI a1) (o2 : okI a2) (o3 : okI a3) {L : List En} {T : List B5} (hT : L.map (·.2.2) ++ blk4 p a0 a1 a2 a3 = T) (hN : T.length ≤ 900000) {Rv : SV → List (Nat × HB) → Nat → Prop} {Rp : List PanicEntry → List (Nat × HB) → Nat → Prop}
    (hRv : ∀ L' : List En, L'.map (·.2.2) = T → Rv (.sl 5) (fH L' n l) 6) : CallS P 102 [.agg (grA 0 p), .sl 1, .sl 2] (fA 4 (a0, a1, a2, a3, 0) L n l) 4 Rv Rp := by
  have g := g104 good0
  have hT : L.map (·.2.2) ++ ((rangeI p.l4 p.h4).filter (fun kv => fu4 p.st a0 a1 a2 a3 kv 4)).flatMap (fun k => [(a0, a1, a2, a3, k)]) = T := by
    rw [← hT]
    rw [blk4]
    congr 1
    exact List.map_eq_flatMap.symm
  have hb : -20 ≤ p.l4 ∧ p.h4 ≤ 20 := by
    unfold ptsB at hp
    omega
  refine callS_move 2 [.agg (grA 0 p), .sl 1, .sl 4] rfl rfl (by repeat' (first | exact trivial | exact rfl | refine And.intro ?_ ?_)) rfl ?_
  refine callS_toE (ι := {L' : List En // L'.map (·.2.2) = T}) g.ok Try.func102 (c := code Try.f102) rfl (Nat.le_of_ble_eq_true rfl) (fun _ => .sl 5) (fun x => fH x.1 n l) 6 (fun G hG => ?_) (fun x => hRv x.1 x.2)
  refine Br.mk (fun h => by cases h) (fun _ => ?_)
  refine Chk.mk (show (0 : Int) ≤ 4 ∧ (4 : Int) < 5 from ⟨by omega, by omega⟩) ?_
  refine loop_okR (g.ok _ _ _) 5 (fun x : {x : Int × List En // -20 ≤ x.1 ∧ x.2.map (·.2.2) ++ ((rangeI x.1 p.h4).filter (fun kv => fu4 p.st a0 a1 a2 a3 kv 4)).flatMap (fun k => [(a0, a1, a2, a3, k)]) = T} => ⟨[(1, ⟨[], .sl 1⟩), (2, ⟨[], .sl 6⟩), (3, ⟨[], .sp 5 0⟩), (7, ⟨[], .si .i64 4⟩), (8, ⟨[], .si .i64 x.1.1⟩)], [],
    [(6, .vec 73 1 x.1.2.length (oG x.1.2)), (5, .cells 27 (grA 0 p)), (3, .fam 1 (famC x.1.2)), (2, .dead), (1, .vec 3 1 4 (b5G (a0, a1, a2, a3, 0))), (0, .ro 2 n fun i => liC (l i))], 7, []⟩) (fun x => (p.h4 + 1 - x.1.1).toNat) hG ⟨(p.l4, L), hb.1, hT⟩ (fun j => match j with | 6 => 4 | j => j) ?_ ?_
  · refine ⟨?_, ?_, rfl, rfl, rfl, rfl, trivial⟩ <;> repeat' (first | exact trivial | exact rfl | (intro i hi; exact ⟨rfl, rfl⟩) | (intro v m g h; exact h) | refine And.intro ?_ ?_)
  rintro ⟨⟨kv, L1⟩, hlo, hinv⟩
  refine Chk.mk (show (0 : Int) ≤ 4 ∧ (4 : Int) < 5 from ⟨by omega, by omega⟩) ?_
  refine Br.mk (fun h => ?_) (fun h => ?_)
  · have h : kv ≤ p.h4 := of_decide_eq_true h
    have hok : okI kv := ⟨hlo, by omega⟩
    have hL1 : L1.length ≤ 900000 := by
      have := congrArg List.length hinv
      simp only [List.length_append, List.length_map] at this
      omega
    have hinv : L1.map (·.2.2) ++ ((rangeI kv p.h4).filter (fun kv => fu4 p.st a0 a1 a2 a3 kv 4)).flatMap (fun k => [(a0, a1, a2, a3, k)]) = T := hinv
    rw [rangeI_cons h, List.filter_cons] at hinv
    refine fb_append0 7 1 4 (b5G (a0, a1, a2, a3, 0)) (g.ok _ _ _) cont_std rfl rfl rfl rfl rfl rfl rfl rfl rfl rfl rfl rfl (by decide) (by decide) rfl rfl rfl rfl (by decide) (by decide) ?_
    refine fb_append (Te := 0) 8 9 4 1 (b5G (a0, a1, a2, a3, 0)) _ (b5G (a0, a1, a2, a3, kv)) (g.ok _ _ _) cont_std rfl rfl rfl rfl rfl rfl rfl rfl rfl rfl rfl rfl (by decide) (by decide) rfl rfl rfl rfl (by decide) ?_ ?_
    · intro i hi
      split
      · have : i = 0 ∨ i = 1 ∨ i = 2 ∨ i = 3 := by omega
        rcases this with rfl | rfl | rfl | rfl <;> first | rfl | omega
      · have e1 : i - 4 = 0 := by omega
        have e2 : i = 4 := by omega
        rw [e1, e2]; rfl
    refine Chk.mk (show Ints 5 (b5G (a0, a1, a2, a3, kv)) ∧ 1 ≤ 5 ∧ 5 ≤ 5 from ⟨ints_b5 ⟨o0, o1, o2, o3, hok⟩, by decide, by decide⟩) ?_
    refine Br.mk (fun h2 => ?_) (fun h2 => ?_)
    · have h2 : fitV (iAt (b5G (a0, a1, a2, a3, kv))) 4 p.st = true := h2
      rw [fit_4] at h2
      rw [if_pos h2, List.flatMap_cons, ← List.append_assoc] at hinv
      refine fb_call (g.ok _ _ _) cont_std rfl rfl rfl rfl ⟨b102, ?_⟩
      refine callS_at [.agg (grA 0 p), .sl 1, .sl 2] (fA 5 (a0, a1, a2, a3, kv) L1 n l) 4 (fun j => match j with | 1 => 10 | 2 => 6 | j => j) (by repeat' (first | exact trivial | exact rfl | refine And.intro ?_ ?_)) rfl (by repeat' (first | exact trivial | exact rfl | (intro i hi; exact ⟨rfl, rfl⟩) | (intro v m g h; exact h) | refine And.intro ?_ ?_)) rfl rfl ?_
      refine s102_5 hp o0 o1 o2 o3 hok rfl (by
        have := congrArg List.length hinv
        simp only [List.length_append] at this ⊢
        omega) (fun L2 hL2 => ⟨rfl, ?_, ?_, ?_⟩)
      · repeat' (first | exact trivial | exact rfl | refine And.intro ?_ ?_)
      · repeat' (first | exact trivial | exact rfl | (intro i hi; exact rfl) | refine And.intro ?_ ?_)
      refine Chk.mk (show InK .i64 (kv + 1) from ⟨by omega, by omega⟩) ⟨⟨(kv + 1, L2), by omega, by rw [hL2]; exact hinv⟩, (fun j => match j with | 6 => 12 | j => j), ?_, by show (p.h4 + 1 - (kv + 1)).toNat < (p.h4 + 1 - kv).toNat; omega⟩
      refine ⟨?_, ?_, rfl, rfl, rfl, rfl, trivial⟩ <;> repeat' (first | exact trivial | exact rfl | (intro i hi; exact ⟨rfl, rfl⟩) | (intro v m g h; exact h) | refine And.intro ?_ ?_)
    · have h2 : fitV (iAt (b5G (a0, a1, a2, a3, kv))) 4 p.st = false := h2
      rw [fit_4] at h2
      rw [if_neg (by rw [h2]; decide)] at hinv
      refine Chk.mk (show InK .i64 (kv + 1) from ⟨by omega, by omega⟩) ⟨⟨(kv + 1, L1), by omega, hinv⟩, (fun j => j), ?_, by show (p.h4 + 1 - (kv + 1)).toNat < (p.h4 + 1 - kv).toNat; omega⟩
      refine ⟨?_, ?_, rfl, rfl, rfl, rfl, trivial⟩ <;> repeat' (first | exact trivial | exact rfl | (intro i hi; exact ⟨rfl, rfl⟩) | (intro v m g h; exact h) | refine And.intro ?_ ?_)
  · have h : ¬ kv ≤ p.h4 := of_decide_eq_false h
    have hinv : L1.map (·.2.2) ++ ((rangeI kv p.h4).filter (fun kv => fu4 p.st a0 a1 a2 a3 kv 4)).flatMap (fun k => [(a0, a1, a2, a3, k)]) = T := hinv
    rw [rangeI_nil (by omega), List.filter_nil, List.flatMap_nil, List.append_nil] at hinv
    refine ⟨⟨L1, hinv⟩, (fun j => match j with | 5 => 6 | j => j), ?_, ?_, rfl, rfl, rfl, rfl⟩ <;> repeat' (first | exact trivial | exact rfl | (intro i hi; exact ⟨rfl, rfl⟩) | (intro v m g h; exact h) | refine And.intro ?_ ?_)

theorem fit_3 {p : Pts} {a0 a1 a2 kv : Int} : fitV (iAt (b5G (a0, a1, a2, kv, 0))) 3 p.st = fu3 p.st a0 a1 a2 kv 3 := by
  simp [fitV, List.range_succ, nxV, apV, near, fu3, iAt, b5G, iC, b5N, Bool.and_assoc]
theorem s102_3 {p : Pts} (hp : ptsB p) {n : Nat} {l : Nat → Int × Int} {a0 a1 a2 : Int} (o0 : okI a0) (o1 : okI a1) (o2 : okI a2) {L : List En} {T : List B5} (hT : L.map (·.2.2) ++ blk3 p a0 a1 a2 = T) (hN : T.length ≤ 900000) {Rv : SV → List (Nat × HB) → Nat → Prop} {Rp : List PanicEntry → List (Nat × HB) → Nat → Prop}
    (hRv : ∀ L' : List En, L'.map (·.2.2) = T → Rv (.sl 5) (fH L' n l) 6) : CallS P 102 [.agg (grA 0 p), .sl 1, .sl 2] (fA 3 (a0, a1, a2, 0, 0) L n l) 4 Rv Rp := by
  have g := g104 good0
  have hT : L.map (·.2.2) ++ ((rangeI p.l3 p.h3).filter (fun kv => fu3 p.st a0 a1 a2 kv 3)).flatMap (fun k => blk4 p a0 a1 a2 k) = T := by
    rw [← hT]
    rfl
  have hb : -20 ≤ p.l3 ∧ p.h3 ≤ 20 := by
    unfold ptsB at hp
    omega
  refine callS_move 2 [.agg (grA 0 p), .sl 1, .sl 4] rfl rfl (by repeat' (first | exact trivial | exact rfl | refine And.intro ?_ ?_)) rfl ?_
  refine callS_toE (ι := {L' : List En // L'.map (·.2.2) = T}) g.ok Try.func102 (c := code Try.f102) rfl (Nat.le_of_ble_eq_true rfl) (fun _ => .sl 5) (fun x => fH x.1 n l) 6 (fun G hG => ?_) (fun x => hRv x.1 x.2)
  refine Br.mk (fun h => by cases h) (fun _ => ?_)
  refine Chk.mk (show (0 : Int) ≤ 3 ∧ (3 : Int) < 5 from ⟨by omega, by omega⟩) ?_
  refine loop_okR (g.ok _ _ _) 5 (fun x : {x : Int × List En // -20 ≤ x.1 ∧ x.2.map (·.2.2) ++ ((rangeI x.1 p.h3).filter (fun kv => fu3 p.st a0 a1 a2 kv 3)).flatMap (fun k => blk4 p a0 a1 a2 k) = T} => ⟨[(1, ⟨[], .sl 1⟩), (2, ⟨[], .sl 6⟩), (3, ⟨[], .sp 5 0⟩), (7, ⟨[], .si .i64 3⟩), (8, ⟨[], .si .i64 x.1.1⟩)], [],
    [(6, .vec 73 1 x.1.2.length (oG x.1.2)), (5, .cells 27 (grA 0 p)), (3, .fam 1 (famC x.1.2)), (2, .dead), (1, .vec 3 1 3 (b5G (a0, a1, a2, 0, 0))), (0, .ro 2 n fun i => liC (l i))], 7, []⟩) (fun x => (p.h3 + 1 - x.1.1).toNat) hG ⟨(p.l3, L), hb.1, hT⟩ (fun j => match j with | 6 => 4 | j => j) ?_ ?_
  · refine ⟨?_, ?_, rfl, rfl, rfl, rfl, trivial⟩ <;> repeat' (first | exact trivial | exact rfl | (intro i hi; exact ⟨rfl, rfl⟩) | (intro v m g h; exact h) | refine And.intro ?_ ?_)
  rintro ⟨⟨kv, L1⟩, hlo, hinv⟩
  refine Chk.mk (show (0 : Int) ≤ 3 ∧ (3 : Int) < 5 from ⟨by omega, by omega⟩) ?_
  refine Br.mk (fun h => ?_) (fun h => ?_)
  · have h : kv ≤ p.h3 := of_decide_eq_true h
    have hok : okI kv := ⟨hlo, by omega⟩
    have hL1 : L1.length ≤ 900000 := by
      have := congrArg List.length hinv
      simp only [List.length_append, List.length_map] at this
      omega
    have hinv : L1.map (·.2.2) ++ ((rangeI kv p.h3).filter (fun kv => fu3 p.st a0 a1 a2 kv 3)).flatMap (fun k => blk4 p a0 a1 a2 k) = T := hinv
    rw [rangeI_cons h, List.filter_cons] at hinv
    refine fb_append0 7 1 3 (b5G (a0, a1, a2, 0, 0)) (g.ok _ _ _) cont_std rfl rfl rfl rfl rfl rfl rfl rfl rfl rfl rfl rfl (by decide) (by decide) rfl rfl rfl rfl (by decide) (by decide) ?_
    refine fb_append (Te := 0) 8 9 3 1 (b5G (a0, a1, a2, 0, 0)) _ (b5G (a0, a1, a2, kv, 0)) (g.ok _ _ _) cont_std rfl rfl rfl rfl rfl rfl rfl rfl rfl rfl rfl rfl (by decide) (by decide) rfl rfl rfl rfl (by decide) ?_ ?_
    · intro i hi
      split
      · have : i = 0 ∨ i = 1 ∨ i = 2 ∨ i = 3 := by omega
        rcases this with rfl | rfl | rfl | rfl <;> first | rfl | omega
      · have e1 : i - 3 = 0 := by omega
        have e2 : i = 3 := by omega
        rw [e1, e2]; rfl
    refine Chk.mk (show Ints 4 (b5G (a0, a1, a2, kv, 0)) ∧ 1 ≤ 4 ∧ 4 ≤ 5 from ⟨ints_b5 ⟨o0, o1, o2, hok, okI0⟩, by decide, by decide⟩) ?_
    refine Br.mk (fun h2 => ?_) (fun h2 => ?_)
    · have h2 : fitV (iAt (b5G (a0, a1, a2, kv, 0))) 3 p.st = true := h2
      rw [fit_3] at h2
      rw [if_pos h2, List.flatMap_cons, ← List.append_assoc] at hinv
      refine fb_call (g.ok _ _ _) cont_std rfl rfl rfl rfl ⟨b102, ?_⟩
      refine callS_at [.agg (grA 0 p), .sl 1, .sl 2] (fA 4 (a0, a1, a2, kv, 0) L1 n l) 4 (fun j => match j with | 1 => 10 | 2 => 6 | j => j) (by repeat' (first | exact trivial | exact rfl | refine And.intro ?_ ?_)) rfl (by repeat' (first | exact trivial | exact rfl | (intro i hi; exact ⟨rfl, rfl⟩) | (intro v m g h; exact h) | refine And.intro ?_ ?_)) rfl rfl ?_
      refine s102_4 hp o0 o1 o2 hok rfl (by
        have := congrArg List.length hinv
        simp only [List.length_append] at this ⊢
        omega) (fun L2 hL2 => ⟨rfl, ?_, ?_, ?_⟩)
      · repeat' (first | exact trivial | exact rfl | refine And.intro ?_ ?_)
      · repeat' (first | exact trivial | exact rfl | (intro i hi; exact rfl) | refine And.intro ?_ ?_)
      refine Chk.mk (show InK .i64 (kv + 1) from ⟨by omega, by omega⟩) ⟨⟨(kv + 1, L2), by omega, by rw [hL2]; exact hinv⟩, (fun j => match j with | 6 => 12 | j => j), ?_, by show (p.h3 + 1 - (kv + 1)).toNat < (p.h3 + 1 - kv).toNat; omega⟩
      refine ⟨?_, ?_, rfl, rfl, rfl, rfl, trivial⟩ <;> repeat' (first | exact trivial | exact rfl | (intro i hi; exact ⟨rfl, rfl⟩) | (intro v m g h; exact h) | refine And.intro ?_ ?_)
    · have h2 : fitV (iAt (b5G (a0, a1, a2, kv, 0))) 3 p.st = false := h2
      rw [fit_3] at h2
      rw [if_neg (by rw [h2]; decide)] at hinv
      refine Chk.mk (show InK .i64 (kv + 1) from ⟨by omega, by omega⟩) ⟨⟨(kv + 1, L1), by omega, hinv⟩, (fun j => j), ?_, by show (p.h3 + 1 - (kv + 1)).toNat < (p.h3 + 1 - kv).toNat; omega⟩
      refine ⟨?_, ?_, rfl, rfl, rfl, rfl, trivial⟩ <;> repeat' (first | exact trivial | exact rfl | (intro i hi; exact ⟨rfl, rfl⟩) | (intro v m g h; exact h) | refine And.intro ?_ ?_)
  · have h : ¬ kv ≤ p.h3 := of_decide_eq_false h
    have hinv : L1.map (·.2.2) ++ ((rangeI kv p.h3).filter (fun kv => fu3 p.st a0 a1 a2 kv 3)).flatMap (fun k => blk4 p a0 a1 a2 k) = T := hinv
    rw [rangeI_nil (by omega), List.filter_nil, List.flatMap_nil, List.append_nil] at hinv
    refine ⟨⟨L1, hinv⟩, (fun j => match j with | 5 => 6 | j => j), ?_, ?_, rfl, rfl, rfl, rfl⟩ <;> repeat' (first | exact trivial | exact rfl | (intro i hi; exact ⟨rfl, rfl⟩) | (intro v m g h; exact h) | refine And.intro ?_ ?_)

theorem fit_2 {p : Pts} {a0 a1 kv : Int} : fitV (iAt (b5G (a0, a1, kv, 0, 0))) 2 p.st = fu2 p.st a0 a1 kv 2 := by
  simp [fitV, List.range_succ, nxV, apV, near, fu2, iAt, b5G, iC, b5N, Bool.and_assoc]
theorem s102_2 {p : Pts} (hp : ptsB p) {n : Nat} {l : Nat → Int × Int} {a0 a1 : Int} (o0 : okI a0) (o1 : okI a1) {L : List En} {T : List B5} (hT : L.map (·.2.2) ++ blk2 p a0 a1 = T) (hN : T.length ≤ 900000) {Rv : SV → List (Nat × HB) → Nat → Prop} {Rp : List PanicEntry → List (Nat × HB) → Nat → Prop}
    (hRv : ∀ L' : List En, L'.map (·.2.2) = T → Rv (.sl 5) (fH L' n l) 6) : CallS P 102 [.agg (grA 0 p), .sl 1, .sl 2] (fA 2 (a0, a1, 0, 0, 0) L n l) 4 Rv Rp := by
  have g := g104 good0
  have hT : L.map (·.2.2) ++ ((rangeI p.l2 p.h2).filter (fun kv => fu2 p.st a0 a1 kv 2)).flatMap (fun k => blk3 p a0 a1 k) = T := by
    rw [← hT]
    rfl
  have hb : -20 ≤ p.l2 ∧ p.h2 ≤ 20 := by
    unfold ptsB at hp
    omega
  refine callS_move 2 [.agg (grA 0 p), .sl 1, .sl 4] rfl rfl (by repeat' (first | exact trivial | exact rfl | refine And.intro ?_ ?_)) rfl ?_
  refine callS_toE (ι := {L' : List En // L'.map (·.2.2) = T}) g.ok Try.func102 (c := code Try.f102) rfl (Nat.le_of_ble_eq_true rfl) (fun _ => .sl 5) (fun x => fH x.1 n l) 6 (fun G hG => ?_) (fun x => hRv x.1 x.2)
  refine Br.mk (fun h => by cases h) (fun _ => ?_)
  refine Chk.mk (show (0 : Int) ≤ 2 ∧ (2 : Int) < 5 from ⟨by omega, by omega⟩) ?_
  refine loop_okR (g.ok _ _ _) 5 (fun x : {x : Int × List En // -20 ≤ x.1 ∧ x.2.map (·.2.2) ++ ((rangeI x.1 p.h2).filter (fun kv => fu2 p.st a0 a1 kv 2)).flatMap (fun k => blk3 p a0 a1 k) = T} => ⟨[(1, ⟨[], .sl 1⟩), (2, ⟨[], .sl 6⟩), (3, ⟨[], .sp 5 0⟩), (7, ⟨[], .si .i64 2⟩), (8, ⟨[], .si .i64 x.1.1⟩)], [],
    [(6, .vec 73 1 x.1.2.length (oG x.1.2)), (5, .cells 27 (grA 0 p)), (3, .fam 1 (famC x.1.2)), (2, .dead), (1, .vec 3 1 2 (b5G (a0, a1, 0, 0, 0))), (0, .ro 2 n fun i => liC (l i))], 7, []⟩) (fun x => (p.h2 + 1 - x.1.1).toNat) hG ⟨(p.l2, L), hb.1, hT⟩ (fun j => match j with | 6 => 4 | j => j) ?_ ?_
  · refine ⟨?_, ?_, rfl, rfl, rfl, rfl, trivial⟩ <;> repeat' (first | exact trivial | exact rfl | (intro i hi; exact ⟨rfl, rfl⟩) | (intro v m g h; exact h) | refine And.intro ?_ ?_)
  rintro ⟨⟨kv, L1⟩, hlo, hinv⟩
  refine Chk.mk (show (0 : Int) ≤ 2 ∧ (2 : Int) < 5 from ⟨by omega, by omega⟩) ?_
  refine Br.mk (fun h => ?_) (fun h => ?_)
  · have h : kv ≤ p.h2 := of_decide_eq_true h
    have hok : okI kv := ⟨hlo, by omega⟩
    have hL1 : L1.length ≤ 900000 := by
      have := congrArg List.length hinv
      simp only [List.length_append, List.length_map] at this
      omega
    have hinv : L1.map (·.2.2) ++ ((rangeI kv p.h2).filter (fun kv => fu2 p.st a0 a1 kv 2)).flatMap (fun k => blk3 p a0 a1 k) = T := hinv
    rw [rangeI_cons h, List.filter_cons] at hinv
    refine fb_append0 7 1 2 (b5G (a0, a1, 0, 0, 0)) (g.ok _ _ _) cont_std rfl rfl rfl rfl rfl rfl rfl rfl rfl rfl rfl rfl (by decide) (by decide) rfl rfl rfl rfl (by decide) (by decide) ?_
    refine fb_append (Te := 0) 8 9 2 1 (b5G (a0, a1, 0, 0, 0)) _ (b5G (a0, a1, kv, 0, 0)) (g.ok _ _ _) cont_std rfl rfl rfl rfl rfl rfl rfl rfl rfl rfl rfl rfl (by decide) (by decide) rfl rfl rfl rfl (by decide) ?_ ?_
    · intro i hi
      split
      · have : i = 0 ∨ i = 1 ∨ i = 2 ∨ i = 3 := by omega
        rcases this with rfl | rfl | rfl | rfl <;> first | rfl | omega
      · have e1 : i - 2 = 0 := by omega
        have e2 : i = 2 := by omega
        rw [e1, e2]; rfl
    refine Chk.mk (show Ints 3 (b5G (a0, a1, kv, 0, 0)) ∧ 1 ≤ 3 ∧ 3 ≤ 5 from ⟨ints_b5 ⟨o0, o1, hok, okI0, okI0⟩, by decide, by decide⟩) ?_
    refine Br.mk (fun h2 => ?_) (fun h2 => ?_)
    · have h2 : fitV (iAt (b5G (a0, a1, kv, 0, 0))) 2 p.st = true := h2
      rw [fit_2] at h2
      rw [if_pos h2, List.flatMap_cons, ← List.append_assoc] at hinv
      refine fb_call (g.ok _ _ _) cont_std rfl rfl rfl rfl ⟨b102, ?_⟩
      refine callS_at [.agg (grA 0 p), .sl 1, .sl 2] (fA 3 (a0, a1, kv, 0, 0) L1 n l) 4 (fun j => match j with | 1 => 10 | 2 => 6 | j => j) (by repeat' (first | exact trivial | exact rfl | refine And.intro ?_ ?_)) rfl (by repeat' (first | exact trivial | exact rfl | (intro i hi; exact ⟨rfl, rfl⟩) | (intro v m g h; exact h) | refine And.intro ?_ ?_)) rfl rfl ?_
      refine s102_3 hp o0 o1 hok rfl (by
        have := congrArg List.length hinv
        simp only [List.length_append] at this ⊢
        omega) (fun L2 hL2 => ⟨rfl, ?_, ?_, ?_⟩)
      · repeat' (first | exact trivial | exact rfl | refine And.intro ?_ ?_)
      · repeat' (first | exact trivial | exact rfl | (intro i hi; exact rfl) | refine And.intro ?_ ?_)
      refine Chk.mk (show InK .i64 (kv + 1) from ⟨by omega, by omega⟩) ⟨⟨(kv + 1, L2), by omega, by rw [hL2]; exact hinv⟩, (fun j => match j with | 6 => 12 | j => j), ?_, by show (p.h2 + 1 - (kv + 1)).toNat < (p.h2 + 1 - kv).toNat; omega⟩
      refine ⟨?_, ?_, rfl, rfl, rfl, rfl, trivial⟩ <;> repeat' (first | exact trivial | exact rfl | (intro i hi; exact ⟨rfl, rfl⟩) | (intro v m g h; exact h) | refine And.intro ?_ ?_)
    · have h2 : fitV (iAt (b5G (a0, a1, kv, 0, 0))) 2 p.st = false := h2
      rw [fit_2] at h2
      rw [if_neg (by rw [h2]; decide)] at hinv
      refine Chk.mk (show InK .i64 (kv + 1) from ⟨by omega, by omega⟩) ⟨⟨(kv + 1, L1), by omega, hinv⟩, (fun j => j), ?_, by show (p.h2 + 1 - (kv + 1)).toNat < (p.h2 + 1 - kv).toNat; omega⟩
      refine ⟨?_, ?_, rfl, rfl, rfl, rfl, trivial⟩ <;> repeat' (first | exact trivial | exact rfl | (intro i hi; exact ⟨rfl, rfl⟩) | (intro v m g h; exact h) | refine And.intro ?_ ?_)
  · have h : ¬ kv ≤ p.h2 := of_decide_eq_false h
    have hinv : L1.map (·.2.2) ++ ((rangeI kv p.h2).filter (fun kv => fu2 p.st a0 a1 kv 2)).flatMap (fun k => blk3 p a0 a1 k) = T := hinv
    rw [rangeI_nil (by omega), List.filter_nil, List.flatMap_nil, List.append_nil] at hinv
    refine ⟨⟨L1, hinv⟩, (fun j => match j with | 5 => 6 | j => j), ?_, ?_, rfl, rfl, rfl, rfl⟩ <;> repeat' (first | exact trivial | exact rfl | (intro i hi; exact ⟨rfl, rfl⟩) | (intro v m g h; exact h) | refine And.intro ?_ ?_)

theorem fit_1 {p : Pts} {a0 kv : Int} : fitV (iAt (b5G (a0, kv, 0, 0, 0))) 1 p.st = fu1 p.st a0 kv 1 := by
  simp [fitV, List.range_succ, nxV, apV, near, fu1, iAt, b5G, iC, b5N, Bool.and_assoc]
theorem s102_1 {p : Pts} (hp : ptsB p) {n : Nat} {l : Nat → Int × Int} {a0 : Int} (o0 : okI a0) {L : List En} {T : List B5} (hT : L.map (·.2.2) ++ blk1 p a0 = T) (hN : T.length ≤ 900000) {Rv : SV → List (Nat × HB) → Nat → Prop} {Rp : List PanicEntry → List (Nat × HB) → Nat → Prop}
    (hRv : ∀ L' : List En, L'.map (·.2.2) = T → Rv (.sl 5) (fH L' n l) 6) : CallS P 102 [.agg (grA 0 p), .sl 1, .sl 2] (fA 1 (a0, 0, 0, 0, 0) L n l) 4 Rv Rp := by
  have g := g104 good0
  have hT : L.map (·.2.2) ++ ((rangeI p.l1 p.h1).filter (fun kv => fu1 p.st a0 kv 1)).flatMap (fun k => blk2 p a0 k) = T := by
    rw [← hT]
    rfl
  have hb : -20 ≤ p.l1 ∧ p.h1 ≤ 20 := by
    unfold ptsB at hp
    omega
  refine callS_move 2 [.agg (grA 0 p), .sl 1, .sl 4] rfl rfl (by repeat' (first | exact trivial | exact rfl | refine And.intro ?_ ?_)) rfl ?_
  refine callS_toE (ι := {L' : List En // L'.map (·.2.2) = T}) g.ok Try.func102 (c := code Try.f102) rfl (Nat.le_of_ble_eq_true rfl) (fun _ => .sl 5) (fun x => fH x.1 n l) 6 (fun G hG => ?_) (fun x => hRv x.1 x.2)
  refine Br.mk (fun h => by cases h) (fun _ => ?_)
  refine Chk.mk (show (0 : Int) ≤ 1 ∧ (1 : Int) < 5 from ⟨by omega, by omega⟩) ?_
  refine loop_okR (g.ok _ _ _) 5 (fun x : {x : Int × List En // -20 ≤ x.1 ∧ x.2.map (·.2.2) ++ ((rangeI x.1 p.h1).filter (fun kv => fu1 p.st a0 kv 1)).flatMap (fun k => blk2 p a0 k) = T} => ⟨[(1, ⟨[], .sl 1⟩), (2, ⟨[], .sl 6⟩), (3, ⟨[], .sp 5 0⟩), (7, ⟨[], .si .i64 1⟩), (8, ⟨[], .si .i64 x.1.1⟩)], [],
    [(6, .vec 73 1 x.1.2.length (oG x.1.2)), (5, .cells 27 (grA 0 p)), (3, .fam 1 (famC x.1.2)), (2, .dead), (1, .vec 3 1 1 (b5G (a0, 0, 0, 0, 0))), (0, .ro 2 n fun i => liC (l i))], 7, []⟩) (fun x => (p.h1 + 1 - x.1.1).toNat) hG ⟨(p.l1, L), hb.1, hT⟩ (fun j => match j with | 6 => 4 | j => j) ?_ ?_
  · refine ⟨?_, ?_, rfl, rfl, rfl, rfl, trivial⟩ <;> repeat' (first | exact trivial | exact rfl | (intro i hi; exact ⟨rfl, rfl⟩) | (intro v m g h; exact h) | refine And.intro ?_ ?_)
  rintro ⟨⟨kv, L1⟩, hlo, hinv⟩
  refine Chk.mk (show (0 : Int) ≤ 1 ∧ (1 : Int) < 5 from ⟨by omega, by omega⟩) ?_
  refine Br.mk (fun h => ?_) (fun h => ?_)
  · have h : kv ≤ p.h1 := of_decide_eq_true h
    have hok : okI kv := ⟨hlo, by omega⟩
    have hL1 : L1.length ≤ 900000 := by
      have := congrArg List.length hinv
      simp only [List.length_append, List.length_map] at this
      omega
    have hinv : L1.map (·.2.2) ++ ((rangeI kv p.h1).filter (fun kv => fu1 p.st a0 kv 1)).flatMap (fun k => blk2 p a0 k) = T := hinv
    rw [rangeI_cons h, List.filter_cons] at hinv
    refine fb_append0 7 1 1 (b5G (a0, 0, 0, 0, 0)) (g.ok _ _ _) cont_std rfl rfl rfl rfl rfl rfl rfl rfl rfl rfl rfl rfl (by decide) (by decide) rfl rfl rfl rfl (by decide) (by decide) ?_
    refine fb_append (Te := 0) 8 9 1 1 (b5G (a0, 0, 0, 0, 0)) _ (b5G (a0, kv, 0, 0, 0)) (g.ok _ _ _) cont_std rfl rfl rfl rfl rfl rfl rfl rfl rfl rfl rfl rfl (by decide) (by decide) rfl rfl rfl rfl (by decide) ?_ ?_
    · intro i hi
      split
      · have : i = 0 ∨ i = 1 ∨ i = 2 ∨ i = 3 := by omega
        rcases this with rfl | rfl | rfl | rfl <;> first | rfl | omega
      · have e1 : i - 1 = 0 := by omega
        have e2 : i = 1 := by omega
        rw [e1, e2]; rfl
    refine Chk.mk (show Ints 2 (b5G (a0, kv, 0, 0, 0)) ∧ 1 ≤ 2 ∧ 2 ≤ 5 from ⟨ints_b5 ⟨o0, hok, okI0, okI0, okI0⟩, by decide, by decide⟩) ?_
    refine Br.mk (fun h2 => ?_) (fun h2 => ?_)
    · have h2 : fitV (iAt (b5G (a0, kv, 0, 0, 0))) 1 p.st = true := h2
      rw [fit_1] at h2
      rw [if_pos h2, List.flatMap_cons, ← List.append_assoc] at hinv
      refine fb_call (g.ok _ _ _) cont_std rfl rfl rfl rfl ⟨b102, ?_⟩
      refine callS_at [.agg (grA 0 p), .sl 1, .sl 2] (fA 2 (a0, kv, 0, 0, 0) L1 n l) 4 (fun j => match j with | 1 => 10 | 2 => 6 | j => j) (by repeat' (first | exact trivial | exact rfl | refine And.intro ?_ ?_)) rfl (by repeat' (first | exact trivial | exact rfl | (intro i hi; exact ⟨rfl, rfl⟩) | (intro v m g h; exact h) | refine And.intro ?_ ?_)) rfl rfl ?_
      refine s102_2 hp o0 hok rfl (by
        have := congrArg List.length hinv
        simp only [List.length_append] at this ⊢
        omega) (fun L2 hL2 => ⟨rfl, ?_, ?_, ?_⟩)
      · repeat' (first | exact trivial | exact rfl | refine And.intro ?_ ?_)
      · repeat' (first | exact trivial | exact rfl | (intro i hi; exact rfl) | refine And.intro ?_ ?_)
      refine Chk.mk (show InK .i64 (kv + 1) from ⟨by omega, by omega⟩) ⟨⟨(kv + 1, L2), by omega, by rw [hL2]; exact hinv⟩, (fun j => match j with | 6 => 12 | j => j), ?_, by show (p.h1 + 1 - (kv + 1)).toNat < (p.h1 + 1 - kv).toNat; omega⟩
      refine ⟨?_, ?_, rfl, rfl, rfl, rfl, trivial⟩ <;> repeat' (first | exact trivial | exact rfl | (intro i hi; exact ⟨rfl, rfl⟩) | (intro v m g h; exact h) | refine And.intro ?_ ?_)
    · have h2 : fitV (iAt (b5G (a0, kv, 0, 0, 0))) 1 p.st = false := h2
      rw [fit_1] at h2
      rw [if_neg (by rw [h2]; decide)] at hinv
      refine Chk.mk (show InK .i64 (kv + 1) from ⟨by omega, by omega⟩) ⟨⟨(kv + 1, L1), by omega, hinv⟩, (fun j => j), ?_, by show (p.h1 + 1 - (kv + 1)).toNat < (p.h1 + 1 - kv).toNat; omega⟩
      refine ⟨?_, ?_, rfl, rfl, rfl, rfl, trivial⟩ <;> repeat' (first | exact trivial | exact rfl | (intro i hi; exact ⟨rfl, rfl⟩) | (intro v m g h; exact h) | refine And.intro ?_ ?_)
  · have h : ¬ kv ≤ p.h1 := of_decide_eq_false h
    have hinv : L1.map (·.2.2) ++ ((rangeI kv p.h1).filter (fun kv => fu1 p.st a0 kv 1)).flatMap (fun k => blk2 p a0 k) = T := hinv
    rw [rangeI_nil (by omega), List.filter_nil, List.flatMap_nil, List.append_nil] at hinv
    refine ⟨⟨L1, hinv⟩, (fun j => match j with | 5 => 6 | j => j), ?_, ?_, rfl, rfl, rfl, rfl⟩ <;> repeat' (first | exact trivial | exact rfl | (intro i hi; exact ⟨rfl, rfl⟩) | (intro v m g h; exact h) | refine And.intro ?_ ?_)

theorem fit_0 {p : Pts} {kv : Int} : fitV (iAt (b5G (kv, 0, 0, 0, 0))) 0 p.st = fu0 p.st kv 0 := by
  simp [fitV, List.range_succ, nxV, apV, near, fu0, iAt, b5G, iC, b5N, Bool.and_assoc]
theorem s102_0 {p : Pts} (hp : ptsB p) {n : Nat} {l : Nat → Int × Int}  {L : List En} {T : List B5} (hT : L.map (·.2.2) ++ blk p = T) (hN : T.length ≤ 900000) {Rv : SV → List (Nat × HB) → Nat → Prop} {Rp : List PanicEntry → List (Nat × HB) → Nat → Prop}
    (hRv : ∀ L' : List En, L'.map (·.2.2) = T → Rv (.sl 5) (fH L' n l) 6) : CallS P 102 [.agg (grA 0 p), .sl 1, .sl 2] (fA 0 (0, 0, 0, 0, 0) L n l) 4 Rv Rp := by
  have g := g104 good0
  have hT : L.map (·.2.2) ++ ((rangeI p.l0 p.h0).filter (fun kv => fu0 p.st kv 0)).flatMap (fun k => blk1 p k) = T := by
    rw [← hT]
    rfl
  have hb : -20 ≤ p.l0 ∧ p.h0 ≤ 20 := by
    unfold ptsB at hp
    omega
  refine callS_move 2 [.agg (grA 0 p), .sl 1, .sl 4] rfl rfl (by repeat' (first | exact trivial | exact rfl | refine And.intro ?_ ?_)) rfl ?_
  refine callS_toE (ι := {L' : List En // L'.map (·.2.2) = T}) g.ok Try.func102 (c := code Try.f102) rfl (Nat.le_of_ble_eq_true rfl) (fun _ => .sl 5) (fun x => fH x.1 n l) 6 (fun G hG => ?_) (fun x => hRv x.1 x.2)
  refine Br.mk (fun h => by cases h) (fun _ => ?_)
  refine Chk.mk (show (0 : Int) ≤ 0 ∧ (0 : Int) < 5 from ⟨by omega, by omega⟩) ?_
  refine loop_okR (g.ok _ _ _) 5 (fun x : {x : Int × List En // -20 ≤ x.1 ∧ x.2.map (·.2.2) ++ ((rangeI x.1 p.h0).filter (fun kv => fu0 p.st kv 0)).flatMap (fun k => blk1 p k) = T} => ⟨[(1, ⟨[], .sl 1⟩), (2, ⟨[], .sl 6⟩), (3, ⟨[], .sp 5 0⟩), (7, ⟨[], .si .i64 0⟩), (8, ⟨[], .si .i64 x.1.1⟩)], [],
    [(6, .vec 73 1 x.1.2.length (oG x.1.2)), (5, .cells 27 (grA 0 p)), (3, .fam 1 (famC x.1.2)), (2, .dead), (1, .vec 3 1 0 (b5G (0, 0, 0, 0, 0))), (0, .ro 2 n fun i => liC (l i))], 7, []⟩) (fun x => (p.h0 + 1 - x.1.1).toNat) hG ⟨(p.l0, L), hb.1, hT⟩ (fun j => match j with | 6 => 4 | j => j) ?_ ?_
  · refine ⟨?_, ?_, rfl, rfl, rfl, rfl, trivial⟩ <;> repeat' (first | exact trivial | exact rfl | (intro i hi; exact ⟨rfl, rfl⟩) | (intro v m g h; exact h) | refine And.intro ?_ ?_)
  rintro ⟨⟨kv, L1⟩, hlo, hinv⟩
  refine Chk.mk (show (0 : Int) ≤ 0 ∧ (0 : Int) < 5 from ⟨by omega, by omega⟩) ?_
  refine Br.mk (fun h => ?_) (fun h => ?_)
  · have h : kv ≤ p.h0 := of_decide_eq_true h
    have hok : okI kv := ⟨hlo, by omega⟩
    have hL1 : L1.length ≤ 900000 := by
      have := congrArg List.length hinv
      simp only [List.length_append, List.length_map] at this
      omega
    have hinv : L1.map (·.2.2) ++ ((rangeI kv p.h0).filter (fun kv => fu0 p.st kv 0)).flatMap (fun k => blk1 p k) = T := hinv
    rw [rangeI_cons h, List.filter_cons] at hinv
    refine fb_append0 7 1 0 (b5G (0, 0, 0, 0, 0)) (g.ok _ _ _) cont_std rfl rfl rfl rfl rfl rfl rfl rfl rfl rfl rfl rfl (by decide) (by decide) rfl rfl rfl rfl (by decide) (by decide) ?_
    refine fb_append (Te := 0) 8 9 0 1 (b5G (0, 0, 0, 0, 0)) _ (b5G (kv, 0, 0, 0, 0)) (g.ok _ _ _) cont_std rfl rfl rfl rfl rfl rfl rfl rfl rfl rfl rfl rfl (by decide) (by decide) rfl rfl rfl rfl (by decide) ?_ ?_
    · intro i hi
      split
      · omega
      · have e1 : i - 0 = 0 := by omega
        have e2 : i = 0 := by omega
        rw [e1, e2]; rfl
    refine Chk.mk (show Ints 1 (b5G (kv, 0, 0, 0, 0)) ∧ 1 ≤ 1 ∧ 1 ≤ 5 from ⟨ints_b5 ⟨hok, okI0, okI0, okI0, okI0⟩, by decide, by decide⟩) ?_
    refine Br.mk (fun h2 => ?_) (fun h2 => ?_)
    · have h2 : fitV (iAt (b5G (kv, 0, 0, 0, 0))) 0 p.st = true := h2
      rw [fit_0] at h2
      rw [if_pos h2, List.flatMap_cons, ← List.append_assoc] at hinv
      refine fb_call (g.ok _ _ _) cont_std rfl rfl rfl rfl ⟨b102, ?_⟩
      refine callS_at [.agg (grA 0 p), .sl 1, .sl 2] (fA 1 (kv, 0, 0, 0, 0) L1 n l) 4 (fun j => match j with | 1 => 10 | 2 => 6 | j => j) (by repeat' (first | exact trivial | exact rfl | refine And.intro ?_ ?_)) rfl (by repeat' (first | exact trivial | exact rfl | (intro i hi; exact ⟨rfl, rfl⟩) | (intro v m g h; exact h) | refine And.intro ?_ ?_)) rfl rfl ?_
      refine s102_1 hp hok rfl (by
        have := congrArg List.length hinv
        simp only [List.length_append] at this ⊢
        omega) (fun L2 hL2 => ⟨rfl, ?_, ?_, ?_⟩)
      · repeat' (first | exact trivial | exact rfl | refine And.intro ?_ ?_)
      · repeat' (first | exact trivial | exact rfl | (intro i hi; exact rfl) | refine And.intro ?_ ?_)
      refine Chk.mk (show InK .i64 (kv + 1) from ⟨by omega, by omega⟩) ⟨⟨(kv + 1, L2), by omega, by rw [hL2]; exact hinv⟩, (fun j => match j with | 6 => 12 | j => j), ?_, by show (p.h0 + 1 - (kv + 1)).toNat < (p.h0 + 1 - kv).toNat; omega⟩
      refine ⟨?_, ?_, rfl, rfl, rfl, rfl, trivial⟩ <;> repeat' (first | exact trivial | exact rfl | (intro i hi; exact ⟨rfl, rfl⟩) | (intro v m g h; exact h) | refine And.intro ?_ ?_)
    · have h2 : fitV (iAt (b5G (kv, 0, 0, 0, 0))) 0 p.st = false := h2
      rw [fit_0] at h2
      rw [if_neg (by rw [h2]; decide)] at hinv
      refine Chk.mk (show InK .i64 (kv + 1) from ⟨by omega, by omega⟩) ⟨⟨(kv + 1, L1), by omega, hinv⟩, (fun j => j), ?_, by show (p.h0 + 1 - (kv + 1)).toNat < (p.h0 + 1 - kv).toNat; omega⟩
      refine ⟨?_, ?_, rfl, rfl, rfl, rfl, trivial⟩ <;> repeat' (first | exact trivial | exact rfl | (intro i hi; exact ⟨rfl, rfl⟩) | (intro v m g h; exact h) | refine And.intro ?_ ?_)
  · have h : ¬ kv ≤ p.h0 := of_decide_eq_false h
    have hinv : L1.map (·.2.2) ++ ((rangeI kv p.h0).filter (fun kv => fu0 p.st kv 0)).flatMap (fun k => blk1 p k) = T := hinv
    rw [rangeI_nil (by omega), List.filter_nil, List.flatMap_nil, List.append_nil] at hinv
    refine ⟨⟨L1, hinv⟩, (fun j => match j with | 5 => 6 | j => j), ?_, ?_, rfl, rfl, rfl, rfl⟩ <;> repeat' (first | exact trivial | exact rfl | (intro i hi; exact ⟨rfl, rfl⟩) | (intro v m g h; exact h) | refine And.intro ?_ ?_)

end Go.X.Gr
end

section
set_option linter.unusedVariables false
set_option linter.unusedSimpArgs false
set_option linter.unusedSectionVars false
/- Grade: Truths and told of the document. -/
set_option linter.unusedVariables false
set_option linter.unusedSimpArgs false
set_option maxRecDepth 10000
set_option maxHeartbeats 4000000
namespace Go.X.Gr
open Go Go.Proofs Go.X

theorem upI_len : ∀ (n : Nat) (k : Int), (upI n k).length = n
  | 0, _ => rfl
  | n + 1, k => by simp [upI, upI_len n]
theorem flat_len {α β : Type} {c : Nat} {f : α → List β} : ∀ {l : List α}, (∀ x, (f x).length ≤ c) → (l.flatMap f).length ≤ l.length * c
  | [], _ => by simp
  | x :: r, h => by
    have ih := flat_len (l := r) h
    have := h x
    rw [List.flatMap_cons, List.length_append, List.length_cons, Nat.add_mul]
    omega
def narrow (g : Pts) : Prop := g.h0 - g.l0 ≤ 6 ∧ g.h1 - g.l1 ≤ 6 ∧ g.h2 - g.l2 ≤ 6 ∧ g.h3 - g.l3 ≤ 6 ∧ g.h4 - g.l4 ≤ 6
theorem range_len {lo hi : Int} (h : hi - lo ≤ 6) (p : Int → Bool) : ((rangeI lo hi).filter p).length ≤ 7 := by
  have := List.length_filter_le p (rangeI lo hi)
  unfold rangeI at this ⊢
  rw [upI_len] at this
  omega
theorem blk_len {g : Pts} (h : narrow g) : (blk g).length ≤ 16807 := by
  obtain ⟨h0, h1, h2, h3, h4⟩ := h
  have k4 : ∀ a0 a1 a2 a3, (blk4 g a0 a1 a2 a3).length ≤ 7 := fun a0 a1 a2 a3 => by
    unfold blk4
    rw [List.length_map]
    exact range_len h4 _
  have k3 : ∀ a0 a1 a2, (blk3 g a0 a1 a2).length ≤ 49 := fun a0 a1 a2 => by
    have := flat_len (c := 7) (l := (rangeI g.l3 g.h3).filter fun k => fu3 g.st a0 a1 a2 k 3) (fun k => k4 a0 a1 a2 k)
    have h := range_len h3 (fun k => fu3 g.st a0 a1 a2 k 3)
    unfold blk3
    exact Nat.le_trans this (Nat.mul_le_mul_right 7 h)
  have k2 : ∀ a0 a1, (blk2 g a0 a1).length ≤ 343 := fun a0 a1 => by
    have := flat_len (c := 49) (l := (rangeI g.l2 g.h2).filter fun k => fu2 g.st a0 a1 k 2) (fun k => k3 a0 a1 k)
    have h := range_len h2 (fun k => fu2 g.st a0 a1 k 2)
    unfold blk2
    exact Nat.le_trans this (Nat.mul_le_mul_right 49 h)
  have k1 : ∀ a0, (blk1 g a0).length ≤ 2401 := fun a0 => by
    have := flat_len (c := 343) (l := (rangeI g.l1 g.h1).filter fun k => fu1 g.st a0 k 1) (fun k => k2 a0 k)
    have h := range_len h1 (fun k => fu1 g.st a0 k 1)
    unfold blk1
    exact Nat.le_trans this (Nat.mul_le_mul_right 343 h)
  have := flat_len (c := 2401) (l := (rangeI g.l0 g.h0).filter fun k => fu0 g.st k 0) (fun k => k1 k)
  have h := range_len h0 (fun k => fu0 g.st k 0)
  unfold blk
  exact Nat.le_trans this (Nat.mul_le_mul_right 2401 h)
theorem b87 : Body P 87 := body_of Try.func87 (c := code Try.f87) rfl (by decide)
def tH (L : List En) (n : Nat) (l : Nat → Int × Int) : List (Nat × HB) := [(1, .vec 73 1 L.length (oG L)), (2, .fam 1 (famC L)), (0, .ro 2 n fun i => liC (l i))]
theorem nil_den3 {ρ : Env} {nx s : Nat} {x y : SV} (h : ρ nx = some (.sl none 0 0 s)) : (∀ vals, denL ρ [x, .sv (.slice none 0 0), y] = some vals → denL ρ [x, .sl nx, y] = some vals) ∧ ∀ vals, denL ρ [x, y, .sv (.slice none 0 0)] = some vals → denL ρ [x, y, .sl nx] = some vals := by
  have e : den ρ (.sl nx) = den ρ (.sv (.slice none 0 0)) := by simp [den, h, Value.oneCell']
  constructor <;> (intro vals hv; simp only [denL, e] at hv ⊢; exact hv)
theorem s87 {p : Pts} (hp : ptsB p) (hw : narrow p) {n : Nat} {l : Nat → Int × Int} {Rv : SV → List (Nat × HB) → Nat → Prop} {Rp : List PanicEntry → List (Nat × HB) → Nat → Prop}
    (hRv : ∀ L : List En, L.map (·.2.2) = blk p → Rv (.sl 1) (tH L n l) 3) : CallS P 87 [.agg (grA 0 p)] [(0, .ro 2 n fun i => liC (l i))] 1 Rv Rp := by
  have g := g104 good0
  refine callS_toE (ι := {L : List En // L.map (·.2.2) = blk p}) g.ok Try.func87 (c := code Try.f87) rfl (Nat.le_of_ble_eq_true rfl) (fun _ => .sl 1) (fun x => tH x.1 n l) 3 (fun G hG => ?_) (fun x => hRv x.1 x.2)
  refine fb_call (g.ok _ _ _) cont_std rfl rfl rfl rfl ⟨b102, ?_⟩
  refine callS_nil (l' := [.agg (grA 0 p), .sl 2, .sv (.slice none 0 0)]) 3 1 (b5G (0, 0, 0, 0, 0)) (fun ρ h => (nil_den3 h).1) ?_
  refine callS_nil (l' := [.agg (grA 0 p), .sl 2, .sl 3]) 73 1 (oG []) (fun ρ h => (nil_den3 h).2) ?_
  refine callS_fam0 1 ?_
  refine callS_at [.agg (grA 0 p), .sl 1, .sl 2] (fA 0 (0, 0, 0, 0, 0) [] n l) 4 (fun j => match j with | 1 => 2 | 2 => 3 | 3 => 4 | j => j) (by repeat' (first | exact trivial | exact rfl | refine And.intro ?_ ?_)) rfl (by repeat' (first | exact trivial | exact rfl | (intro i hi; exact ⟨rfl, rfl⟩) | (rintro v m g ⟨e, he, _⟩; exact absurd he (List.not_mem_nil)) | refine And.intro ?_ ?_)) rfl rfl ?_
  refine s102_0 hp (T := blk p) rfl (Nat.le_trans (blk_len hw) (by decide)) (fun L2 hL2 => ⟨rfl, ?_, ?_, ?_⟩)
  · repeat' (first | exact trivial | exact rfl | refine And.intro ?_ ?_)
  · repeat' (first | exact trivial | exact rfl | (intro i hi; exact rfl) | refine And.intro ?_ ?_)
  refine ⟨⟨L2, hL2⟩, (fun j => match j with | 1 => 6 | 2 => 4 | j => j), ?_, ?_, rfl, rfl, rfl, rfl⟩ <;> repeat' (first | exact trivial | exact rfl | (intro i hi; exact ⟨rfl, rfl⟩) | (intro v m g h; exact h) | refine And.intro ?_ ?_)

theorem b51 : Body P 51 := body_of Try.func51 (c := code Try.f51) rfl (by decide)
theorem gradeOk_narrow {g : Pts} {L : List (Int × Int)} (h : gradeOk g L = true) : narrow g := by
  simp only [gradeOk, ptI, ptB, Bool.and_eq_true, decide_eq_true_eq] at h
  unfold narrow
  omega
/-- What told comes to. -/
def TdOk (g : Pts) (L : List (Int × Int)) (q : Bool) : Option (List En) → Prop
  | none => errT g L q ≠ 0
  | some E => errT g L q = 0 ∧ E.map (·.2.2) = blk g
def tdV (e : Int) : Option (List En) → SV
  | none => .tup [.sv (.slice none 0 0), .si .i64 e]
  | some _ => .tup [.sl 1, .si .i64 0]
def tdH (n : Nat) (l : Nat → Int × Int) : Option (List En) → List (Nat × HB)
  | none => [(0, .ro 2 n fun i => liC (l i))]
  | some L => tH L n l
theorem blk_nil {g : Pts} (h : blk g = []) : hasB g = false := by
  cases e : hasB g with
  | false => rfl
  | true =>
    obtain ⟨b, hb⟩ := hasB_iff.1 e
    have := mem_blk.2 hb
    rw [h] at this
    cases this
theorem blk_cons {g : Pts} (h : blk g ≠ []) : hasB g = true := by
  cases e : blk g with
  | nil => exact (h e).elim
  | cons b r => exact hasB_iff.2 ⟨b, mem_blk.1 (e ▸ List.mem_cons_self)⟩
theorem s51 {p : Pts} {n : Nat} {l : Nat → Int × Int} (hn : n ≤ 1000000) {q : Bool} {Rv : SV → List (Nat × HB) → Nat → Prop} {Rp : List PanicEntry → List (Nat × HB) → Nat → Prop}
    (hRv : ∀ x : Option (List En), TdOk p ((List.range n).map l) q x → Rv (tdV (errT p ((List.range n).map l) q) x) (tdH n l x) 3) : CallS P 51 [.agg (grA 0 p), .sb q] [(0, .ro 2 n fun i => liC (l i))] 1 Rv Rp := by
  have g := g86 good0
  refine callS_toE (ι := {x : Option (List En) // TdOk p ((List.range n).map l) q x}) g.ok Try.func51 (c := code Try.f51) rfl (Nat.le_of_ble_eq_true rfl) (fun x => tdV (errT p ((List.range n).map l) q) x.1) (fun x => tdH n l x.1) 3 (fun G hG => ?_) (fun x => hRv x.1 x.2)
  have hl : ∀ i, liAt (fun i => liC (l i)) i = l i := fun i => rfl
  refine Chk.mk (show Lims n (fun i => liC (l i)) ∧ n ≤ 1000000 from ⟨fun i hi => rfl, hn⟩) ?_
  have hE : limsL n (fun i => liC (l i)) = (List.range n).map l := rfl
  rw [hE]
  generalize hLm : (List.range n).map l = Lm
  refine Br.mk (fun h => ?_) (fun h => ?_)
  · have h : (!decide (errG p Lm q = 0)) = true := h
    have h : ¬ errG p Lm q = 0 := by simpa using h
    have he : errT p Lm q = errG p Lm q := by unfold errT; rw [if_neg h]
    refine ⟨⟨none, by show errT p Lm q ≠ 0; rw [he]; exact h⟩, (fun j => j), ?_, ?_, rfl, rfl, rfl, rfl⟩ <;> repeat' (first | exact trivial | exact rfl | (intro i hi; exact ⟨rfl, rfl⟩) | (intro v m g h; exact h) | refine And.intro ?_ ?_)
    show errG p Lm q = _
    rw [he]
  · have h : (!decide (errG p Lm q = 0)) = false := h
    have h : errG p Lm q = 0 := by simpa using h
    have hok : gradeOk p Lm = true := by
      unfold errG at h
      split at h
      · assumption
      · cases h
    refine fb_call (g.ok _ _ _) cont_std rfl rfl rfl rfl ⟨b87, ?_⟩
    refine callS_at [.agg (grA 0 p)] [(0, .ro 2 n fun i => liC (l i))] 1 (fun j => j) (by repeat' (first | exact trivial | exact rfl | refine And.intro ?_ ?_)) rfl (by repeat' (first | exact trivial | exact rfl | (intro i hi; exact ⟨rfl, rfl⟩) | refine And.intro ?_ ?_)) rfl rfl ?_
    refine s87 (gradeOk_b hok).1 (gradeOk_narrow hok) (fun L2 hL2 => ⟨rfl, ?_, ?_, ?_⟩)
    · repeat' (first | exact trivial | exact rfl | refine And.intro ?_ ?_)
    · repeat' (first | exact trivial | exact rfl | (intro i hi; exact rfl) | refine And.intro ?_ ?_)
    refine Br.mk (fun h2 => ?_) (fun h2 => ?_)
    · have h2 : (L2.length : Int) = 0 := of_decide_eq_true h2
      have h3 : blk p = [] := by
        rw [← hL2]
        have : L2 = [] := List.eq_nil_of_length_eq_zero (by omega)
        rw [this]; rfl
      have he : errT p Lm q = 10 := by
        unfold errT; rw [if_pos h, blk_nil h3]; rfl
      refine ⟨⟨none, by show errT p Lm q ≠ 0; rw [he]; decide⟩, (fun j => j), ?_, ?_, rfl, rfl, rfl, rfl⟩ <;> repeat' (first | exact trivial | exact rfl | (intro i hi; exact ⟨rfl, rfl⟩) | (intro v m g h; exact h) | refine And.intro ?_ ?_)
      show (10 : Int) = _
      rw [he]
    · have h2 : ¬ (L2.length : Int) = 0 := of_decide_eq_false h2
      have h3 : blk p ≠ [] := by
        rw [← hL2]
        intro h4
        have := congrArg List.length h4
        rw [List.length_map] at this
        exact h2 (by simpa using this)
      have he : errT p Lm q = 0 := by
        unfold errT; rw [if_pos h, blk_cons h3]; rfl
      refine ⟨⟨some L2, ⟨he, hL2⟩⟩, (fun j => match j with | 1 => 2 | 2 => 3 | j => j), ?_, ?_, rfl, rfl, rfl, rfl⟩ <;> repeat' (first | exact trivial | exact rfl | (intro i hi; exact ⟨rfl, rfl⟩) | (intro v m g h; exact h) | refine And.intro ?_ ?_)
end Go.X.Gr
end
