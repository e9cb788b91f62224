/- Contracts of functions of the package grade, for every input: blocks gone through, whether there is one. -/
import Derived.Test.YtafggknckgmkaaaME

section
set_option linter.unusedVariables false
set_option linter.unusedSimpArgs false
set_option linter.unusedSectionVars false
/- Grade: the small functions of the package and of its document. -/
set_option linter.unusedVariables false
set_option linter.unusedSimpArgs false
set_option maxRecDepth 10000
set_option maxHeartbeats 1000000
namespace Go.X.Gr
open Go Go.Proofs Go.X

noncomputable abbrev P : Program := Try.prog
def pl : List Nat := [24, 51, 68, 92]
theorem pl_ok : PlainOk P pl := by
  intro t ht
  simp only [pl, List.mem_cons, List.not_mem_nil, or_false] at ht
  rcases ht with rfl | rfl | rfl | rfl
  · exact ⟨by kernel_rfl, by kernel_rfl, by decide⟩
  · exact ⟨by kernel_rfl, by kernel_rfl, by decide⟩
  · exact ⟨by kernel_rfl, by kernel_rfl, by decide⟩
  · exact ⟨by kernel_rfl, by kernel_rfl, by decide⟩
noncomputable abbrev T : Tab := tabP P pl
theorem fol : P.follows .mixedOrders = true := by kernel_rfl
theorem good0 : Good P T [] := ⟨tabP_ok pl_ok, fun p h => by cases h⟩

def code (f : Func) : Code := match f.body with
  | some c => c
  | none => .skip

theorem under_of {F : Nat → Option FE} {p : Prop} (h : p) : ∀ {π : GP}, underGP F π p
  | [] => h
  | (a, b) :: r => by
    simp only [underGP]
    split
    · exact fun _ => under_of h
    · exact under_of h

/-! ### within, in -/
def inB (n lo hi : Int) : Bool := decide (lo ≤ n) && decide (n ≤ hi)
def c91 : Ct := plainCt fun
  | [.si .i64 a, .si .i64 b, .si .i64 c] => some ⟨none, none, .sb (inB a b c), []⟩
  | _ => none
theorem k91 {l : List (Nat × Ct)} (g : Good P T l) : COk P 91 c91 := cok (C := tabC l) g.ok Try.func91 (c := code Try.f91) rfl fun fr args H out h hp => by
  simp only [c91, plainCt] at h
  split at h
  · cases h
    refine walk_plain rfl (Nat.le_of_ble_eq_true rfl) fun G hG => ?_
    refine ⟨.inl rfl, end_plain rfl rfl rfl⟩
  · cases h
theorem g91 {l : List (Nat × Ct)} (g : Good P T l) : Good P T ((91, c91) :: l) := g.add (k91 g) (plainCt_mono _) (body_of Try.func91 (c := code Try.f91) rfl (by decide))
theorem k90 {l : List (Nat × Ct)} (g : Good P T l) : COk P 90 c91 := cok (C := tabC l) g.ok Try.func90 (c := code Try.f90) rfl fun fr args H out h hp => by
  simp only [c91, plainCt] at h
  split at h
  · cases h
    refine walk_plain rfl (Nat.le_of_ble_eq_true rfl) fun G hG => ?_
    refine ⟨.inl rfl, end_plain rfl rfl rfl⟩
  · cases h
theorem g90 {l : List (Nat × Ct)} (g : Good P T l) : Good P T ((90, c91) :: l) := g.add (k90 g) (plainCt_mono _) (body_of Try.func90 (c := code Try.f90) rfl (by decide))

/-! ### must, stopped -/
def refP (e : Int) : List PanicEntry := [{ v := refV 118 .i64 e, recovered := false }]
def c74 : Ct := plainCt fun
  | [.sb b, .si .i64 e] => some ⟨none, some (!b, refP e), .tup [], []⟩
  | _ => none
theorem k74 {l : List (Nat × Ct)} (g : Good P T l) : COk P 74 c74 := by
  refine cok (C := tabC _) g.ok Try.func74 (c := code Try.f74) rfl fun fr args H out h hp => ?_
  simp only [c74, plainCt] at h
  split at h
  · rename_i b e
    cases h
    refine walk_plain rfl (Nat.le_of_ble_eq_true rfl) fun G hG => ?_
    refine Br.mk (fun h => ?_) (fun h => ?_)
    · refine fb_panic cont_std rfl rfl rfl ?_
      exact ⟨by rw [h]; rfl, trivial⟩
    · exact ⟨.inr ⟨_, by rw [h]⟩, end_plain trivial rfl rfl⟩
  · cases h
theorem g74 {l : List (Nat × Ct)} (g : Good P T l) : Good P T ((74, c74) :: l) := g.add (k74 g) (plainCt_mono _) (body_of Try.func74 (c := code Try.f74) rfl (by decide))
theorem b46 : Body P 46 := body_of Try.func46 (c := code Try.f46) rfl (by decide)
theorem hV (ρ : Env) (k : IntKind) (m : Int) : den ρ (.ifc 118 (.agg [.si k m])) = some (refV 118 k m) := by
  simp [den, denL, refV, Value.oneCell']
theorem an45 : AnswerC P 45 (refV 118) 30 := by
  refine answerC_of (C := tabC []) (Vs := fun k m => .ifc 118 (.agg [.si k m])) good0.ok hV Try.func45 (c := _) rfl (by decide) rfl rfl rfl rfl rfl rfl (by decide) (by decide) ?_ ?_
  · intro x G Q hG hC
    refine fb_call (good0.ok _ _ _) hC rfl rfl rfl rfl ?_
    refine ⟨b46, ?_⟩
    refine callS_exec good0.ok Try.func46 (c := code Try.f46) rfl (Nat.le_of_ble_eq_true rfl) fun G2 hG2 => ?_
    refine Br.mk (fun h => ?_) (fun h => by cases h)
    exact rfl
  · intro x k m G Q hG hC
    refine fb_call (good0.ok _ _ _) hC rfl rfl rfl rfl ?_
    refine ⟨b46, ?_⟩
    refine callS_exec good0.ok Try.func46 (c := code Try.f46) rfl (Nat.le_of_ble_eq_true rfl) fun G2 hG2 => ?_
    refine Br.mk (fun h => by cases h) (fun _ => ?_)
    refine Br.mk (fun h => by cases h) (fun _ => ?_)
    exact rfl
theorem an54 : AnswerC P 54 (refV 118) 30 := by
  refine answerC_of (C := tabC []) (Vs := fun k m => .ifc 118 (.agg [.si k m])) good0.ok hV Try.func54 (c := _) rfl (by decide) rfl rfl rfl rfl rfl rfl (by decide) (by decide) ?_ ?_
  · intro x G Q hG hC
    refine fb_call (good0.ok _ _ _) hC rfl rfl rfl rfl ?_
    refine ⟨b46, ?_⟩
    refine callS_exec good0.ok Try.func46 (c := code Try.f46) rfl (Nat.le_of_ble_eq_true rfl) fun G2 hG2 => ?_
    refine Br.mk (fun h => ?_) (fun h => by cases h)
    exact rfl
  · intro x k m G Q hG hC
    refine fb_call (good0.ok _ _ _) hC rfl rfl rfl rfl ?_
    refine ⟨b46, ?_⟩
    refine callS_exec good0.ok Try.func46 (c := code Try.f46) rfl (Nat.le_of_ble_eq_true rfl) fun G2 hG2 => ?_
    refine Br.mk (fun h => by cases h) (fun _ => ?_)
    refine Br.mk (fun h => by cases h) (fun _ => ?_)
    exact rfl
theorem an57 : AnswerC P 57 (refV 118) 30 := by
  refine answerC_of (C := tabC []) (Vs := fun k m => .ifc 118 (.agg [.si k m])) good0.ok hV Try.func57 (c := _) rfl (by decide) rfl rfl rfl rfl rfl rfl (by decide) (by decide) ?_ ?_
  · intro x G Q hG hC
    refine fb_call (good0.ok _ _ _) hC rfl rfl rfl rfl ?_
    refine ⟨b46, ?_⟩
    refine callS_exec good0.ok Try.func46 (c := code Try.f46) rfl (Nat.le_of_ble_eq_true rfl) fun G2 hG2 => ?_
    refine Br.mk (fun h => ?_) (fun h => by cases h)
    exact rfl
  · intro x k m G Q hG hC
    refine fb_call (good0.ok _ _ _) hC rfl rfl rfl rfl ?_
    refine ⟨b46, ?_⟩
    refine callS_exec good0.ok Try.func46 (c := code Try.f46) rfl (Nat.le_of_ble_eq_true rfl) fun G2 hG2 => ?_
    refine Br.mk (fun h => by cases h) (fun _ => ?_)
    refine Br.mk (fun h => by cases h) (fun _ => ?_)
    exact rfl
theorem an60 : AnswerC P 60 (refV 118) 30 := by
  refine answerC_of (C := tabC []) (Vs := fun k m => .ifc 118 (.agg [.si k m])) good0.ok hV Try.func60 (c := _) rfl (by decide) rfl rfl rfl rfl rfl rfl (by decide) (by decide) ?_ ?_
  · intro x G Q hG hC
    refine fb_call (good0.ok _ _ _) hC rfl rfl rfl rfl ?_
    refine ⟨b46, ?_⟩
    refine callS_exec good0.ok Try.func46 (c := code Try.f46) rfl (Nat.le_of_ble_eq_true rfl) fun G2 hG2 => ?_
    refine Br.mk (fun h => ?_) (fun h => by cases h)
    exact rfl
  · intro x k m G Q hG hC
    refine fb_call (good0.ok _ _ _) hC rfl rfl rfl rfl ?_
    refine ⟨b46, ?_⟩
    refine callS_exec good0.ok Try.func46 (c := code Try.f46) rfl (Nat.le_of_ble_eq_true rfl) fun G2 hG2 => ?_
    refine Br.mk (fun h => by cases h) (fun _ => ?_)
    refine Br.mk (fun h => by cases h) (fun _ => ?_)
    exact rfl
theorem an64 : AnswerC P 64 (refV 118) 30 := by
  refine answerC_of (C := tabC []) (Vs := fun k m => .ifc 118 (.agg [.si k m])) good0.ok hV Try.func64 (c := _) rfl (by decide) rfl rfl rfl rfl rfl rfl (by decide) (by decide) ?_ ?_
  · intro x G Q hG hC
    refine fb_call (good0.ok _ _ _) hC rfl rfl rfl rfl ?_
    refine ⟨b46, ?_⟩
    refine callS_exec good0.ok Try.func46 (c := code Try.f46) rfl (Nat.le_of_ble_eq_true rfl) fun G2 hG2 => ?_
    refine Br.mk (fun h => ?_) (fun h => by cases h)
    exact rfl
  · intro x k m G Q hG hC
    refine fb_call (good0.ok _ _ _) hC rfl rfl rfl rfl ?_
    refine ⟨b46, ?_⟩
    refine callS_exec good0.ok Try.func46 (c := code Try.f46) rfl (Nat.le_of_ble_eq_true rfl) fun G2 hG2 => ?_
    refine Br.mk (fun h => by cases h) (fun _ => ?_)
    refine Br.mk (fun h => by cases h) (fun _ => ?_)
    exact rfl
theorem an68 : AnswerC P 68 (refV 118) 30 := by
  refine answerC_of (C := tabC []) (Vs := fun k m => .ifc 118 (.agg [.si k m])) good0.ok hV Try.func68 (c := _) rfl (by decide) rfl rfl rfl rfl rfl rfl (by decide) (by decide) ?_ ?_
  · intro x G Q hG hC
    refine fb_call (good0.ok _ _ _) hC rfl rfl rfl rfl ?_
    refine ⟨b46, ?_⟩
    refine callS_exec good0.ok Try.func46 (c := code Try.f46) rfl (Nat.le_of_ble_eq_true rfl) fun G2 hG2 => ?_
    refine Br.mk (fun h => ?_) (fun h => by cases h)
    exact rfl
  · intro x k m G Q hG hC
    refine fb_call (good0.ok _ _ _) hC rfl rfl rfl rfl ?_
    refine ⟨b46, ?_⟩
    refine callS_exec good0.ok Try.func46 (c := code Try.f46) rfl (Nat.le_of_ble_eq_true rfl) fun G2 hG2 => ?_
    refine Br.mk (fun h => by cases h) (fun _ => ?_)
    refine Br.mk (fun h => by cases h) (fun _ => ?_)
    exact rfl
theorem an77 : AnswerC P 77 (refV 118) 30 := by
  refine answerC_of (C := tabC []) (Vs := fun k m => .ifc 118 (.agg [.si k m])) good0.ok hV Try.func77 (c := _) rfl (by decide) rfl rfl rfl rfl rfl rfl (by decide) (by decide) ?_ ?_
  · intro x G Q hG hC
    refine fb_call (good0.ok _ _ _) hC rfl rfl rfl rfl ?_
    refine ⟨b46, ?_⟩
    refine callS_exec good0.ok Try.func46 (c := code Try.f46) rfl (Nat.le_of_ble_eq_true rfl) fun G2 hG2 => ?_
    refine Br.mk (fun h => ?_) (fun h => by cases h)
    exact rfl
  · intro x k m G Q hG hC
    refine fb_call (good0.ok _ _ _) hC rfl rfl rfl rfl ?_
    refine ⟨b46, ?_⟩
    refine callS_exec good0.ok Try.func46 (c := code Try.f46) rfl (Nat.le_of_ble_eq_true rfl) fun G2 hG2 => ?_
    refine Br.mk (fun h => by cases h) (fun _ => ?_)
    refine Br.mk (fun h => by cases h) (fun _ => ?_)
    exact rfl
theorem an83 : AnswerC P 83 (refV 118) 30 := by
  refine answerC_of (C := tabC []) (Vs := fun k m => .ifc 118 (.agg [.si k m])) good0.ok hV Try.func83 (c := _) rfl (by decide) rfl rfl rfl rfl rfl rfl (by decide) (by decide) ?_ ?_
  · intro x G Q hG hC
    refine fb_call (good0.ok _ _ _) hC rfl rfl rfl rfl ?_
    refine ⟨b46, ?_⟩
    refine callS_exec good0.ok Try.func46 (c := code Try.f46) rfl (Nat.le_of_ble_eq_true rfl) fun G2 hG2 => ?_
    refine Br.mk (fun h => ?_) (fun h => by cases h)
    exact rfl
  · intro x k m G Q hG hC
    refine fb_call (good0.ok _ _ _) hC rfl rfl rfl rfl ?_
    refine ⟨b46, ?_⟩
    refine callS_exec good0.ok Try.func46 (c := code Try.f46) rfl (Nat.le_of_ble_eq_true rfl) fun G2 hG2 => ?_
    refine Br.mk (fun h => by cases h) (fun _ => ?_)
    refine Br.mk (fun h => by cases h) (fun _ => ?_)
    exact rfl

/-! ### far -/
def farV (a b : Int) : Int := if a = b then 0 else if (a = 0 ∨ b = 0) ∨ (a + b).tmod 2 = 1 then 1 else 2
def c85 : Ct := plainCt fun
  | [.si .i64 a, .si .i64 b] => some ⟨some (InK .i64 (a + b)), none, .si .i64 (farV a b), []⟩
  | _ => none
theorem k85 {l : List (Nat × Ct)} (g : Good P T l) : COk P 85 c85 := by
  refine cok (C := tabC _) g.ok Try.func85 (c := code Try.f85) rfl fun fr args H out h hp => ?_
  simp only [c85, plainCt] at h
  split at h
  · rename_i a b
    cases h
    have hp : InK .i64 (a + b) := hp
    refine walk_plain rfl (Nat.le_of_ble_eq_true rfl) fun G hG => ?_
    refine Br.mk (fun h => ?_) (fun h => ?_)
    · have h : a = b := of_decide_eq_true h
      exact ⟨.inl rfl, end_plain (by rw [farV, if_pos h]; exact ⟨rfl, rfl⟩) rfl rfl⟩
    · have h : ¬ a = b := of_decide_eq_false h
      refine Chk.mk (fun _ => hp) (Chk.mk (under_of (show (2 : Int) ≠ 0 from by decide)) ?_)
      refine Br.mk (fun h2 => ?_) (fun h2 => ?_)
      · have h2 : (decide (a = 0) || decide (b = 0) || decide ((a + b).tmod 2 = 1)) = true := h2
        simp only [Bool.or_eq_true, decide_eq_true_eq] at h2
        exact ⟨.inl rfl, end_plain (by rw [farV, if_neg h, if_pos h2]; exact ⟨rfl, rfl⟩) rfl rfl⟩
      · have h2 : (decide (a = 0) || decide (b = 0) || decide ((a + b).tmod 2 = 1)) = false := h2
        have h2 : ¬ ((a = 0 ∨ b = 0) ∨ (a + b).tmod 2 = 1) := fun e => by
          have : (decide (a = 0) || decide (b = 0) || decide ((a + b).tmod 2 = 1)) = true := by simpa only [Bool.or_eq_true, decide_eq_true_eq] using e
          rw [h2] at this; cases this
        exact ⟨.inl rfl, end_plain (by rw [farV, if_neg h, if_neg h2]; exact ⟨rfl, rfl⟩) rfl rfl⟩
  · cases h
theorem g85 {l : List (Nat × Ct)} (g : Good P T l) : Good P T ((85, c85) :: l) := g.add (k85 g) (plainCt_mono _) (body_of Try.func85 (c := code Try.f85) rfl (by decide))

/-! ### keeps -/
def keepsB (f v lo lv : Int) : Bool := decide (f ≤ lo) && decide (v ≤ lv)
def c73 : Ct := plainCt fun
  | [.agg [.si .i64 a, .si .i64 b], .agg [.si .i64 c, .si .i64 d]] => some ⟨none, none, .sb (keepsB a b c d), []⟩
  | _ => none
theorem k73 {l : List (Nat × Ct)} (g : Good P T l) : COk P 73 c73 := by
  refine cok (C := tabC _) g.ok Try.func73 (c := code Try.f73) rfl fun fr args H out h hp => ?_
  simp only [c73, plainCt] at h
  split at h
  · rename_i a b c d
    cases h
    refine walk_plain rfl (Nat.le_of_ble_eq_true rfl) fun G hG => ?_
    exact ⟨.inl rfl, end_plain rfl rfl rfl⟩
  · cases h
theorem g73 {l : List (Nat × Ct)} (g : Good P T l) : Good P T ((73, c73) :: l) := g.add (k73 g) (plainCt_mono _) (body_of Try.func73 (c := code Try.f73) rfl (by decide))
end Go.X.Gr
end

section
set_option linter.unusedVariables false
set_option linter.unusedSimpArgs false
set_option linter.unusedSectionVars false
/- Grade: the greatest of some numbers; a block's faces. -/
set_option linter.unusedVariables false
set_option linter.unusedSimpArgs false
set_option maxRecDepth 10000
set_option maxHeartbeats 2000000
namespace Go.X.Gr
open Go Go.Proofs Go.X

theorem hand_cells {H : LH} {id T : Nat} {cs : List SV} (h : H id = some (.cells T cs)) (hk : knL 0 [] cs = true) (hi : InL (fun i => i < 1) cs) : Hand H [(id, .cells T cs)] where
  ok j c hb hj := by
    match j, hj with
    | 0, hj =>
      simp at hj; obtain ⟨rfl, rfl⟩ := hj
      show H id = some (.cells T (renL _ cs))
      rw [renL_none _ hk]; exact h
    | j + 1, hj => simp at hj
  ids j c hb hj := by
    match j, hj with
    | 0, hj => simp at hj; obtain ⟨rfl, rfl⟩ := hj; exact hi
    | j + 1, hj => simp at hj
  inj i j c hb hb' h1 h2 _ _ := by
    match i, j, h1, h2 with
    | 0, 0, _, _ => rfl
    | i + 1, _, h, _ => simp at h
    | _, j + 1, _, h => simp at h

theorem ink1 (n : Nat) (h : Nat.ble n 100 = true) : InK .i64 ((n : Int) + 1) := by
  have h := Nat.le_of_ble_eq_true h
  exact ⟨by show -9223372036854775808 ≤ (n : Int) + 1; omega, by show (n : Int) + 1 ≤ 9223372036854775807; omega⟩
theorem bnd (i m : Nat) (h : Nat.blt i m = true) : (0 : Int) ≤ (i : Int) ∧ (i : Int) < (m : Int) := by
  have h : i < m := Nat.le_of_ble_eq_true h
  omega

/-! ### greatest -/
def max5 (a0 a1 a2 a3 a4 : Int) : Int := max (max (max (max a0 a1) a2) a3) a4
/-- The greatest of the first ones. -/
def gst5 (a0 a1 a2 a3 a4 : Int) : Nat → Int
  | 0 => 0
  | 1 => a0
  | 2 => max a0 a1
  | 3 => max (max a0 a1) a2
  | 4 => max (max (max a0 a1) a2) a3
  | _ => max5 a0 a1 a2 a3 a4
def gst2 (a b : Int) : Nat → Int
  | 0 => 0
  | 1 => a
  | _ => max a b
def at2 (a b : Int) : Nat → Int
  | 0 => a
  | _ => b
def c5 (a0 a1 a2 a3 a4 : Int) : List SV := [.si .i64 a0, .si .i64 a1, .si .i64 a2, .si .i64 a3, .si .i64 a4]
def c84 : Ct := fun _ args H => match args with
  | [.sl id] => (match sliceOf 1 H id with
    | some (2, get) => (match get 0, get 1 with
      | [.si .i64 a], [.si .i64 b] => some ⟨none, none, .si .i64 (max a b), []⟩
      | _, _ => none)
    | _ => none)
  | [.ss id 0 5 tot] => (match H id with
    | some (.cells 68 [.si .i64 a0, .si .i64 a1, .si .i64 a2, .si .i64 a3, .si .i64 a4]) => some ⟨none, none, .si .i64 (max5 a0 a1 a2 a3 a4), []⟩
    | _ => none)
  | _ => none
theorem c84_mono : CtMono c84 := by
  intro fr args H H' out hH h
  unfold c84 at h ⊢
  split at h
  · split at h
    · rename_i e
      simp only [sliceOf_mono hH e]
      exact h
    · cases h
  · split at h
    · rename_i e
      simp only [hH _ _ e]
      exact h
    · cases h
  · cases h
theorem k84 {l : List (Nat × Ct)} (g : Good P T l) : COk P 84 c84 := by
  refine cok (C := tabC _) g.ok Try.func84 (c := code Try.f84) rfl fun fr args H out h hp => ?_
  unfold c84 at h
  split at h
  · rename_i id
    split at h
    · rename_i get e
      split at h
      · rename_i a b e0 e1
        cases h
        have hh : Hand H [(id, .ro 1 2 fun i => [.si .i64 (at2 a b i)])] := hand_one e (fun i => rfl) (fun i hi => by
          rcases (show i = 0 ∨ i = 1 by omega) with rfl | rfl
          · exact e0.symm
          · exact e1.symm)
        refine ⟨_, [.sl 0], [(0, .ro 1 2 fun i => [.si .i64 (at2 a b i)])], 1, [], rfl, rfl, Nat.le_of_ble_eq_true rfl, hh, rfl, rfl, fun G hG => ?_⟩
        refine loop_ok (g.ok _ _ _) (fun x : {i : Nat // i ≤ 2} => ⟨[(2, ⟨[], .si .i64 (gst2 a b x.1)⟩), (5, ⟨[], .sl 0⟩), (6, ⟨[], .si .i64 2⟩), (7, ⟨[], .si .i64 x.1⟩)], [],
          [(0, .ro 1 2 fun i => [.si .i64 (at2 a b i)])], 1, []⟩) (fun x => 2 - x.1) (fun _ j hj => hG j hj) ⟨0, Nat.zero_le _⟩ ?_ ?_
        · refine ⟨?_, ?_, rfl, rfl, rfl⟩ <;> repeat' (first | exact trivial | exact rfl | (intro i hi; exact rfl) | refine And.intro ?_ ?_)
        · rintro ⟨i, hi⟩
          have step : ∀ (i v : Nat) (w : Int) (hi : i + 1 ≤ 2), w = gst2 a b (i + 1) → ∃ y : {i : Nat // i ≤ 2}, y.1 = i + 1 ∧ w = gst2 a b y.1 := fun i v w hi h => ⟨⟨i + 1, hi⟩, rfl, h⟩
          rcases (show i = 0 ∨ i = 1 ∨ i = 2 by omega) with rfl | rfl | rfl
          · refine Br.mk (fun _ => ?_) (fun h => by cases h)
            refine Chk.mk (bnd 0 2 rfl) ?_
            refine Br.mk (fun _ => ?_) (fun h => by cases h)
            refine Chk.mk (ink1 0 rfl) ⟨⟨1, by omega⟩, ?_, by show 2 - 1 < 2 - 0; omega⟩
            refine ⟨?_, ?_, rfl, rfl, rfl⟩ <;> repeat' (first | exact trivial | exact rfl | (intro i hi; exact rfl) | refine And.intro ?_ ?_)
          · refine Br.mk (fun _ => ?_) (fun h => by cases h)
            refine Chk.mk (bnd 1 2 rfl) ?_
            refine Br.mk (fun h => ?_) (fun h => ?_)
            · have h : b > a := of_decide_eq_true h
              refine Chk.mk (ink1 1 rfl) ⟨⟨2, by omega⟩, ?_, by show 2 - 2 < 2 - 1; omega⟩
              refine ⟨?_, ?_, rfl, rfl, rfl⟩ <;> repeat' (first | exact trivial | exact rfl | (intro i hi; exact rfl) | (show b = max a b; omega) | refine And.intro ?_ ?_)
            · have h : ¬ b > a := of_decide_eq_false h
              refine Chk.mk (ink1 1 rfl) ⟨⟨2, by omega⟩, ?_, by show 2 - 2 < 2 - 1; omega⟩
              refine ⟨?_, ?_, rfl, rfl, rfl⟩ <;> repeat' (first | exact trivial | exact rfl | (intro i hi; exact rfl) | (show a = max a b; omega) | refine And.intro ?_ ?_)
          · refine Br.mk (fun h => by cases h) (fun _ => ?_)
            exact ⟨.inl rfl, end_noid ⟨rfl, rfl⟩ rfl rfl ⟨trivial, trivial⟩⟩
      · cases h
    · cases h
  · rename_i id tot
    split at h
    · rename_i a0 a1 a2 a3 a4 e
      cases h
      have hh : Hand H [(id, .cells 68 (c5 a0 a1 a2 a3 a4))] := hand_cells e rfl ⟨trivial, trivial, trivial, trivial, trivial, trivial⟩
      refine ⟨_, [.ss 0 0 5 tot], [(0, .cells 68 (c5 a0 a1 a2 a3 a4))], 1, [], rfl, rfl, Nat.le_of_ble_eq_true rfl, hh, rfl, rfl, fun G hG => ?_⟩
      refine loop_ok (g.ok _ _ _) (fun x : {i : Nat // i ≤ 5} => ⟨[(2, ⟨[], .si .i64 (gst5 a0 a1 a2 a3 a4 x.1)⟩), (5, ⟨[], .ss 0 0 5 tot⟩), (6, ⟨[], .si .i64 5⟩), (7, ⟨[], .si .i64 x.1⟩)], [],
        [(0, .cells 68 (c5 a0 a1 a2 a3 a4))], 1, []⟩) (fun x => 5 - x.1) (fun _ j hj => hG j hj) ⟨0, Nat.zero_le _⟩ ?_ ?_
      · refine ⟨?_, ?_, rfl, rfl, rfl⟩ <;> repeat' (first | exact trivial | exact rfl | (intro i hi; exact rfl) | refine And.intro ?_ ?_)
      · rintro ⟨i, hi⟩
        rcases (show i = 0 ∨ i = 1 ∨ i = 2 ∨ i = 3 ∨ i = 4 ∨ i = 5 by omega) with rfl | rfl | rfl | rfl | rfl | rfl
        · refine Br.mk (fun _ => ?_) (fun h => by cases h)
          refine Chk.mk (bnd 0 5 rfl) ?_
          refine Br.mk (fun _ => ?_) (fun h => by cases h)
          refine Chk.mk (ink1 0 rfl) ⟨⟨1, by omega⟩, ?_, by show 5 - 1 < 5 - 0; omega⟩
          refine ⟨?_, ?_, rfl, rfl, rfl⟩ <;> repeat' (first | exact trivial | exact rfl | (intro i hi; exact rfl) | refine And.intro ?_ ?_)
        · refine Br.mk (fun _ => ?_) (fun h => by cases h)
          refine Chk.mk (bnd 1 5 rfl) ?_
          refine Br.mk (fun h => ?_) (fun h => ?_)
          · have h : a1 > a0 := of_decide_eq_true h
            refine Chk.mk (ink1 1 rfl) ⟨⟨2, by omega⟩, ?_, by show 5 - 2 < 5 - 1; omega⟩
            refine ⟨?_, ?_, rfl, rfl, rfl⟩ <;> repeat' (first | exact trivial | exact rfl | (intro i hi; exact rfl) | (show a1 = max a0 a1; omega) | refine And.intro ?_ ?_)
          · have h : ¬ a1 > a0 := of_decide_eq_false h
            refine Chk.mk (ink1 1 rfl) ⟨⟨2, by omega⟩, ?_, by show 5 - 2 < 5 - 1; omega⟩
            refine ⟨?_, ?_, rfl, rfl, rfl⟩ <;> repeat' (first | exact trivial | exact rfl | (intro i hi; exact rfl) | (show a0 = max a0 a1; omega) | refine And.intro ?_ ?_)
        · refine Br.mk (fun _ => ?_) (fun h => by cases h)
          refine Chk.mk (bnd 2 5 rfl) ?_
          refine Br.mk (fun h => ?_) (fun h => ?_)
          · have h : a2 > max a0 a1 := of_decide_eq_true h
            refine Chk.mk (ink1 2 rfl) ⟨⟨3, by omega⟩, ?_, by show 5 - 3 < 5 - 2; omega⟩
            refine ⟨?_, ?_, rfl, rfl, rfl⟩ <;> repeat' (first | exact trivial | exact rfl | (intro i hi; exact rfl) | (show a2 = max (max a0 a1) a2; omega) | refine And.intro ?_ ?_)
          · have h : ¬ a2 > max a0 a1 := of_decide_eq_false h
            refine Chk.mk (ink1 2 rfl) ⟨⟨3, by omega⟩, ?_, by show 5 - 3 < 5 - 2; omega⟩
            refine ⟨?_, ?_, rfl, rfl, rfl⟩ <;> repeat' (first | exact trivial | exact rfl | (intro i hi; exact rfl) | (show max a0 a1 = max (max a0 a1) a2; omega) | refine And.intro ?_ ?_)
        · refine Br.mk (fun _ => ?_) (fun h => by cases h)
          refine Chk.mk (bnd 3 5 rfl) ?_
          refine Br.mk (fun h => ?_) (fun h => ?_)
          · have h : a3 > max (max a0 a1) a2 := of_decide_eq_true h
            refine Chk.mk (ink1 3 rfl) ⟨⟨4, by omega⟩, ?_, by show 5 - 4 < 5 - 3; omega⟩
            refine ⟨?_, ?_, rfl, rfl, rfl⟩ <;> repeat' (first | exact trivial | exact rfl | (intro i hi; exact rfl) | (show a3 = max (max (max a0 a1) a2) a3; omega) | refine And.intro ?_ ?_)
          · have h : ¬ a3 > max (max a0 a1) a2 := of_decide_eq_false h
            refine Chk.mk (ink1 3 rfl) ⟨⟨4, by omega⟩, ?_, by show 5 - 4 < 5 - 3; omega⟩
            refine ⟨?_, ?_, rfl, rfl, rfl⟩ <;> repeat' (first | exact trivial | exact rfl | (intro i hi; exact rfl) | (show max (max a0 a1) a2 = max (max (max a0 a1) a2) a3; omega) | refine And.intro ?_ ?_)
        · refine Br.mk (fun _ => ?_) (fun h => by cases h)
          refine Chk.mk (bnd 4 5 rfl) ?_
          refine Br.mk (fun h => ?_) (fun h => ?_)
          · have h : a4 > max (max (max a0 a1) a2) a3 := of_decide_eq_true h
            refine Chk.mk (ink1 4 rfl) ⟨⟨5, by omega⟩, ?_, by show 5 - 5 < 5 - 4; omega⟩
            refine ⟨?_, ?_, rfl, rfl, rfl⟩ <;> repeat' (first | exact trivial | exact rfl | (intro i hi; exact rfl) | (show a4 = max (max (max (max a0 a1) a2) a3) a4; omega) | refine And.intro ?_ ?_)
          · have h : ¬ a4 > max (max (max a0 a1) a2) a3 := of_decide_eq_false h
            refine Chk.mk (ink1 4 rfl) ⟨⟨5, by omega⟩, ?_, by show 5 - 5 < 5 - 4; omega⟩
            refine ⟨?_, ?_, rfl, rfl, rfl⟩ <;> repeat' (first | exact trivial | exact rfl | (intro i hi; exact rfl) | (show max (max (max a0 a1) a2) a3 = max (max (max (max a0 a1) a2) a3) a4; omega) | refine And.intro ?_ ?_)
        · refine Br.mk (fun h => by cases h) (fun _ => ?_)
          exact ⟨.inl rfl, end_noid ⟨rfl, rfl⟩ rfl rfl (by repeat' (first | exact trivial | exact rfl | refine And.intro ?_ ?_))⟩
    · cases h
  · cases h
theorem g84 {l : List (Nat × Ct)} (g : Good P T l) : Good P T ((84, c84) :: l) := g.add (k84 g) c84_mono (body_of Try.func84 (c := code Try.f84) rfl (by decide))
end Go.X.Gr
end

section
set_option linter.unusedVariables false
set_option linter.unusedSimpArgs false
set_option linter.unusedSectionVars false
/- Grade: the faces of a block. -/
set_option linter.unusedVariables false
set_option linter.unusedSimpArgs false
set_option maxRecDepth 10000
set_option maxHeartbeats 2000000
namespace Go.X.Gr
open Go Go.Proofs Go.X

def sm (a : Int) : Prop := -1000 ≤ a ∧ a ≤ 1000
def sm5 (a0 a1 a2 a3 a4 : Int) : Prop := sm a0 ∧ sm a1 ∧ sm a2 ∧ sm a3 ∧ sm a4
def ng5 (a0 a1 a2 a3 a4 : Int) : Nat → List SV
  | 0 => c5 a0 a1 a2 a3 a4
  | 1 => c5 (0 - a0) a1 a2 a3 a4
  | 2 => c5 (0 - a0) (0 - a1) a2 a3 a4
  | 3 => c5 (0 - a0) (0 - a1) (0 - a2) a3 a4
  | 4 => c5 (0 - a0) (0 - a1) (0 - a2) (0 - a3) a4
  | _ => c5 (0 - a0) (0 - a1) (0 - a2) (0 - a3) (0 - a4)
/-! ### turned -/
def trnV (a0 a1 a2 a3 a4 : Int) : Int := max5 (0 - a0) (0 - a1) (0 - a2) (0 - a3) (0 - a4)
theorem max5_b {a0 a1 a2 a3 a4 : Int} (h : sm5 a0 a1 a2 a3 a4) : sm (max5 a0 a1 a2 a3 a4) := by
  unfold sm5 sm at h
  unfold sm max5
  omega
theorem neg_b {a0 a1 a2 a3 a4 : Int} (h : sm5 a0 a1 a2 a3 a4) : sm5 (0 - a0) (0 - a1) (0 - a2) (0 - a3) (0 - a4) := by
  unfold sm5 sm at h ⊢
  omega
def c92 : Ct := plainCt fun
  | [.agg [.si .i64 a0, .si .i64 a1, .si .i64 a2, .si .i64 a3, .si .i64 a4]] => some ⟨some (sm5 a0 a1 a2 a3 a4), none, .si .i64 (trnV a0 a1 a2 a3 a4), []⟩
  | _ => none
theorem k92 {l : List (Nat × Ct)} (g0 : Good P T l) : COk P 92 c92 := by
  have g := g84 g0
  refine cok (C := tabC _) g.ok Try.func92 (c := code Try.f92) rfl fun fr args H out h hp => ?_
  simp only [c92, plainCt] at h
  split at h
  · rename_i a0 a1 a2 a3 a4
    cases h
    have hp : sm5 a0 a1 a2 a3 a4 := hp
    unfold sm5 sm at hp
    refine walk_plain rfl (Nat.le_of_ble_eq_true rfl) fun G hG => ?_
    refine loop_ok (g.ok _ _ _) (fun x : {i : Nat // i ≤ 5} => ⟨[(1, ⟨[], .sp 0 0⟩), (4, ⟨[], .si .i64 x.1⟩)], [],
      [(0, .cells 68 (ng5 a0 a1 a2 a3 a4 x.1))], 1, []⟩) (fun x => 5 - x.1) (fun _ j hj => hG j (Nat.zero_le _)) ⟨0, Nat.zero_le _⟩ ?_ ?_
    · refine ⟨?_, ?_, rfl, rfl, rfl⟩ <;> repeat' (first | exact trivial | exact rfl | (intro i hi; exact rfl) | refine And.intro ?_ ?_)
    · rintro ⟨i, hi⟩
      rcases (show i = 0 ∨ i = 1 ∨ i = 2 ∨ i = 3 ∨ i = 4 ∨ i = 5 by omega) with rfl | rfl | rfl | rfl | rfl | rfl
      · refine Br.mk (fun _ => ?_) (fun h => by cases h)
        refine Chk.mk (bnd 0 5 rfl) ?_
        refine Chk.mk (show InK .i64 (0 - a0) from ⟨by omega, by omega⟩) ?_
        refine Chk.mk (bnd 0 5 rfl) ?_
        refine Chk.mk (ink1 0 rfl) ⟨⟨1, by omega⟩, ?_, by show 5 - 1 < 5 - 0; omega⟩
        refine ⟨?_, ?_, rfl, rfl, rfl⟩ <;> repeat' (first | exact trivial | exact rfl | (intro i hi; exact rfl) | refine And.intro ?_ ?_)
      · refine Br.mk (fun _ => ?_) (fun h => by cases h)
        refine Chk.mk (bnd 1 5 rfl) ?_
        refine Chk.mk (show InK .i64 (0 - a1) from ⟨by omega, by omega⟩) ?_
        refine Chk.mk (bnd 1 5 rfl) ?_
        refine Chk.mk (ink1 1 rfl) ⟨⟨2, by omega⟩, ?_, by show 5 - 2 < 5 - 1; omega⟩
        refine ⟨?_, ?_, rfl, rfl, rfl⟩ <;> repeat' (first | exact trivial | exact rfl | (intro i hi; exact rfl) | refine And.intro ?_ ?_)
      · refine Br.mk (fun _ => ?_) (fun h => by cases h)
        refine Chk.mk (bnd 2 5 rfl) ?_
        refine Chk.mk (show InK .i64 (0 - a2) from ⟨by omega, by omega⟩) ?_
        refine Chk.mk (bnd 2 5 rfl) ?_
        refine Chk.mk (ink1 2 rfl) ⟨⟨3, by omega⟩, ?_, by show 5 - 3 < 5 - 2; omega⟩
        refine ⟨?_, ?_, rfl, rfl, rfl⟩ <;> repeat' (first | exact trivial | exact rfl | (intro i hi; exact rfl) | refine And.intro ?_ ?_)
      · refine Br.mk (fun _ => ?_) (fun h => by cases h)
        refine Chk.mk (bnd 3 5 rfl) ?_
        refine Chk.mk (show InK .i64 (0 - a3) from ⟨by omega, by omega⟩) ?_
        refine Chk.mk (bnd 3 5 rfl) ?_
        refine Chk.mk (ink1 3 rfl) ⟨⟨4, by omega⟩, ?_, by show 5 - 4 < 5 - 3; omega⟩
        refine ⟨?_, ?_, rfl, rfl, rfl⟩ <;> repeat' (first | exact trivial | exact rfl | (intro i hi; exact rfl) | refine And.intro ?_ ?_)
      · refine Br.mk (fun _ => ?_) (fun h => by cases h)
        refine Chk.mk (bnd 4 5 rfl) ?_
        refine Chk.mk (show InK .i64 (0 - a4) from ⟨by omega, by omega⟩) ?_
        refine Chk.mk (bnd 4 5 rfl) ?_
        refine Chk.mk (ink1 4 rfl) ⟨⟨5, by omega⟩, ?_, by show 5 - 5 < 5 - 4; omega⟩
        refine ⟨?_, ?_, rfl, rfl, rfl⟩ <;> repeat' (first | exact trivial | exact rfl | (intro i hi; exact rfl) | refine And.intro ?_ ?_)
      · refine Br.mk (fun h => by cases h) (fun _ => ?_)
        refine Chk.mk ⟨by decide, by decide, by decide, by decide⟩ ?_
        exact ⟨.inl rfl, end_plain ⟨rfl, rfl⟩ rfl rfl⟩
  · cases h
theorem g92 {l : List (Nat × Ct)} (g : Good P T l) : Good P T ((92, c92) :: l) := g.add (k92 g) (plainCt_mono _) (body_of Try.func92 (c := code Try.f92) rfl (by decide))

/-! ### off, varies -/
def offV (a0 a1 a2 a3 a4 : Int) : Int := max (max5 a0 a1 a2 a3 a4) (trnV a0 a1 a2 a3 a4)
def varV (a0 a1 a2 a3 a4 : Int) : Int := max5 a0 a1 a2 a3 a4 + trnV a0 a1 a2 a3 a4
def c58 : Ct := plainCt fun
  | [.agg [.si .i64 a0, .si .i64 a1, .si .i64 a2, .si .i64 a3, .si .i64 a4]] => some ⟨some (sm5 a0 a1 a2 a3 a4), none, .si .i64 (offV a0 a1 a2 a3 a4), []⟩
  | _ => none
theorem k58 {l : List (Nat × Ct)} (g0 : Good P T l) : COk P 58 c58 := by
  have g := g92 (g84 g0)
  refine cok (C := tabC _) g.ok Try.func58 (c := code Try.f58) rfl fun fr args H out h hp => ?_
  simp only [c58, plainCt] at h
  split at h
  · rename_i a0 a1 a2 a3 a4
    cases h
    have hp : sm5 a0 a1 a2 a3 a4 := hp
    refine walk_plain rfl (Nat.le_of_ble_eq_true rfl) fun G hG => ?_
    refine drawn_ok (g.ok _ _ _) fol [0,1,0,7,15,31,63] [] 6 (by kernel_rfl) ?_
    refine Chk.mk ⟨by decide, by decide, by decide, by decide⟩ ?_
    refine Chk.mk hp ?_
    exact ⟨.inl rfl, end_plain ⟨rfl, rfl⟩ rfl rfl⟩
  · cases h
theorem g58 {l : List (Nat × Ct)} (g : Good P T l) : Good P T ((58, c58) :: l) := g.add (k58 g) (plainCt_mono _) (body_of Try.func58 (c := code Try.f58) rfl (by decide))
def c55 : Ct := plainCt fun
  | [.agg [.si .i64 a0, .si .i64 a1, .si .i64 a2, .si .i64 a3, .si .i64 a4]] => some ⟨some (sm5 a0 a1 a2 a3 a4), none, .si .i64 (varV a0 a1 a2 a3 a4), []⟩
  | _ => none
theorem k55 {l : List (Nat × Ct)} (g0 : Good P T l) : COk P 55 c55 := by
  have g := g92 (g84 g0)
  refine cok (C := tabC _) g.ok Try.func55 (c := code Try.f55) rfl fun fr args H out h hp => ?_
  simp only [c55, plainCt] at h
  split at h
  · rename_i a0 a1 a2 a3 a4
    cases h
    have hp : sm5 a0 a1 a2 a3 a4 := hp
    have h1 := max5_b hp
    have h2 := max5_b (neg_b hp)
    refine walk_plain rfl (Nat.le_of_ble_eq_true rfl) fun G hG => ?_
    refine drawn_ok (g.ok _ _ _) fol [0,1,0,7,15,31] [] 5 (by kernel_rfl) ?_
    refine Chk.mk ⟨by decide, by decide, by decide, by decide⟩ ?_
    refine Chk.mk hp ?_
    refine Chk.mk (show InK .i64 (max5 a0 a1 a2 a3 a4 + trnV a0 a1 a2 a3 a4) from by unfold sm at h1 h2; unfold trnV; exact ⟨by omega, by omega⟩) ?_
    exact ⟨.inl rfl, end_plain ⟨rfl, rfl⟩ rfl rfl⟩
  · cases h
theorem g55 {l : List (Nat × Ct)} (g : Good P T l) : Good P T ((55, c55) :: l) := g.add (k55 g) (plainCt_mono _) (body_of Try.func55 (c := code Try.f55) rfl (by decide))

/-! ### at -/
def faceS (a0 a1 a2 a3 a4 : Int) : SV := .agg [.si .i64 (offV a0 a1 a2 a3 a4), .si .i64 (varV a0 a1 a2 a3 a4)]
def c80 : Ct := plainCt fun
  | [.agg [], .agg [.si .i64 a0, .si .i64 a1, .si .i64 a2, .si .i64 a3, .si .i64 a4]] => some ⟨some (sm5 a0 a1 a2 a3 a4), none, faceS a0 a1 a2 a3 a4, []⟩
  | _ => none
theorem k80 {l : List (Nat × Ct)} (g0 : Good P T l) : COk P 80 c80 := by
  have g := g58 (g55 g0)
  refine cok (C := tabC _) g.ok Try.func80 (c := code Try.f80) rfl fun fr args H out h hp => ?_
  simp only [c80, plainCt] at h
  split at h
  · rename_i a0 a1 a2 a3 a4
    cases h
    have hp : sm5 a0 a1 a2 a3 a4 := hp
    refine walk_plain rfl (Nat.le_of_ble_eq_true rfl) fun G hG => ?_
    refine drawn_ok (g.ok _ _ _) fol [0,1,0,7] [] 4 (by kernel_rfl) ?_
    refine Chk.mk hp ?_
    refine Chk.mk hp ?_
    exact ⟨.inl rfl, end_plain ⟨⟨rfl, rfl⟩, ⟨rfl, rfl⟩, trivial⟩ rfl rfl⟩
  · cases h
theorem g80 {l : List (Nat × Ct)} (g : Good P T l) : Good P T ((80, c80) :: l) := g.add (k80 g) (plainCt_mono _) (body_of Try.func80 (c := code Try.f80) rfl (by decide))
def lp5 (a0 a1 a2 a3 a4 v : Int) : Nat → List SV
  | 0 => c5 a0 a1 a2 a3 a4
  | 1 => c5 (min a0 v) a1 a2 a3 a4
  | 2 => c5 (min a0 v) (min a1 v) a2 a3 a4
  | 3 => c5 (min a0 v) (min a1 v) (min a2 v) a3 a4
  | 4 => c5 (min a0 v) (min a1 v) (min a2 v) (min a3 v) a4
  | _ => c5 (min a0 v) (min a1 v) (min a2 v) (min a3 v) (min a4 v)
def c121 : Ct := plainCt fun
  | [.agg [.si .i64 v], .agg [.si .i64 a0, .si .i64 a1, .si .i64 a2, .si .i64 a3, .si .i64 a4]] => some ⟨some (sm5 a0 a1 a2 a3 a4 ∧ sm v), none, faceS (min a0 v) (min a1 v) (min a2 v) (min a3 v) (min a4 v), []⟩
  | _ => none
theorem k121 {l : List (Nat × Ct)} (g0 : Good P T l) : COk P 121 c121 := by
  have g := g80 g0
  refine cok (C := tabC _) g.ok Try.func121 (c := code Try.f121) rfl fun fr args H out h hp => ?_
  simp only [c121, plainCt] at h
  split at h
  · rename_i v a0 a1 a2 a3 a4
    cases h
    have hp : sm5 a0 a1 a2 a3 a4 ∧ sm v := hp
    have hq : sm5 (min a0 v) (min a1 v) (min a2 v) (min a3 v) (min a4 v) := by
      unfold sm5 sm at hp ⊢
      omega
    refine walk_plain rfl (Nat.le_of_ble_eq_true rfl) fun G hG => ?_
    refine loop_ok (g.ok _ _ _) (fun x : {i : Nat // i ≤ 5} => ⟨[(2, ⟨[], .sp 0 0⟩), (3, ⟨[], .sp 1 0⟩), (4, ⟨[], .sp 2 0⟩), (6, ⟨[], .si .i64 x.1⟩)], [],
      [(0, .cells 90 [.si .i64 v]), (1, .cells 68 (lp5 a0 a1 a2 a3 a4 v x.1)), (2, .cells 92 [.si .i64 0, .si .i64 0])], 3, []⟩) (fun x => 5 - x.1) (fun _ j hj => hG j (Nat.zero_le _)) ⟨0, Nat.zero_le _⟩ ?_ ?_
    · refine ⟨?_, ?_, rfl, rfl, rfl⟩ <;> repeat' (first | exact trivial | exact rfl | (intro i hi; exact rfl) | refine And.intro ?_ ?_)
    · rintro ⟨i, hi⟩
      rcases (show i = 0 ∨ i = 1 ∨ i = 2 ∨ i = 3 ∨ i = 4 ∨ i = 5 by omega) with rfl | rfl | rfl | rfl | rfl | rfl
      · refine Br.mk (fun _ => ?_) (fun h => by cases h)
        refine drawn_ok (g.ok _ _ _) fol [0,0,2,6,0,16,62,127,255] [(8, 1)] 9 (by kernel_rfl) ?_
        refine Chk.mk (bnd 0 5 rfl) ?_
        refine Chk.mk (bnd 0 5 rfl) ?_
        refine Chk.mk (ink1 0 rfl) ⟨⟨1, by omega⟩, ?_, by show 5 - 1 < 5 - 0; omega⟩
        refine ⟨?_, ?_, rfl, rfl, rfl⟩ <;> repeat' (first | exact trivial | exact rfl | (intro i hi; exact rfl) | refine And.intro ?_ ?_)
      · refine Br.mk (fun _ => ?_) (fun h => by cases h)
        refine drawn_ok (g.ok _ _ _) fol [0,0,2,6,0,16,62,127,255] [(8, 1)] 9 (by kernel_rfl) ?_
        refine Chk.mk (bnd 1 5 rfl) ?_
        refine Chk.mk (bnd 1 5 rfl) ?_
        refine Chk.mk (ink1 1 rfl) ⟨⟨2, by omega⟩, ?_, by show 5 - 2 < 5 - 1; omega⟩
        refine ⟨?_, ?_, rfl, rfl, rfl⟩ <;> repeat' (first | exact trivial | exact rfl | (intro i hi; exact rfl) | refine And.intro ?_ ?_)
      · refine Br.mk (fun _ => ?_) (fun h => by cases h)
        refine drawn_ok (g.ok _ _ _) fol [0,0,2,6,0,16,62,127,255] [(8, 1)] 9 (by kernel_rfl) ?_
        refine Chk.mk (bnd 2 5 rfl) ?_
        refine Chk.mk (bnd 2 5 rfl) ?_
        refine Chk.mk (ink1 2 rfl) ⟨⟨3, by omega⟩, ?_, by show 5 - 3 < 5 - 2; omega⟩
        refine ⟨?_, ?_, rfl, rfl, rfl⟩ <;> repeat' (first | exact trivial | exact rfl | (intro i hi; exact rfl) | refine And.intro ?_ ?_)
      · refine Br.mk (fun _ => ?_) (fun h => by cases h)
        refine drawn_ok (g.ok _ _ _) fol [0,0,2,6,0,16,62,127,255] [(8, 1)] 9 (by kernel_rfl) ?_
        refine Chk.mk (bnd 3 5 rfl) ?_
        refine Chk.mk (bnd 3 5 rfl) ?_
        refine Chk.mk (ink1 3 rfl) ⟨⟨4, by omega⟩, ?_, by show 5 - 4 < 5 - 3; omega⟩
        refine ⟨?_, ?_, rfl, rfl, rfl⟩ <;> repeat' (first | exact trivial | exact rfl | (intro i hi; exact rfl) | refine And.intro ?_ ?_)
      · refine Br.mk (fun _ => ?_) (fun h => by cases h)
        refine drawn_ok (g.ok _ _ _) fol [0,0,2,6,0,16,62,127,255] [(8, 1)] 9 (by kernel_rfl) ?_
        refine Chk.mk (bnd 4 5 rfl) ?_
        refine Chk.mk (bnd 4 5 rfl) ?_
        refine Chk.mk (ink1 4 rfl) ⟨⟨5, by omega⟩, ?_, by show 5 - 5 < 5 - 4; omega⟩
        refine ⟨?_, ?_, rfl, rfl, rfl⟩ <;> repeat' (first | exact trivial | exact rfl | (intro i hi; exact rfl) | refine And.intro ?_ ?_)
      · refine Br.mk (fun h => by cases h) (fun _ => ?_)
        refine fb_field0 (bb := 0) 0 (g.ok _ _ _) cont_std rfl rfl rfl rfl rfl rfl rfl rfl rfl rfl rfl rfl rfl rfl (by rw [show P.cellsOf 90 = 1 from by kernel_rfl]; decide) (by kernel_rfl) fun ad => ?_
        refine fb_load0 ad (g.ok _ _ _) cont_std rfl rfl rfl rfl rfl rfl rfl rfl rfl ?_
        refine Chk.mk hq ?_
        exact ⟨.inl rfl, end_plain ⟨⟨rfl, rfl⟩, ⟨rfl, rfl⟩, trivial⟩ rfl rfl⟩
  · cases h
end Go.X.Gr
end

section
set_option linter.unusedVariables false
set_option linter.unusedSimpArgs false
set_option linter.unusedSectionVars false
/- Grade: blocks, whatever is done with each. -/
set_option linter.unusedVariables false
set_option linter.unusedSimpArgs false
set_option maxRecDepth 10000
set_option maxHeartbeats 4000000
namespace Go.X.Gr
open Go Go.Proofs Go.X

/-- Goes through a list, until told to stop. -/
def foldS {γ α : Type} (f : γ → α → γ × Bool) : γ → List α → γ × Bool
  | c, [] => (c, true)
  | c, x :: l => match f c x with
    | (c', true) => foldS f c' l
    | (c', false) => (c', false)
theorem foldS_go {γ α : Type} {f : γ → α → γ × Bool} {c : γ} {x : α} {l : List α} (h : (f c x).2 = true) : foldS f c (x :: l) = foldS f (f c x).1 l := by
  rw [foldS]
  split
  · rename_i e; rw [e]
  · rename_i e; rw [e] at h; cases h
theorem foldS_stop {γ α : Type} {f : γ → α → γ × Bool} {c : γ} {x : α} {l : List α} (h : (f c x).2 = false) : foldS f c (x :: l) = ((f c x).1, false) := by
  rw [foldS]
  split
  · rename_i e; rw [e] at h; cases h
  · rename_i e; rw [e]
theorem foldS_ok {γ α : Type} {f : γ → α → γ × Bool} {ok : γ → Prop} (h : ∀ c x, ok c → (f c x).2 = true → ok (f c x).1) : ∀ {l : List α} {c : γ}, ok c → (foldS f c l).2 = true → ok (foldS f c l).1
  | [], c, hc, _ => hc
  | x :: l, c, hc, hs => by
    cases e : (f c x).2 with
    | true =>
      rw [foldS_go e] at hs ⊢
      exact foldS_ok h (h c x hc e) hs
    | false => rw [foldS_stop e] at hs; cases hs
def upI : Nat → Int → List Int
  | 0, _ => []
  | n + 1, k => k :: upI n (k + 1)
def rangeI (lo hi : Int) : List Int := upI (hi + 1 - lo).toNat lo
theorem rangeI_cons {lo hi : Int} (h : lo ≤ hi) : rangeI lo hi = lo :: rangeI (lo + 1) hi := by
  unfold rangeI
  obtain ⟨m, hm⟩ : ∃ m : Nat, (hi + 1 - lo).toNat = m + 1 := ⟨(hi - lo).toNat, by omega⟩
  rw [hm, show (hi + 1 - (lo + 1)).toNat = m by omega]
  rfl
theorem rangeI_nil {lo hi : Int} (h : hi < lo) : rangeI lo hi = [] := by
  unfold rangeI
  rw [show (hi + 1 - lo).toNat = 0 by omega]
  rfl

structure Pts where
  l0 : Int
  h0 : Int
  l1 : Int
  h1 : Int
  l2 : Int
  h2 : Int
  l3 : Int
  h3 : Int
  l4 : Int
  h4 : Int
  st : Int
def ptsB (g : Pts) : Prop := (-20 ≤ g.l0 ∧ g.h0 ≤ 20) ∧ (-20 ≤ g.l1 ∧ g.h1 ≤ 20) ∧ (-20 ≤ g.l2 ∧ g.h2 ≤ 20) ∧ (-20 ≤ g.l3 ∧ g.h3 ≤ 20) ∧ (-20 ≤ g.l4 ∧ g.h4 ≤ 20) ∧ 0 ≤ g.st ∧ g.st ≤ 10
def near (st a k : Int) : Bool := !decide (max (a - k) (k - a) > st)
def fu0 (st : Int) (k : Int) : Nat → Bool
  | 0 => true
  | _ => true
def fu1 (st : Int) (a0 : Int) (k : Int) : Nat → Bool
  | 0 => true
  | _ => near st a0 k
def fu2 (st : Int) (a0 a1 : Int) (k : Int) : Nat → Bool
  | 0 => true
  | 1 => near st a0 k
  | _ => near st a0 k && near st a1 k
def fu3 (st : Int) (a0 a1 a2 : Int) (k : Int) : Nat → Bool
  | 0 => true
  | 1 => near st a0 k
  | 2 => near st a0 k
  | _ => near st a0 k && near st a2 k
def fu4 (st : Int) (a0 a1 a2 a3 : Int) (k : Int) : Nat → Bool
  | 0 => true
  | 1 => near st a0 k
  | 2 => near st a0 k && near st a1 k
  | 3 => near st a0 k && near st a1 k
  | _ => near st a0 k && near st a1 k && near st a3 k

section
variable {γ : Type} (f : γ → Int → Int → Int → Int → Int → γ × Bool) (g : Pts)
def on4 (c : γ) (a0 a1 a2 a3 : Int) : γ × Bool := foldS (fun c k => f c a0 a1 a2 a3 k) c ((rangeI g.l4 g.h4).filter fun k => fu4 g.st a0 a1 a2 a3 k 4)
def on3 (c : γ) (a0 a1 a2 : Int) : γ × Bool := foldS (fun c k => on4 f g c a0 a1 a2 k) c ((rangeI g.l3 g.h3).filter fun k => fu3 g.st a0 a1 a2 k 3)
def on2 (c : γ) (a0 a1 : Int) : γ × Bool := foldS (fun c k => on3 f g c a0 a1 k) c ((rangeI g.l2 g.h2).filter fun k => fu2 g.st a0 a1 k 2)
def on1 (c : γ) (a0 : Int) : γ × Bool := foldS (fun c k => on2 f g c a0 k) c ((rangeI g.l1 g.h1).filter fun k => fu1 g.st a0 k 1)
def on0 (c : γ) : γ × Bool := foldS (fun c k => on1 f g c k) c ((rangeI g.l0 g.h0).filter fun k => fu0 g.st  k 0)
end

/-! ### The heap -/
def bnC (g : Pts) : List SV := [.sl 0, .si .i64 g.l0, .si .i64 g.h0, .si .i64 g.l1, .si .i64 g.h1, .si .i64 g.l2, .si .i64 g.h2, .si .i64 g.l3, .si .i64 g.h3, .si .i64 g.l4, .si .i64 g.h4, .si .i64 g.st, .sl 2]
def keyOk (t : Nat) : Bool := match Nat.blt t 22, Nat.beq t 1, Nat.beq t 4 with
  | true, false, false => true
  | _, _, _ => false
def offA : List (Nat × HB) → Bool
  | [] => true
  | (t, _) :: r => match keyOk t with
    | true => false
    | false => offA r
theorem find_skip {t : Nat} (ht : keyOk t = true) : ∀ {A H : List (Nat × HB)}, offA A = true → findH (A ++ H) t = findH H t
  | [], H, _ => rfl
  | (s, x) :: r, H, h => by
    simp only [offA] at h
    split at h
    · cases h
    · rename_i e
      have hne : s ≠ t := by rintro rfl; rw [ht] at e; cases e
      rw [List.cons_append, findH_cons, updL_ne _ _ hne]
      exact find_skip ht h
theorem weak_tail {n : Nat} {A H : List (Nat × HB)} (hA : offA A = true) : ∀ {B : List (Nat × HB)}, weakRH (fun j => j) n H B → (∀ p ∈ B, keyOk p.1 = true) → weakRH (fun j => j) n (A ++ H) B
  | [], _, _ => trivial
  | (t, hb) :: r, h, hk => by
    simp only [weakRH] at h ⊢
    refine ⟨?_, weak_tail hA h.2 fun p hp => hk p (List.mem_cons_of_mem _ hp)⟩
    rw [find_skip (hk _ List.mem_cons_self) hA]
    exact h.1
theorem weak_both {n : Nat} {H : List (Nat × HB)} {T : List (Nat × HB)} (hT : weakRH (fun j => j) n H T) : ∀ {B : List (Nat × HB)}, weakRH (fun j => j) n H B → weakRH (fun j => j) n H (B ++ T)
  | [], _ => hT
  | (t, hb) :: r, h => by
    simp only [weakRH] at h
    exact ⟨h.1, weak_both hT h.2⟩
/-- From one front to another one, before the same tail. -/
theorem weak_app {n : Nat} {A B T : List (Nat × HB)} (hT : weakRH (fun j => j) n T T) (hk : ∀ p ∈ T, keyOk p.1 = true) (hA : offA A = true) (h : weakRH (fun j => j) n (A ++ T) B) : weakRH (fun j => j) n (A ++ T) (B ++ T) :=
  weak_both (weak_tail hA hT hk) h

def Fr (g : Pts) (a0 a1 a2 a3 a4 : Int) : List (Nat × HB) :=
  [(24, .cells 66 [.fn (Fn.func 99) [] [.sp 22 0, .sp 23 0, .sp 4 0, .sp 24 0]]), (23, .cells 68 (c5 a0 a1 a2 a3 a4)), (22, .cells 122 [.fy 21]), (4, .cells 64 [.sp 1 0]), (1, .cells 108 (bnC g))]
theorem b99 : Body P 99 := body_of Try.func99 (c := code Try.f99) rfl (by decide)
theorem b98 : Body P 98 := body_of Try.func98 (c := code Try.f98) rfl (by decide)
theorem g8485 : Good P T [(84, c84), (85, c85)] := g84 (g85 good0)
def okI (a : Int) : Prop := -20 ≤ a ∧ a ≤ 20
theorem on4_ok {γ : Type} {f : γ → Int → Int → Int → Int → Int → γ × Bool} {g : Pts} {ok : γ → Prop} (hO : ∀ c a0 a1 a2 a3 a4, ok c → (f c a0 a1 a2 a3 a4).2 = true → ok (f c a0 a1 a2 a3 a4).1) {c : γ} {a0 a1 a2 a3 : Int} (hc : ok c) (h : (on4 f g c a0 a1 a2 a3).2 = true) : ok (on4 f g c a0 a1 a2 a3).1 := foldS_ok (fun c k h1 h2 => hO _ _ _ _ _ _ h1 h2) hc h
theorem on3_ok {γ : Type} {f : γ → Int → Int → Int → Int → Int → γ × Bool} {g : Pts} {ok : γ → Prop} (hO : ∀ c a0 a1 a2 a3 a4, ok c → (f c a0 a1 a2 a3 a4).2 = true → ok (f c a0 a1 a2 a3 a4).1) {c : γ} {a0 a1 a2 : Int} (hc : ok c) (h : (on3 f g c a0 a1 a2).2 = true) : ok (on3 f g c a0 a1 a2).1 := foldS_ok (fun c k h1 h2 => on4_ok hO h1 h2) hc h
theorem on2_ok {γ : Type} {f : γ → Int → Int → Int → Int → Int → γ × Bool} {g : Pts} {ok : γ → Prop} (hO : ∀ c a0 a1 a2 a3 a4, ok c → (f c a0 a1 a2 a3 a4).2 = true → ok (f c a0 a1 a2 a3 a4).1) {c : γ} {a0 a1 : Int} (hc : ok c) (h : (on2 f g c a0 a1).2 = true) : ok (on2 f g c a0 a1).1 := foldS_ok (fun c k h1 h2 => on3_ok hO h1 h2) hc h
theorem on1_ok {γ : Type} {f : γ → Int → Int → Int → Int → Int → γ × Bool} {g : Pts} {ok : γ → Prop} (hO : ∀ c a0 a1 a2 a3 a4, ok c → (f c a0 a1 a2 a3 a4).2 = true → ok (f c a0 a1 a2 a3 a4).1) {c : γ} {a0 : Int} (hc : ok c) (h : (on1 f g c a0).2 = true) : ok (on1 f g c a0).1 := foldS_ok (fun c k h1 h2 => on2_ok hO h1 h2) hc h
section
variable {γ : Type} {f : γ → Int → Int → Int → Int → Int → γ × Bool} {g : Pts} {CH : γ → List (Nat × HB)} {ok : γ → Prop} (hg : ptsB g) (hT : ∀ c, weakRH (fun j => j) 25 (CH c) (CH c)) (hK : ∀ c, ∀ p ∈ CH c, keyOk p.1 = true)
  (hO : ∀ c a0 a1 a2 a3 a4, ok c → (f c a0 a1 a2 a3 a4).2 = true → ok (f c a0 a1 a2 a3 a4).1)
  (hY : ∀ c a0 a1 a2 a3 a4, ok c → okI a0 → okI a1 → okI a2 → okI a3 → okI a4 → YieldOk P T (tabC [(84, c84), (85, c85)]) 21 [.agg (c5 a0 a1 a2 a3 a4)] (Fr g a0 a1 a2 a3 a4 ++ CH c) 25 (f c a0 a1 a2 a3 a4).2 (Fr g a0 a1 a2 a3 a4 ++ CH (f c a0 a1 a2 a3 a4).1) 25)
include hg hT hK hO hY
theorem s99_5 (c : γ) (hc : ok c) {a0 a1 a2 a3 a4 : Int} (o0 : okI a0) (o1 : okI a1) (o2 : okI a2) (o3 : okI a3) (o4 : okI a4) {Rv : SV → List (Nat × HB) → Nat → Prop} {Rp : List PanicEntry → List (Nat × HB) → Nat → Prop}
    (hRv : Rv (.sb (f c a0 a1 a2 a3 a4).2) (Fr g a0 a1 a2 a3 a4 ++ CH (f c a0 a1 a2 a3 a4).1) 25) :
    CallS P 99 [.si .i64 5, .sp 22 0, .sp 23 0, .sp 4 0, .sp 24 0] (Fr g a0 a1 a2 a3 a4 ++ CH c) 25 Rv Rp := by
  have gg := g8485
  refine callS_to gg.ok Try.func99 (c := code Try.f99) rfl (Nat.le_of_ble_eq_true rfl) _ _ _ (fun G2 hG2 => ?_) hRv
  refine Br.mk (fun _ => ?_) (fun h => by cases h)
  refine hY c _ _ _ _ _ hc o0 o1 o2 o3 o4 _ _ _ _ _ _ _ _ _ _ _ _ _ _ _ cont_std rfl rfl rfl rfl rfl rfl rfl ?_
  refine ⟨fun j => j, ?_, rfl, rfl, injI_id _, rfl, rfl⟩
  exact weak_app (A := Fr g a0 a1 a2 a3 a4) (B := Fr g a0 a1 a2 a3 a4) (hT _) (hK _) rfl (by repeat' (first | exact trivial | exact rfl | (intro i hi; exact rfl) | refine And.intro ?_ ?_))
theorem s99_4 (c : γ) (hc : ok c) {a0 a1 a2 a3 : Int} (o0 : okI a0) (o1 : okI a1) (o2 : okI a2) (o3 : okI a3) {b4 : Int} {Rv : SV → List (Nat × HB) → Nat → Prop} {Rp : List PanicEntry → List (Nat × HB) → Nat → Prop}
    (hRv : ∀ e4 : Int, Rv (.sb (on4 f g c a0 a1 a2 a3).2) (Fr g a0 a1 a2 a3 e4 ++ CH (on4 f g c a0 a1 a2 a3).1) 25) :
    CallS P 99 [.si .i64 4, .sp 22 0, .sp 23 0, .sp 4 0, .sp 24 0] (Fr g a0 a1 a2 a3 b4 ++ CH c) 25 Rv Rp := by
  have gg := g8485
  refine callS_toE (ι := Int) gg.ok Try.func99 (c := code Try.f99) rfl (Nat.le_of_ble_eq_true rfl) (fun _ => .sb (on4 f g c a0 a1 a2 a3).2) (fun x => Fr g a0 a1 a2 a3 x ++ CH (on4 f g c a0 a1 a2 a3).1) 25 (fun G2 hG2 => ?_) (fun x => hRv x)
  obtain ⟨R, hR⟩ : ∃ R, on4 f g c a0 a1 a2 a3 = R := ⟨_, rfl⟩
  rw [hR]
  have hg' := hg
  unfold ptsB at hg'
  have p0 := o0
  unfold okI at p0
  have p1 := o1
  unfold okI at p1
  have p2 := o2
  unfold okI at p2
  have p3 := o3
  unfold okI at p3
  refine Br.mk (fun h => by cases h) (fun _ => ?_)
  refine Chk.mk (bnd 4 5 rfl) ?_
  refine loop_okR (gg.ok _ _ _) 25 (fun x : {x : Int × γ × Int // g.l4 ≤ x.1 ∧ (x.1 ≤ g.h4 + 1 ∨ x.1 = g.l4) ∧ foldS (fun c k => f c a0 a1 a2 a3 k) x.2.1 ((rangeI x.1 g.h4).filter fun k => fu4 g.st a0 a1 a2 a3 k 4) = R ∧ ok x.2.1} =>
    ⟨[(0, ⟨[], .si .i64 4⟩), (1, ⟨[], .sp 22 0⟩), (2, ⟨[], .sp 23 0⟩), (3, ⟨[], .sp 4 0⟩), (4, ⟨[], .sp 24 0⟩), (7, ⟨[], .si .i64 x.1.1⟩)], [],
    Fr g a0 a1 a2 a3 x.1.2.2 ++ CH x.1.2.1, 25, []⟩) (fun x => (g.h4 + 1 - x.1.1).toNat) hG2 ⟨(g.l4, c, b4), by omega, .inr rfl, hR, hc⟩ (fun j => j) ?_ ?_
  · refine ⟨?_, weak_app (A := Fr g a0 a1 a2 a3 b4) (B := Fr g a0 a1 a2 a3 b4) (hT _) (hK _) rfl (by repeat' (first | exact trivial | exact rfl | (intro i hi; exact rfl) | refine And.intro ?_ ?_)), injI_id _, rfl, rfl, rfl, trivial⟩
    repeat' (first | exact trivial | exact rfl | (intro i hi; exact rfl) | refine And.intro ?_ ?_)
  · rintro ⟨⟨k, c, b4⟩, hk1, hk2, hk3, hc⟩
    refine Chk.mk (bnd 4 5 rfl) ?_
    refine Br.mk (fun h1 => ?_) (fun h1 => ?_)
    · have h1 : k ≤ g.h4 := of_decide_eq_true h1
      have hk3 : foldS (fun c k => f c a0 a1 a2 a3 k) c ((rangeI k g.h4).filter fun k => fu4 g.st a0 a1 a2 a3 k 4) = R := hk3
      rw [rangeI_cons h1] at hk3
      refine Chk.mk ⟨by decide, by decide, by decide, by decide⟩ ?_
      refine loop_okR (gg.ok _ _ _) 25 (fun x : {i : Nat // i ≤ 4 ∧ fu4 g.st a0 a1 a2 a3 k i = true} =>
        ⟨[(0, ⟨[], .si .i64 4⟩), (1, ⟨[], .sp 22 0⟩), (2, ⟨[], .sp 23 0⟩), (3, ⟨[], .sp 4 0⟩), (4, ⟨[], .sp 24 0⟩), (7, ⟨[], .si .i64 k⟩), (36, ⟨[], .ss 23 0 4 5⟩), (37, ⟨[], .si .i64 4⟩), (38, ⟨[], .si .i64 x.1⟩)], [],
        Fr g a0 a1 a2 a3 b4 ++ CH c, 25, []⟩) (fun x => 4 - x.1) hG2 ⟨0, Nat.zero_le _, rfl⟩ (fun j => j) ?_ ?_
      · refine ⟨?_, weak_app (A := Fr g a0 a1 a2 a3 b4) (B := Fr g a0 a1 a2 a3 b4) (hT _) (hK _) rfl (by repeat' (first | exact trivial | exact rfl | (intro i hi; exact rfl) | refine And.intro ?_ ?_)), injI_id _, rfl, rfl, rfl, trivial⟩
        repeat' (first | exact trivial | exact rfl | (intro i hi; exact rfl) | refine And.intro ?_ ?_)
      · rintro ⟨i, hi, hf⟩
        rcases (show i = 0 ∨ i = 1 ∨ i = 2 ∨ i = 3 ∨ i = 4 by omega) with rfl | rfl | rfl | rfl | rfl
        · show exec _ _ ⟨[(0, ⟨[], .si .i64 4⟩), (1, ⟨[], .sp 22 0⟩), (2, ⟨[], .sp 23 0⟩), (3, ⟨[], .sp 4 0⟩), (4, ⟨[], .sp 24 0⟩), (7, ⟨[], .si .i64 k⟩), (36, ⟨[], .ss 23 0 4 5⟩), (37, ⟨[], .si .i64 4⟩), (38, ⟨[], .si .i64 0⟩)], [], Fr g a0 a1 a2 a3 b4 ++ CH c, 25, []⟩ _
          refine Br.mk (fun _ => ?_) (fun h => by cases h)
          refine Chk.mk (bnd 0 4 rfl) ?_
          refine drawn_ok (gg.ok _ _ _) fol [0,0,3,7,15,31,31,127,31,31,799,2047,4095,31,8223,24607,57375,122911,262143,524287] [] 19 (by kernel_rfl) ?_
          refine Chk.mk (show InK .i64 (((0 : Nat) : Int) + 4) from ⟨by decide, by decide⟩) ?_
          refine Chk.mk (under_of (show InK .i64 (a0 - k) from ⟨by omega, by omega⟩)) ?_
          refine Chk.mk (under_of (show InK .i64 (k - a0) from ⟨by omega, by omega⟩)) ?_
          refine Br.mk (fun h2 => ?_) (fun h2 => ?_)
          · have h2 : (decide (farV 0 4 = 1) && decide (max (a0 - k) (k - a0) > g.st)) = true := h2
            have hn : near g.st a0 k = false := by rw [near, (Bool.and_eq_true_iff.1 h2).2]; rfl
            have hfit : fu4 g.st a0 a1 a2 a3 k 4 = false := by simp [fu4, hn]
            refine Chk.mk (show InK .i64 (k + 1) from ⟨by omega, by omega⟩) ⟨⟨(k + 1, c, b4), by show g.l4 ≤ k + 1; omega, .inl (by show k + 1 ≤ g.h4 + 1; omega), by rw [← hk3]; rw [List.filter_cons_of_neg (by rw [hfit]; simp)], hc⟩, fun j => j, ⟨?_, weak_app (A := _ :: Fr g a0 a1 a2 a3 b4) (B := Fr g a0 a1 a2 a3 b4) (hT _) (hK _) rfl (by repeat' (first | exact trivial | exact rfl | (intro i hi; exact rfl) | refine And.intro ?_ ?_)), injI_id _, rfl, rfl, rfl, trivial⟩, by show (g.h4 + 1 - (k + 1)).toNat < (g.h4 + 1 - k).toNat; omega⟩
            repeat' (first | exact trivial | exact rfl | (intro i hi; exact rfl) | refine And.intro ?_ ?_)
          · have h2 : (decide (farV 0 4 = 1) && decide (max (a0 - k) (k - a0) > g.st)) = false := h2
            have hn : near g.st a0 k = true := by rw [near, show decide (max (a0 - k) (k - a0) > g.st) = false from by rw [show farV 0 4 = 1 from rfl] at h2; simpa using h2]; rfl
            refine Chk.mk (ink1 0 rfl) ⟨⟨1, by omega, by simp_all [fu4]⟩, fun j => j, ⟨?_, weak_app (A := _ :: Fr g a0 a1 a2 a3 b4) (B := Fr g a0 a1 a2 a3 b4) (hT _) (hK _) rfl (by repeat' (first | exact trivial | exact rfl | (intro i hi; exact rfl) | refine And.intro ?_ ?_)), injI_id _, rfl, rfl, rfl, trivial⟩, by show 4 - 1 < 4 - 0; omega⟩
            repeat' (first | exact trivial | exact rfl | (intro i hi; exact rfl) | refine And.intro ?_ ?_)
        · show exec _ _ ⟨[(0, ⟨[], .si .i64 4⟩), (1, ⟨[], .sp 22 0⟩), (2, ⟨[], .sp 23 0⟩), (3, ⟨[], .sp 4 0⟩), (4, ⟨[], .sp 24 0⟩), (7, ⟨[], .si .i64 k⟩), (36, ⟨[], .ss 23 0 4 5⟩), (37, ⟨[], .si .i64 4⟩), (38, ⟨[], .si .i64 1⟩)], [], Fr g a0 a1 a2 a3 b4 ++ CH c, 25, []⟩ _
          refine Br.mk (fun _ => ?_) (fun h => by cases h)
          refine Chk.mk (bnd 1 4 rfl) ?_
          refine drawn_ok (gg.ok _ _ _) fol [0,0,3,7,15,31,31,127,31,31,799,2047,4095,31,8223,24607,57375,122911,262143,524287] [] 19 (by kernel_rfl) ?_
          refine Chk.mk (show InK .i64 (((1 : Nat) : Int) + 4) from ⟨by decide, by decide⟩) ?_
          refine Chk.mk (under_of (show InK .i64 (a1 - k) from ⟨by omega, by omega⟩)) ?_
          refine Chk.mk (under_of (show InK .i64 (k - a1) from ⟨by omega, by omega⟩)) ?_
          refine Br.mk (fun h2 => ?_) (fun h2 => ?_)
          · have h2 : (decide (farV 1 4 = 1) && decide (max (a1 - k) (k - a1) > g.st)) = true := h2
            have hn : near g.st a1 k = false := by rw [near, (Bool.and_eq_true_iff.1 h2).2]; rfl
            have hfit : fu4 g.st a0 a1 a2 a3 k 4 = false := by simp [fu4, hn]
            refine Chk.mk (show InK .i64 (k + 1) from ⟨by omega, by omega⟩) ⟨⟨(k + 1, c, b4), by show g.l4 ≤ k + 1; omega, .inl (by show k + 1 ≤ g.h4 + 1; omega), by rw [← hk3]; rw [List.filter_cons_of_neg (by rw [hfit]; simp)], hc⟩, fun j => j, ⟨?_, weak_app (A := _ :: Fr g a0 a1 a2 a3 b4) (B := Fr g a0 a1 a2 a3 b4) (hT _) (hK _) rfl (by repeat' (first | exact trivial | exact rfl | (intro i hi; exact rfl) | refine And.intro ?_ ?_)), injI_id _, rfl, rfl, rfl, trivial⟩, by show (g.h4 + 1 - (k + 1)).toNat < (g.h4 + 1 - k).toNat; omega⟩
            repeat' (first | exact trivial | exact rfl | (intro i hi; exact rfl) | refine And.intro ?_ ?_)
          · have h2 : (decide (farV 1 4 = 1) && decide (max (a1 - k) (k - a1) > g.st)) = false := h2
            have hn : near g.st a1 k = true := by rw [near, show decide (max (a1 - k) (k - a1) > g.st) = false from by rw [show farV 1 4 = 1 from rfl] at h2; simpa using h2]; rfl
            refine Chk.mk (ink1 1 rfl) ⟨⟨2, by omega, by simp_all [fu4]⟩, fun j => j, ⟨?_, weak_app (A := _ :: Fr g a0 a1 a2 a3 b4) (B := Fr g a0 a1 a2 a3 b4) (hT _) (hK _) rfl (by repeat' (first | exact trivial | exact rfl | (intro i hi; exact rfl) | refine And.intro ?_ ?_)), injI_id _, rfl, rfl, rfl, trivial⟩, by show 4 - 2 < 4 - 1; omega⟩
            repeat' (first | exact trivial | exact rfl | (intro i hi; exact rfl) | refine And.intro ?_ ?_)
        · show exec _ _ ⟨[(0, ⟨[], .si .i64 4⟩), (1, ⟨[], .sp 22 0⟩), (2, ⟨[], .sp 23 0⟩), (3, ⟨[], .sp 4 0⟩), (4, ⟨[], .sp 24 0⟩), (7, ⟨[], .si .i64 k⟩), (36, ⟨[], .ss 23 0 4 5⟩), (37, ⟨[], .si .i64 4⟩), (38, ⟨[], .si .i64 2⟩)], [], Fr g a0 a1 a2 a3 b4 ++ CH c, 25, []⟩ _
          refine Br.mk (fun _ => ?_) (fun h => by cases h)
          refine Chk.mk (bnd 2 4 rfl) ?_
          refine drawn_ok (gg.ok _ _ _) fol [0,0,3,7,15,31,31,127,31,31,799,2047,4095,31,8223,24607,57375,122911,262143,524287] [] 19 (by kernel_rfl) ?_
          refine Chk.mk (show InK .i64 (((2 : Nat) : Int) + 4) from ⟨by decide, by decide⟩) ?_
          refine Chk.mk (under_of (show InK .i64 (a2 - k) from ⟨by omega, by omega⟩)) ?_
          refine Chk.mk (under_of (show InK .i64 (k - a2) from ⟨by omega, by omega⟩)) ?_
          refine Br.mk (fun h2 => ?_) (fun h2 => ?_)
          · have h2 : (decide (farV 2 4 = 1) && decide (max (a2 - k) (k - a2) > g.st)) = true := h2
            exact absurd h2 (by rw [show farV 2 4 = 2 from rfl]; simp)
          · have h2 : (decide (farV 2 4 = 1) && decide (max (a2 - k) (k - a2) > g.st)) = false := h2
            have hn : True := trivial
            refine Chk.mk (ink1 2 rfl) ⟨⟨3, by omega, by simp_all [fu4]⟩, fun j => j, ⟨?_, weak_app (A := Fr g a0 a1 a2 a3 b4) (B := Fr g a0 a1 a2 a3 b4) (hT _) (hK _) rfl (by repeat' (first | exact trivial | exact rfl | (intro i hi; exact rfl) | refine And.intro ?_ ?_)), injI_id _, rfl, rfl, rfl, trivial⟩, by show 4 - 3 < 4 - 2; omega⟩
            repeat' (first | exact trivial | exact rfl | (intro i hi; exact rfl) | refine And.intro ?_ ?_)
        · show exec _ _ ⟨[(0, ⟨[], .si .i64 4⟩), (1, ⟨[], .sp 22 0⟩), (2, ⟨[], .sp 23 0⟩), (3, ⟨[], .sp 4 0⟩), (4, ⟨[], .sp 24 0⟩), (7, ⟨[], .si .i64 k⟩), (36, ⟨[], .ss 23 0 4 5⟩), (37, ⟨[], .si .i64 4⟩), (38, ⟨[], .si .i64 3⟩)], [], Fr g a0 a1 a2 a3 b4 ++ CH c, 25, []⟩ _
          refine Br.mk (fun _ => ?_) (fun h => by cases h)
          refine Chk.mk (bnd 3 4 rfl) ?_
          refine drawn_ok (gg.ok _ _ _) fol [0,0,3,7,15,31,31,127,31,31,799,2047,4095,31,8223,24607,57375,122911,262143,524287] [] 19 (by kernel_rfl) ?_
          refine Chk.mk (show InK .i64 (((3 : Nat) : Int) + 4) from ⟨by decide, by decide⟩) ?_
          refine Chk.mk (under_of (show InK .i64 (a3 - k) from ⟨by omega, by omega⟩)) ?_
          refine Chk.mk (under_of (show InK .i64 (k - a3) from ⟨by omega, by omega⟩)) ?_
          refine Br.mk (fun h2 => ?_) (fun h2 => ?_)
          · have h2 : (decide (farV 3 4 = 1) && decide (max (a3 - k) (k - a3) > g.st)) = true := h2
            have hn : near g.st a3 k = false := by rw [near, (Bool.and_eq_true_iff.1 h2).2]; rfl
            have hfit : fu4 g.st a0 a1 a2 a3 k 4 = false := by simp [fu4, hn]
            refine Chk.mk (show InK .i64 (k + 1) from ⟨by omega, by omega⟩) ⟨⟨(k + 1, c, b4), by show g.l4 ≤ k + 1; omega, .inl (by show k + 1 ≤ g.h4 + 1; omega), by rw [← hk3]; rw [List.filter_cons_of_neg (by rw [hfit]; simp)], hc⟩, fun j => j, ⟨?_, weak_app (A := _ :: Fr g a0 a1 a2 a3 b4) (B := Fr g a0 a1 a2 a3 b4) (hT _) (hK _) rfl (by repeat' (first | exact trivial | exact rfl | (intro i hi; exact rfl) | refine And.intro ?_ ?_)), injI_id _, rfl, rfl, rfl, trivial⟩, by show (g.h4 + 1 - (k + 1)).toNat < (g.h4 + 1 - k).toNat; omega⟩
            repeat' (first | exact trivial | exact rfl | (intro i hi; exact rfl) | refine And.intro ?_ ?_)
          · have h2 : (decide (farV 3 4 = 1) && decide (max (a3 - k) (k - a3) > g.st)) = false := h2
            have hn : near g.st a3 k = true := by rw [near, show decide (max (a3 - k) (k - a3) > g.st) = false from by rw [show farV 3 4 = 1 from rfl] at h2; simpa using h2]; rfl
            refine Chk.mk (ink1 3 rfl) ⟨⟨4, by omega, by simp_all [fu4]⟩, fun j => j, ⟨?_, weak_app (A := _ :: Fr g a0 a1 a2 a3 b4) (B := Fr g a0 a1 a2 a3 b4) (hT _) (hK _) rfl (by repeat' (first | exact trivial | exact rfl | (intro i hi; exact rfl) | refine And.intro ?_ ?_)), injI_id _, rfl, rfl, rfl, trivial⟩, by show 4 - 4 < 4 - 3; omega⟩
            repeat' (first | exact trivial | exact rfl | (intro i hi; exact rfl) | refine And.intro ?_ ?_)
        · refine Br.mk (fun h => by cases h) (fun _ => ?_)
          have hfit : fu4 g.st a0 a1 a2 a3 k 4 = true := hf
          rw [List.filter_cons_of_pos (by exact hfit)] at hk3
          refine Chk.mk (bnd 4 5 rfl) ?_
          refine Chk.mk (ink1 4 rfl) ?_
          refine fb_call (gg.ok _ _ _) cont_std rfl rfl rfl rfl ?_
          refine ⟨b99, ?_⟩
          refine callS_sub (Fr g a0 a1 a2 a3 k ++ CH c) (weak_app (A := _ :: Fr g a0 a1 a2 a3 b4) (B := Fr g a0 a1 a2 a3 k) (hT _) (hK _) rfl (by repeat' (first | exact trivial | exact rfl | (intro i hi; exact rfl) | refine And.intro ?_ ?_))) ?_
          refine s99_5 hg hT hK hO hY c hc o0 o1 o2 o3 (show okI k from ⟨by omega, by omega⟩) ?_
          refine Br.mk (fun h2 => ?_) (fun h2 => ?_)
          · have h2 : (!(f c a0 a1 a2 a3 k).2) = true := h2
            have h2 : (f c a0 a1 a2 a3 k).2 = false := by simpa using h2
            rw [foldS_stop (f := fun c k => f c a0 a1 a2 a3 k) (c := c) (x := k) h2] at hk3
            refine ⟨k, fun j => j, ?_, by rw [← hk3]; rfl, rfl, injI_id _, rfl, rfl⟩
            rw [← hk3]
            exact weak_app (A := Fr g a0 a1 a2 a3 k) (B := Fr g a0 a1 a2 a3 k) (hT _) (hK _) rfl (by repeat' (first | exact trivial | exact rfl | (intro i hi; exact rfl) | refine And.intro ?_ ?_))
          · have h2 : (!(f c a0 a1 a2 a3 k).2) = false := h2
            have h2 : (f c a0 a1 a2 a3 k).2 = true := by simpa using h2
            rw [foldS_go (f := fun c k => f c a0 a1 a2 a3 k) (c := c) (x := k) h2] at hk3
            have hnx : ok (f c a0 a1 a2 a3 k).1 := hO _ _ _ _ _ _ hc h2
            refine Chk.mk (show InK .i64 (k + 1) from ⟨by omega, by omega⟩) ⟨⟨(k + 1, (f c a0 a1 a2 a3 k).1, k), by show g.l4 ≤ k + 1; omega, .inl (by show k + 1 ≤ g.h4 + 1; omega), hk3, hnx⟩, fun j => j, ⟨?_, weak_app (A := Fr g a0 a1 a2 a3 k) (B := Fr g a0 a1 a2 a3 k) (hT _) (hK _) rfl (by repeat' (first | exact trivial | exact rfl | (intro i hi; exact rfl) | refine And.intro ?_ ?_)), injI_id _, rfl, rfl, rfl, trivial⟩, by show (g.h4 + 1 - (k + 1)).toNat < (g.h4 + 1 - k).toNat; omega⟩
            repeat' (first | exact trivial | exact rfl | (intro i hi; exact rfl) | refine And.intro ?_ ?_)
    · have h1 : ¬ k ≤ g.h4 := of_decide_eq_false h1
      have hk3 : foldS (fun c k => f c a0 a1 a2 a3 k) c ((rangeI k g.h4).filter fun k => fu4 g.st a0 a1 a2 a3 k 4) = R := hk3
      rw [rangeI_nil (by omega)] at hk3
      have hk3 : (c, true) = R := hk3
      refine ⟨b4, fun j => j, ?_, by rw [← hk3]; rfl, rfl, injI_id _, rfl, rfl⟩
      have e : CH R.1 = CH c := by rw [← hk3]
      show weakRH (fun j => j) 25 (Fr g a0 a1 a2 a3 b4 ++ CH c) (Fr g a0 a1 a2 a3 b4 ++ CH R.1)
      rw [e]
      exact weak_app (A := Fr g a0 a1 a2 a3 b4) (B := Fr g a0 a1 a2 a3 b4) (hT _) (hK _) rfl (by repeat' (first | exact trivial | exact rfl | (intro i hi; exact rfl) | refine And.intro ?_ ?_))
theorem s99_3 (c : γ) (hc : ok c) {a0 a1 a2 : Int} (o0 : okI a0) (o1 : okI a1) (o2 : okI a2) {b3 b4 : Int} {Rv : SV → List (Nat × HB) → Nat → Prop} {Rp : List PanicEntry → List (Nat × HB) → Nat → Prop}
    (hRv : ∀ e3 e4 : Int, Rv (.sb (on3 f g c a0 a1 a2).2) (Fr g a0 a1 a2 e3 e4 ++ CH (on3 f g c a0 a1 a2).1) 25) :
    CallS P 99 [.si .i64 3, .sp 22 0, .sp 23 0, .sp 4 0, .sp 24 0] (Fr g a0 a1 a2 b3 b4 ++ CH c) 25 Rv Rp := by
  have gg := g8485
  refine callS_toE (ι := Int × Int) gg.ok Try.func99 (c := code Try.f99) rfl (Nat.le_of_ble_eq_true rfl) (fun _ => .sb (on3 f g c a0 a1 a2).2) (fun x => Fr g a0 a1 a2 x.1 x.2 ++ CH (on3 f g c a0 a1 a2).1) 25 (fun G2 hG2 => ?_) (fun x => hRv x.1 x.2)
  obtain ⟨R, hR⟩ : ∃ R, on3 f g c a0 a1 a2 = R := ⟨_, rfl⟩
  rw [hR]
  have hg' := hg
  unfold ptsB at hg'
  have p0 := o0
  unfold okI at p0
  have p1 := o1
  unfold okI at p1
  have p2 := o2
  unfold okI at p2
  refine Br.mk (fun h => by cases h) (fun _ => ?_)
  refine Chk.mk (bnd 3 5 rfl) ?_
  refine loop_okR (gg.ok _ _ _) 25 (fun x : {x : Int × γ × Int × Int // g.l3 ≤ x.1 ∧ (x.1 ≤ g.h3 + 1 ∨ x.1 = g.l3) ∧ foldS (fun c k => on4 f g c a0 a1 a2 k) x.2.1 ((rangeI x.1 g.h3).filter fun k => fu3 g.st a0 a1 a2 k 3) = R ∧ ok x.2.1} =>
    ⟨[(0, ⟨[], .si .i64 3⟩), (1, ⟨[], .sp 22 0⟩), (2, ⟨[], .sp 23 0⟩), (3, ⟨[], .sp 4 0⟩), (4, ⟨[], .sp 24 0⟩), (7, ⟨[], .si .i64 x.1.1⟩)], [],
    Fr g a0 a1 a2 x.1.2.2.1 x.1.2.2.2 ++ CH x.1.2.1, 25, []⟩) (fun x => (g.h3 + 1 - x.1.1).toNat) hG2 ⟨(g.l3, c, (b3, b4)), by omega, .inr rfl, hR, hc⟩ (fun j => j) ?_ ?_
  · refine ⟨?_, weak_app (A := Fr g a0 a1 a2 b3 b4) (B := Fr g a0 a1 a2 b3 b4) (hT _) (hK _) rfl (by repeat' (first | exact trivial | exact rfl | (intro i hi; exact rfl) | refine And.intro ?_ ?_)), injI_id _, rfl, rfl, rfl, trivial⟩
    repeat' (first | exact trivial | exact rfl | (intro i hi; exact rfl) | refine And.intro ?_ ?_)
  · rintro ⟨⟨k, c, b3, b4⟩, hk1, hk2, hk3, hc⟩
    refine Chk.mk (bnd 3 5 rfl) ?_
    refine Br.mk (fun h1 => ?_) (fun h1 => ?_)
    · have h1 : k ≤ g.h3 := of_decide_eq_true h1
      have hk3 : foldS (fun c k => on4 f g c a0 a1 a2 k) c ((rangeI k g.h3).filter fun k => fu3 g.st a0 a1 a2 k 3) = R := hk3
      rw [rangeI_cons h1] at hk3
      refine Chk.mk ⟨by decide, by decide, by decide, by decide⟩ ?_
      refine loop_okR (gg.ok _ _ _) 25 (fun x : {i : Nat // i ≤ 3 ∧ fu3 g.st a0 a1 a2 k i = true} =>
        ⟨[(0, ⟨[], .si .i64 3⟩), (1, ⟨[], .sp 22 0⟩), (2, ⟨[], .sp 23 0⟩), (3, ⟨[], .sp 4 0⟩), (4, ⟨[], .sp 24 0⟩), (7, ⟨[], .si .i64 k⟩), (36, ⟨[], .ss 23 0 3 5⟩), (37, ⟨[], .si .i64 3⟩), (38, ⟨[], .si .i64 x.1⟩)], [],
        Fr g a0 a1 a2 b3 b4 ++ CH c, 25, []⟩) (fun x => 3 - x.1) hG2 ⟨0, Nat.zero_le _, rfl⟩ (fun j => j) ?_ ?_
      · refine ⟨?_, weak_app (A := Fr g a0 a1 a2 b3 b4) (B := Fr g a0 a1 a2 b3 b4) (hT _) (hK _) rfl (by repeat' (first | exact trivial | exact rfl | (intro i hi; exact rfl) | refine And.intro ?_ ?_)), injI_id _, rfl, rfl, rfl, trivial⟩
        repeat' (first | exact trivial | exact rfl | (intro i hi; exact rfl) | refine And.intro ?_ ?_)
      · rintro ⟨i, hi, hf⟩
        rcases (show i = 0 ∨ i = 1 ∨ i = 2 ∨ i = 3 by omega) with rfl | rfl | rfl | rfl
        · show exec _ _ ⟨[(0, ⟨[], .si .i64 3⟩), (1, ⟨[], .sp 22 0⟩), (2, ⟨[], .sp 23 0⟩), (3, ⟨[], .sp 4 0⟩), (4, ⟨[], .sp 24 0⟩), (7, ⟨[], .si .i64 k⟩), (36, ⟨[], .ss 23 0 3 5⟩), (37, ⟨[], .si .i64 3⟩), (38, ⟨[], .si .i64 0⟩)], [], Fr g a0 a1 a2 b3 b4 ++ CH c, 25, []⟩ _
          refine Br.mk (fun _ => ?_) (fun h => by cases h)
          refine Chk.mk (bnd 0 3 rfl) ?_
          refine drawn_ok (gg.ok _ _ _) fol [0,0,3,7,15,31,31,127,31,31,799,2047,4095,31,8223,24607,57375,122911,262143,524287] [] 19 (by kernel_rfl) ?_
          refine Chk.mk (show InK .i64 (((0 : Nat) : Int) + 3) from ⟨by decide, by decide⟩) ?_
          refine Chk.mk (under_of (show InK .i64 (a0 - k) from ⟨by omega, by omega⟩)) ?_
          refine Chk.mk (under_of (show InK .i64 (k - a0) from ⟨by omega, by omega⟩)) ?_
          refine Br.mk (fun h2 => ?_) (fun h2 => ?_)
          · have h2 : (decide (farV 0 3 = 1) && decide (max (a0 - k) (k - a0) > g.st)) = true := h2
            have hn : near g.st a0 k = false := by rw [near, (Bool.and_eq_true_iff.1 h2).2]; rfl
            have hfit : fu3 g.st a0 a1 a2 k 3 = false := by simp [fu3, hn]
            refine Chk.mk (show InK .i64 (k + 1) from ⟨by omega, by omega⟩) ⟨⟨(k + 1, c, (b3, b4)), by show g.l3 ≤ k + 1; omega, .inl (by show k + 1 ≤ g.h3 + 1; omega), by rw [← hk3]; rw [List.filter_cons_of_neg (by rw [hfit]; simp)], hc⟩, fun j => j, ⟨?_, weak_app (A := _ :: Fr g a0 a1 a2 b3 b4) (B := Fr g a0 a1 a2 b3 b4) (hT _) (hK _) rfl (by repeat' (first | exact trivial | exact rfl | (intro i hi; exact rfl) | refine And.intro ?_ ?_)), injI_id _, rfl, rfl, rfl, trivial⟩, by show (g.h3 + 1 - (k + 1)).toNat < (g.h3 + 1 - k).toNat; omega⟩
            repeat' (first | exact trivial | exact rfl | (intro i hi; exact rfl) | refine And.intro ?_ ?_)
          · have h2 : (decide (farV 0 3 = 1) && decide (max (a0 - k) (k - a0) > g.st)) = false := h2
            have hn : near g.st a0 k = true := by rw [near, show decide (max (a0 - k) (k - a0) > g.st) = false from by rw [show farV 0 3 = 1 from rfl] at h2; simpa using h2]; rfl
            refine Chk.mk (ink1 0 rfl) ⟨⟨1, by omega, by simp_all [fu3]⟩, fun j => j, ⟨?_, weak_app (A := _ :: Fr g a0 a1 a2 b3 b4) (B := Fr g a0 a1 a2 b3 b4) (hT _) (hK _) rfl (by repeat' (first | exact trivial | exact rfl | (intro i hi; exact rfl) | refine And.intro ?_ ?_)), injI_id _, rfl, rfl, rfl, trivial⟩, by show 3 - 1 < 3 - 0; omega⟩
            repeat' (first | exact trivial | exact rfl | (intro i hi; exact rfl) | refine And.intro ?_ ?_)
        · show exec _ _ ⟨[(0, ⟨[], .si .i64 3⟩), (1, ⟨[], .sp 22 0⟩), (2, ⟨[], .sp 23 0⟩), (3, ⟨[], .sp 4 0⟩), (4, ⟨[], .sp 24 0⟩), (7, ⟨[], .si .i64 k⟩), (36, ⟨[], .ss 23 0 3 5⟩), (37, ⟨[], .si .i64 3⟩), (38, ⟨[], .si .i64 1⟩)], [], Fr g a0 a1 a2 b3 b4 ++ CH c, 25, []⟩ _
          refine Br.mk (fun _ => ?_) (fun h => by cases h)
          refine Chk.mk (bnd 1 3 rfl) ?_
          refine drawn_ok (gg.ok _ _ _) fol [0,0,3,7,15,31,31,127,31,31,799,2047,4095,31,8223,24607,57375,122911,262143,524287] [] 19 (by kernel_rfl) ?_
          refine Chk.mk (show InK .i64 (((1 : Nat) : Int) + 3) from ⟨by decide, by decide⟩) ?_
          refine Chk.mk (under_of (show InK .i64 (a1 - k) from ⟨by omega, by omega⟩)) ?_
          refine Chk.mk (under_of (show InK .i64 (k - a1) from ⟨by omega, by omega⟩)) ?_
          refine Br.mk (fun h2 => ?_) (fun h2 => ?_)
          · have h2 : (decide (farV 1 3 = 1) && decide (max (a1 - k) (k - a1) > g.st)) = true := h2
            exact absurd h2 (by rw [show farV 1 3 = 2 from rfl]; simp)
          · have h2 : (decide (farV 1 3 = 1) && decide (max (a1 - k) (k - a1) > g.st)) = false := h2
            have hn : True := trivial
            refine Chk.mk (ink1 1 rfl) ⟨⟨2, by omega, by simp_all [fu3]⟩, fun j => j, ⟨?_, weak_app (A := Fr g a0 a1 a2 b3 b4) (B := Fr g a0 a1 a2 b3 b4) (hT _) (hK _) rfl (by repeat' (first | exact trivial | exact rfl | (intro i hi; exact rfl) | refine And.intro ?_ ?_)), injI_id _, rfl, rfl, rfl, trivial⟩, by show 3 - 2 < 3 - 1; omega⟩
            repeat' (first | exact trivial | exact rfl | (intro i hi; exact rfl) | refine And.intro ?_ ?_)
        · show exec _ _ ⟨[(0, ⟨[], .si .i64 3⟩), (1, ⟨[], .sp 22 0⟩), (2, ⟨[], .sp 23 0⟩), (3, ⟨[], .sp 4 0⟩), (4, ⟨[], .sp 24 0⟩), (7, ⟨[], .si .i64 k⟩), (36, ⟨[], .ss 23 0 3 5⟩), (37, ⟨[], .si .i64 3⟩), (38, ⟨[], .si .i64 2⟩)], [], Fr g a0 a1 a2 b3 b4 ++ CH c, 25, []⟩ _
          refine Br.mk (fun _ => ?_) (fun h => by cases h)
          refine Chk.mk (bnd 2 3 rfl) ?_
          refine drawn_ok (gg.ok _ _ _) fol [0,0,3,7,15,31,31,127,31,31,799,2047,4095,31,8223,24607,57375,122911,262143,524287] [] 19 (by kernel_rfl) ?_
          refine Chk.mk (show InK .i64 (((2 : Nat) : Int) + 3) from ⟨by decide, by decide⟩) ?_
          refine Chk.mk (under_of (show InK .i64 (a2 - k) from ⟨by omega, by omega⟩)) ?_
          refine Chk.mk (under_of (show InK .i64 (k - a2) from ⟨by omega, by omega⟩)) ?_
          refine Br.mk (fun h2 => ?_) (fun h2 => ?_)
          · have h2 : (decide (farV 2 3 = 1) && decide (max (a2 - k) (k - a2) > g.st)) = true := h2
            have hn : near g.st a2 k = false := by rw [near, (Bool.and_eq_true_iff.1 h2).2]; rfl
            have hfit : fu3 g.st a0 a1 a2 k 3 = false := by simp [fu3, hn]
            refine Chk.mk (show InK .i64 (k + 1) from ⟨by omega, by omega⟩) ⟨⟨(k + 1, c, (b3, b4)), by show g.l3 ≤ k + 1; omega, .inl (by show k + 1 ≤ g.h3 + 1; omega), by rw [← hk3]; rw [List.filter_cons_of_neg (by rw [hfit]; simp)], hc⟩, fun j => j, ⟨?_, weak_app (A := _ :: Fr g a0 a1 a2 b3 b4) (B := Fr g a0 a1 a2 b3 b4) (hT _) (hK _) rfl (by repeat' (first | exact trivial | exact rfl | (intro i hi; exact rfl) | refine And.intro ?_ ?_)), injI_id _, rfl, rfl, rfl, trivial⟩, by show (g.h3 + 1 - (k + 1)).toNat < (g.h3 + 1 - k).toNat; omega⟩
            repeat' (first | exact trivial | exact rfl | (intro i hi; exact rfl) | refine And.intro ?_ ?_)
          · have h2 : (decide (farV 2 3 = 1) && decide (max (a2 - k) (k - a2) > g.st)) = false := h2
            have hn : near g.st a2 k = true := by rw [near, show decide (max (a2 - k) (k - a2) > g.st) = false from by rw [show farV 2 3 = 1 from rfl] at h2; simpa using h2]; rfl
            refine Chk.mk (ink1 2 rfl) ⟨⟨3, by omega, by simp_all [fu3]⟩, fun j => j, ⟨?_, weak_app (A := _ :: Fr g a0 a1 a2 b3 b4) (B := Fr g a0 a1 a2 b3 b4) (hT _) (hK _) rfl (by repeat' (first | exact trivial | exact rfl | (intro i hi; exact rfl) | refine And.intro ?_ ?_)), injI_id _, rfl, rfl, rfl, trivial⟩, by show 3 - 3 < 3 - 2; omega⟩
            repeat' (first | exact trivial | exact rfl | (intro i hi; exact rfl) | refine And.intro ?_ ?_)
        · refine Br.mk (fun h => by cases h) (fun _ => ?_)
          have hfit : fu3 g.st a0 a1 a2 k 3 = true := hf
          rw [List.filter_cons_of_pos (by exact hfit)] at hk3
          refine Chk.mk (bnd 3 5 rfl) ?_
          refine Chk.mk (ink1 3 rfl) ?_
          refine fb_call (gg.ok _ _ _) cont_std rfl rfl rfl rfl ?_
          refine ⟨b99, ?_⟩
          refine callS_sub (Fr g a0 a1 a2 k b4 ++ CH c) (weak_app (A := _ :: Fr g a0 a1 a2 b3 b4) (B := Fr g a0 a1 a2 k b4) (hT _) (hK _) rfl (by repeat' (first | exact trivial | exact rfl | (intro i hi; exact rfl) | refine And.intro ?_ ?_))) ?_
          refine s99_4 hg hT hK hO hY c hc o0 o1 o2 (show okI k from ⟨by omega, by omega⟩) ?_
          intro e4
          refine Br.mk (fun h2 => ?_) (fun h2 => ?_)
          · have h2 : (!(on4 f g c a0 a1 a2 k).2) = true := h2
            have h2 : (on4 f g c a0 a1 a2 k).2 = false := by simpa using h2
            rw [foldS_stop (f := fun c k => on4 f g c a0 a1 a2 k) (c := c) (x := k) h2] at hk3
            refine ⟨(k, e4), fun j => j, ?_, by rw [← hk3]; rfl, rfl, injI_id _, rfl, rfl⟩
            rw [← hk3]
            exact weak_app (A := Fr g a0 a1 a2 k e4) (B := Fr g a0 a1 a2 k e4) (hT _) (hK _) rfl (by repeat' (first | exact trivial | exact rfl | (intro i hi; exact rfl) | refine And.intro ?_ ?_))
          · have h2 : (!(on4 f g c a0 a1 a2 k).2) = false := h2
            have h2 : (on4 f g c a0 a1 a2 k).2 = true := by simpa using h2
            rw [foldS_go (f := fun c k => on4 f g c a0 a1 a2 k) (c := c) (x := k) h2] at hk3
            have hnx : ok (on4 f g c a0 a1 a2 k).1 := on4_ok hO hc h2
            refine Chk.mk (show InK .i64 (k + 1) from ⟨by omega, by omega⟩) ⟨⟨(k + 1, (on4 f g c a0 a1 a2 k).1, (k, e4)), by show g.l3 ≤ k + 1; omega, .inl (by show k + 1 ≤ g.h3 + 1; omega), hk3, hnx⟩, fun j => j, ⟨?_, weak_app (A := Fr g a0 a1 a2 k e4) (B := Fr g a0 a1 a2 k e4) (hT _) (hK _) rfl (by repeat' (first | exact trivial | exact rfl | (intro i hi; exact rfl) | refine And.intro ?_ ?_)), injI_id _, rfl, rfl, rfl, trivial⟩, by show (g.h3 + 1 - (k + 1)).toNat < (g.h3 + 1 - k).toNat; omega⟩
            repeat' (first | exact trivial | exact rfl | (intro i hi; exact rfl) | refine And.intro ?_ ?_)
    · have h1 : ¬ k ≤ g.h3 := of_decide_eq_false h1
      have hk3 : foldS (fun c k => on4 f g c a0 a1 a2 k) c ((rangeI k g.h3).filter fun k => fu3 g.st a0 a1 a2 k 3) = R := hk3
      rw [rangeI_nil (by omega)] at hk3
      have hk3 : (c, true) = R := hk3
      refine ⟨(b3, b4), fun j => j, ?_, by rw [← hk3]; rfl, rfl, injI_id _, rfl, rfl⟩
      have e : CH R.1 = CH c := by rw [← hk3]
      show weakRH (fun j => j) 25 (Fr g a0 a1 a2 b3 b4 ++ CH c) (Fr g a0 a1 a2 b3 b4 ++ CH R.1)
      rw [e]
      exact weak_app (A := Fr g a0 a1 a2 b3 b4) (B := Fr g a0 a1 a2 b3 b4) (hT _) (hK _) rfl (by repeat' (first | exact trivial | exact rfl | (intro i hi; exact rfl) | refine And.intro ?_ ?_))
theorem s99_2 (c : γ) (hc : ok c) {a0 a1 : Int} (o0 : okI a0) (o1 : okI a1) {b2 b3 b4 : Int} {Rv : SV → List (Nat × HB) → Nat → Prop} {Rp : List PanicEntry → List (Nat × HB) → Nat → Prop}
    (hRv : ∀ e2 e3 e4 : Int, Rv (.sb (on2 f g c a0 a1).2) (Fr g a0 a1 e2 e3 e4 ++ CH (on2 f g c a0 a1).1) 25) :
    CallS P 99 [.si .i64 2, .sp 22 0, .sp 23 0, .sp 4 0, .sp 24 0] (Fr g a0 a1 b2 b3 b4 ++ CH c) 25 Rv Rp := by
  have gg := g8485
  refine callS_toE (ι := Int × Int × Int) gg.ok Try.func99 (c := code Try.f99) rfl (Nat.le_of_ble_eq_true rfl) (fun _ => .sb (on2 f g c a0 a1).2) (fun x => Fr g a0 a1 x.1 x.2.1 x.2.2 ++ CH (on2 f g c a0 a1).1) 25 (fun G2 hG2 => ?_) (fun x => hRv x.1 x.2.1 x.2.2)
  obtain ⟨R, hR⟩ : ∃ R, on2 f g c a0 a1 = R := ⟨_, rfl⟩
  rw [hR]
  have hg' := hg
  unfold ptsB at hg'
  have p0 := o0
  unfold okI at p0
  have p1 := o1
  unfold okI at p1
  refine Br.mk (fun h => by cases h) (fun _ => ?_)
  refine Chk.mk (bnd 2 5 rfl) ?_
  refine loop_okR (gg.ok _ _ _) 25 (fun x : {x : Int × γ × Int × Int × Int // g.l2 ≤ x.1 ∧ (x.1 ≤ g.h2 + 1 ∨ x.1 = g.l2) ∧ foldS (fun c k => on3 f g c a0 a1 k) x.2.1 ((rangeI x.1 g.h2).filter fun k => fu2 g.st a0 a1 k 2) = R ∧ ok x.2.1} =>
    ⟨[(0, ⟨[], .si .i64 2⟩), (1, ⟨[], .sp 22 0⟩), (2, ⟨[], .sp 23 0⟩), (3, ⟨[], .sp 4 0⟩), (4, ⟨[], .sp 24 0⟩), (7, ⟨[], .si .i64 x.1.1⟩)], [],
    Fr g a0 a1 x.1.2.2.1 x.1.2.2.2.1 x.1.2.2.2.2 ++ CH x.1.2.1, 25, []⟩) (fun x => (g.h2 + 1 - x.1.1).toNat) hG2 ⟨(g.l2, c, (b2, b3, b4)), by omega, .inr rfl, hR, hc⟩ (fun j => j) ?_ ?_
  · refine ⟨?_, weak_app (A := Fr g a0 a1 b2 b3 b4) (B := Fr g a0 a1 b2 b3 b4) (hT _) (hK _) rfl (by repeat' (first | exact trivial | exact rfl | (intro i hi; exact rfl) | refine And.intro ?_ ?_)), injI_id _, rfl, rfl, rfl, trivial⟩
    repeat' (first | exact trivial | exact rfl | (intro i hi; exact rfl) | refine And.intro ?_ ?_)
  · rintro ⟨⟨k, c, b2, b3, b4⟩, hk1, hk2, hk3, hc⟩
    refine Chk.mk (bnd 2 5 rfl) ?_
    refine Br.mk (fun h1 => ?_) (fun h1 => ?_)
    · have h1 : k ≤ g.h2 := of_decide_eq_true h1
      have hk3 : foldS (fun c k => on3 f g c a0 a1 k) c ((rangeI k g.h2).filter fun k => fu2 g.st a0 a1 k 2) = R := hk3
      rw [rangeI_cons h1] at hk3
      refine Chk.mk ⟨by decide, by decide, by decide, by decide⟩ ?_
      refine loop_okR (gg.ok _ _ _) 25 (fun x : {i : Nat // i ≤ 2 ∧ fu2 g.st a0 a1 k i = true} =>
        ⟨[(0, ⟨[], .si .i64 2⟩), (1, ⟨[], .sp 22 0⟩), (2, ⟨[], .sp 23 0⟩), (3, ⟨[], .sp 4 0⟩), (4, ⟨[], .sp 24 0⟩), (7, ⟨[], .si .i64 k⟩), (36, ⟨[], .ss 23 0 2 5⟩), (37, ⟨[], .si .i64 2⟩), (38, ⟨[], .si .i64 x.1⟩)], [],
        Fr g a0 a1 b2 b3 b4 ++ CH c, 25, []⟩) (fun x => 2 - x.1) hG2 ⟨0, Nat.zero_le _, rfl⟩ (fun j => j) ?_ ?_
      · refine ⟨?_, weak_app (A := Fr g a0 a1 b2 b3 b4) (B := Fr g a0 a1 b2 b3 b4) (hT _) (hK _) rfl (by repeat' (first | exact trivial | exact rfl | (intro i hi; exact rfl) | refine And.intro ?_ ?_)), injI_id _, rfl, rfl, rfl, trivial⟩
        repeat' (first | exact trivial | exact rfl | (intro i hi; exact rfl) | refine And.intro ?_ ?_)
      · rintro ⟨i, hi, hf⟩
        rcases (show i = 0 ∨ i = 1 ∨ i = 2 by omega) with rfl | rfl | rfl
        · show exec _ _ ⟨[(0, ⟨[], .si .i64 2⟩), (1, ⟨[], .sp 22 0⟩), (2, ⟨[], .sp 23 0⟩), (3, ⟨[], .sp 4 0⟩), (4, ⟨[], .sp 24 0⟩), (7, ⟨[], .si .i64 k⟩), (36, ⟨[], .ss 23 0 2 5⟩), (37, ⟨[], .si .i64 2⟩), (38, ⟨[], .si .i64 0⟩)], [], Fr g a0 a1 b2 b3 b4 ++ CH c, 25, []⟩ _
          refine Br.mk (fun _ => ?_) (fun h => by cases h)
          refine Chk.mk (bnd 0 2 rfl) ?_
          refine drawn_ok (gg.ok _ _ _) fol [0,0,3,7,15,31,31,127,31,31,799,2047,4095,31,8223,24607,57375,122911,262143,524287] [] 19 (by kernel_rfl) ?_
          refine Chk.mk (show InK .i64 (((0 : Nat) : Int) + 2) from ⟨by decide, by decide⟩) ?_
          refine Chk.mk (under_of (show InK .i64 (a0 - k) from ⟨by omega, by omega⟩)) ?_
          refine Chk.mk (under_of (show InK .i64 (k - a0) from ⟨by omega, by omega⟩)) ?_
          refine Br.mk (fun h2 => ?_) (fun h2 => ?_)
          · have h2 : (decide (farV 0 2 = 1) && decide (max (a0 - k) (k - a0) > g.st)) = true := h2
            have hn : near g.st a0 k = false := by rw [near, (Bool.and_eq_true_iff.1 h2).2]; rfl
            have hfit : fu2 g.st a0 a1 k 2 = false := by simp [fu2, hn]
            refine Chk.mk (show InK .i64 (k + 1) from ⟨by omega, by omega⟩) ⟨⟨(k + 1, c, (b2, b3, b4)), by show g.l2 ≤ k + 1; omega, .inl (by show k + 1 ≤ g.h2 + 1; omega), by rw [← hk3]; rw [List.filter_cons_of_neg (by rw [hfit]; simp)], hc⟩, fun j => j, ⟨?_, weak_app (A := _ :: Fr g a0 a1 b2 b3 b4) (B := Fr g a0 a1 b2 b3 b4) (hT _) (hK _) rfl (by repeat' (first | exact trivial | exact rfl | (intro i hi; exact rfl) | refine And.intro ?_ ?_)), injI_id _, rfl, rfl, rfl, trivial⟩, by show (g.h2 + 1 - (k + 1)).toNat < (g.h2 + 1 - k).toNat; omega⟩
            repeat' (first | exact trivial | exact rfl | (intro i hi; exact rfl) | refine And.intro ?_ ?_)
          · have h2 : (decide (farV 0 2 = 1) && decide (max (a0 - k) (k - a0) > g.st)) = false := h2
            have hn : near g.st a0 k = true := by rw [near, show decide (max (a0 - k) (k - a0) > g.st) = false from by rw [show farV 0 2 = 1 from rfl] at h2; simpa using h2]; rfl
            refine Chk.mk (ink1 0 rfl) ⟨⟨1, by omega, by simp_all [fu2]⟩, fun j => j, ⟨?_, weak_app (A := _ :: Fr g a0 a1 b2 b3 b4) (B := Fr g a0 a1 b2 b3 b4) (hT _) (hK _) rfl (by repeat' (first | exact trivial | exact rfl | (intro i hi; exact rfl) | refine And.intro ?_ ?_)), injI_id _, rfl, rfl, rfl, trivial⟩, by show 2 - 1 < 2 - 0; omega⟩
            repeat' (first | exact trivial | exact rfl | (intro i hi; exact rfl) | refine And.intro ?_ ?_)
        · show exec _ _ ⟨[(0, ⟨[], .si .i64 2⟩), (1, ⟨[], .sp 22 0⟩), (2, ⟨[], .sp 23 0⟩), (3, ⟨[], .sp 4 0⟩), (4, ⟨[], .sp 24 0⟩), (7, ⟨[], .si .i64 k⟩), (36, ⟨[], .ss 23 0 2 5⟩), (37, ⟨[], .si .i64 2⟩), (38, ⟨[], .si .i64 1⟩)], [], Fr g a0 a1 b2 b3 b4 ++ CH c, 25, []⟩ _
          refine Br.mk (fun _ => ?_) (fun h => by cases h)
          refine Chk.mk (bnd 1 2 rfl) ?_
          refine drawn_ok (gg.ok _ _ _) fol [0,0,3,7,15,31,31,127,31,31,799,2047,4095,31,8223,24607,57375,122911,262143,524287] [] 19 (by kernel_rfl) ?_
          refine Chk.mk (show InK .i64 (((1 : Nat) : Int) + 2) from ⟨by decide, by decide⟩) ?_
          refine Chk.mk (under_of (show InK .i64 (a1 - k) from ⟨by omega, by omega⟩)) ?_
          refine Chk.mk (under_of (show InK .i64 (k - a1) from ⟨by omega, by omega⟩)) ?_
          refine Br.mk (fun h2 => ?_) (fun h2 => ?_)
          · have h2 : (decide (farV 1 2 = 1) && decide (max (a1 - k) (k - a1) > g.st)) = true := h2
            have hn : near g.st a1 k = false := by rw [near, (Bool.and_eq_true_iff.1 h2).2]; rfl
            have hfit : fu2 g.st a0 a1 k 2 = false := by simp [fu2, hn]
            refine Chk.mk (show InK .i64 (k + 1) from ⟨by omega, by omega⟩) ⟨⟨(k + 1, c, (b2, b3, b4)), by show g.l2 ≤ k + 1; omega, .inl (by show k + 1 ≤ g.h2 + 1; omega), by rw [← hk3]; rw [List.filter_cons_of_neg (by rw [hfit]; simp)], hc⟩, fun j => j, ⟨?_, weak_app (A := _ :: Fr g a0 a1 b2 b3 b4) (B := Fr g a0 a1 b2 b3 b4) (hT _) (hK _) rfl (by repeat' (first | exact trivial | exact rfl | (intro i hi; exact rfl) | refine And.intro ?_ ?_)), injI_id _, rfl, rfl, rfl, trivial⟩, by show (g.h2 + 1 - (k + 1)).toNat < (g.h2 + 1 - k).toNat; omega⟩
            repeat' (first | exact trivial | exact rfl | (intro i hi; exact rfl) | refine And.intro ?_ ?_)
          · have h2 : (decide (farV 1 2 = 1) && decide (max (a1 - k) (k - a1) > g.st)) = false := h2
            have hn : near g.st a1 k = true := by rw [near, show decide (max (a1 - k) (k - a1) > g.st) = false from by rw [show farV 1 2 = 1 from rfl] at h2; simpa using h2]; rfl
            refine Chk.mk (ink1 1 rfl) ⟨⟨2, by omega, by simp_all [fu2]⟩, fun j => j, ⟨?_, weak_app (A := _ :: Fr g a0 a1 b2 b3 b4) (B := Fr g a0 a1 b2 b3 b4) (hT _) (hK _) rfl (by repeat' (first | exact trivial | exact rfl | (intro i hi; exact rfl) | refine And.intro ?_ ?_)), injI_id _, rfl, rfl, rfl, trivial⟩, by show 2 - 2 < 2 - 1; omega⟩
            repeat' (first | exact trivial | exact rfl | (intro i hi; exact rfl) | refine And.intro ?_ ?_)
        · refine Br.mk (fun h => by cases h) (fun _ => ?_)
          have hfit : fu2 g.st a0 a1 k 2 = true := hf
          rw [List.filter_cons_of_pos (by exact hfit)] at hk3
          refine Chk.mk (bnd 2 5 rfl) ?_
          refine Chk.mk (ink1 2 rfl) ?_
          refine fb_call (gg.ok _ _ _) cont_std rfl rfl rfl rfl ?_
          refine ⟨b99, ?_⟩
          refine callS_sub (Fr g a0 a1 k b3 b4 ++ CH c) (weak_app (A := _ :: Fr g a0 a1 b2 b3 b4) (B := Fr g a0 a1 k b3 b4) (hT _) (hK _) rfl (by repeat' (first | exact trivial | exact rfl | (intro i hi; exact rfl) | refine And.intro ?_ ?_))) ?_
          refine s99_3 hg hT hK hO hY c hc o0 o1 (show okI k from ⟨by omega, by omega⟩) ?_
          intro e3 e4
          refine Br.mk (fun h2 => ?_) (fun h2 => ?_)
          · have h2 : (!(on3 f g c a0 a1 k).2) = true := h2
            have h2 : (on3 f g c a0 a1 k).2 = false := by simpa using h2
            rw [foldS_stop (f := fun c k => on3 f g c a0 a1 k) (c := c) (x := k) h2] at hk3
            refine ⟨(k, e3, e4), fun j => j, ?_, by rw [← hk3]; rfl, rfl, injI_id _, rfl, rfl⟩
            rw [← hk3]
            exact weak_app (A := Fr g a0 a1 k e3 e4) (B := Fr g a0 a1 k e3 e4) (hT _) (hK _) rfl (by repeat' (first | exact trivial | exact rfl | (intro i hi; exact rfl) | refine And.intro ?_ ?_))
          · have h2 : (!(on3 f g c a0 a1 k).2) = false := h2
            have h2 : (on3 f g c a0 a1 k).2 = true := by simpa using h2
            rw [foldS_go (f := fun c k => on3 f g c a0 a1 k) (c := c) (x := k) h2] at hk3
            have hnx : ok (on3 f g c a0 a1 k).1 := on3_ok hO hc h2
            refine Chk.mk (show InK .i64 (k + 1) from ⟨by omega, by omega⟩) ⟨⟨(k + 1, (on3 f g c a0 a1 k).1, (k, e3, e4)), by show g.l2 ≤ k + 1; omega, .inl (by show k + 1 ≤ g.h2 + 1; omega), hk3, hnx⟩, fun j => j, ⟨?_, weak_app (A := Fr g a0 a1 k e3 e4) (B := Fr g a0 a1 k e3 e4) (hT _) (hK _) rfl (by repeat' (first | exact trivial | exact rfl | (intro i hi; exact rfl) | refine And.intro ?_ ?_)), injI_id _, rfl, rfl, rfl, trivial⟩, by show (g.h2 + 1 - (k + 1)).toNat < (g.h2 + 1 - k).toNat; omega⟩
            repeat' (first | exact trivial | exact rfl | (intro i hi; exact rfl) | refine And.intro ?_ ?_)
    · have h1 : ¬ k ≤ g.h2 := of_decide_eq_false h1
      have hk3 : foldS (fun c k => on3 f g c a0 a1 k) c ((rangeI k g.h2).filter fun k => fu2 g.st a0 a1 k 2) = R := hk3
      rw [rangeI_nil (by omega)] at hk3
      have hk3 : (c, true) = R := hk3
      refine ⟨(b2, b3, b4), fun j => j, ?_, by rw [← hk3]; rfl, rfl, injI_id _, rfl, rfl⟩
      have e : CH R.1 = CH c := by rw [← hk3]
      show weakRH (fun j => j) 25 (Fr g a0 a1 b2 b3 b4 ++ CH c) (Fr g a0 a1 b2 b3 b4 ++ CH R.1)
      rw [e]
      exact weak_app (A := Fr g a0 a1 b2 b3 b4) (B := Fr g a0 a1 b2 b3 b4) (hT _) (hK _) rfl (by repeat' (first | exact trivial | exact rfl | (intro i hi; exact rfl) | refine And.intro ?_ ?_))
theorem s99_1 (c : γ) (hc : ok c) {a0 : Int} (o0 : okI a0) {b1 b2 b3 b4 : Int} {Rv : SV → List (Nat × HB) → Nat → Prop} {Rp : List PanicEntry → List (Nat × HB) → Nat → Prop}
    (hRv : ∀ e1 e2 e3 e4 : Int, Rv (.sb (on1 f g c a0).2) (Fr g a0 e1 e2 e3 e4 ++ CH (on1 f g c a0).1) 25) :
    CallS P 99 [.si .i64 1, .sp 22 0, .sp 23 0, .sp 4 0, .sp 24 0] (Fr g a0 b1 b2 b3 b4 ++ CH c) 25 Rv Rp := by
  have gg := g8485
  refine callS_toE (ι := Int × Int × Int × Int) gg.ok Try.func99 (c := code Try.f99) rfl (Nat.le_of_ble_eq_true rfl) (fun _ => .sb (on1 f g c a0).2) (fun x => Fr g a0 x.1 x.2.1 x.2.2.1 x.2.2.2 ++ CH (on1 f g c a0).1) 25 (fun G2 hG2 => ?_) (fun x => hRv x.1 x.2.1 x.2.2.1 x.2.2.2)
  obtain ⟨R, hR⟩ : ∃ R, on1 f g c a0 = R := ⟨_, rfl⟩
  rw [hR]
  have hg' := hg
  unfold ptsB at hg'
  have p0 := o0
  unfold okI at p0
  refine Br.mk (fun h => by cases h) (fun _ => ?_)
  refine Chk.mk (bnd 1 5 rfl) ?_
  refine loop_okR (gg.ok _ _ _) 25 (fun x : {x : Int × γ × Int × Int × Int × Int // g.l1 ≤ x.1 ∧ (x.1 ≤ g.h1 + 1 ∨ x.1 = g.l1) ∧ foldS (fun c k => on2 f g c a0 k) x.2.1 ((rangeI x.1 g.h1).filter fun k => fu1 g.st a0 k 1) = R ∧ ok x.2.1} =>
    ⟨[(0, ⟨[], .si .i64 1⟩), (1, ⟨[], .sp 22 0⟩), (2, ⟨[], .sp 23 0⟩), (3, ⟨[], .sp 4 0⟩), (4, ⟨[], .sp 24 0⟩), (7, ⟨[], .si .i64 x.1.1⟩)], [],
    Fr g a0 x.1.2.2.1 x.1.2.2.2.1 x.1.2.2.2.2.1 x.1.2.2.2.2.2 ++ CH x.1.2.1, 25, []⟩) (fun x => (g.h1 + 1 - x.1.1).toNat) hG2 ⟨(g.l1, c, (b1, b2, b3, b4)), by omega, .inr rfl, hR, hc⟩ (fun j => j) ?_ ?_
  · refine ⟨?_, weak_app (A := Fr g a0 b1 b2 b3 b4) (B := Fr g a0 b1 b2 b3 b4) (hT _) (hK _) rfl (by repeat' (first | exact trivial | exact rfl | (intro i hi; exact rfl) | refine And.intro ?_ ?_)), injI_id _, rfl, rfl, rfl, trivial⟩
    repeat' (first | exact trivial | exact rfl | (intro i hi; exact rfl) | refine And.intro ?_ ?_)
  · rintro ⟨⟨k, c, b1, b2, b3, b4⟩, hk1, hk2, hk3, hc⟩
    refine Chk.mk (bnd 1 5 rfl) ?_
    refine Br.mk (fun h1 => ?_) (fun h1 => ?_)
    · have h1 : k ≤ g.h1 := of_decide_eq_true h1
      have hk3 : foldS (fun c k => on2 f g c a0 k) c ((rangeI k g.h1).filter fun k => fu1 g.st a0 k 1) = R := hk3
      rw [rangeI_cons h1] at hk3
      refine Chk.mk ⟨by decide, by decide, by decide, by decide⟩ ?_
      refine loop_okR (gg.ok _ _ _) 25 (fun x : {i : Nat // i ≤ 1 ∧ fu1 g.st a0 k i = true} =>
        ⟨[(0, ⟨[], .si .i64 1⟩), (1, ⟨[], .sp 22 0⟩), (2, ⟨[], .sp 23 0⟩), (3, ⟨[], .sp 4 0⟩), (4, ⟨[], .sp 24 0⟩), (7, ⟨[], .si .i64 k⟩), (36, ⟨[], .ss 23 0 1 5⟩), (37, ⟨[], .si .i64 1⟩), (38, ⟨[], .si .i64 x.1⟩)], [],
        Fr g a0 b1 b2 b3 b4 ++ CH c, 25, []⟩) (fun x => 1 - x.1) hG2 ⟨0, Nat.zero_le _, rfl⟩ (fun j => j) ?_ ?_
      · refine ⟨?_, weak_app (A := Fr g a0 b1 b2 b3 b4) (B := Fr g a0 b1 b2 b3 b4) (hT _) (hK _) rfl (by repeat' (first | exact trivial | exact rfl | (intro i hi; exact rfl) | refine And.intro ?_ ?_)), injI_id _, rfl, rfl, rfl, trivial⟩
        repeat' (first | exact trivial | exact rfl | (intro i hi; exact rfl) | refine And.intro ?_ ?_)
      · rintro ⟨i, hi, hf⟩
        rcases (show i = 0 ∨ i = 1 by omega) with rfl | rfl
        · show exec _ _ ⟨[(0, ⟨[], .si .i64 1⟩), (1, ⟨[], .sp 22 0⟩), (2, ⟨[], .sp 23 0⟩), (3, ⟨[], .sp 4 0⟩), (4, ⟨[], .sp 24 0⟩), (7, ⟨[], .si .i64 k⟩), (36, ⟨[], .ss 23 0 1 5⟩), (37, ⟨[], .si .i64 1⟩), (38, ⟨[], .si .i64 0⟩)], [], Fr g a0 b1 b2 b3 b4 ++ CH c, 25, []⟩ _
          refine Br.mk (fun _ => ?_) (fun h => by cases h)
          refine Chk.mk (bnd 0 1 rfl) ?_
          refine drawn_ok (gg.ok _ _ _) fol [0,0,3,7,15,31,31,127,31,31,799,2047,4095,31,8223,24607,57375,122911,262143,524287] [] 19 (by kernel_rfl) ?_
          refine Chk.mk (show InK .i64 (((0 : Nat) : Int) + 1) from ⟨by decide, by decide⟩) ?_
          refine Chk.mk (under_of (show InK .i64 (a0 - k) from ⟨by omega, by omega⟩)) ?_
          refine Chk.mk (under_of (show InK .i64 (k - a0) from ⟨by omega, by omega⟩)) ?_
          refine Br.mk (fun h2 => ?_) (fun h2 => ?_)
          · have h2 : (decide (farV 0 1 = 1) && decide (max (a0 - k) (k - a0) > g.st)) = true := h2
            have hn : near g.st a0 k = false := by rw [near, (Bool.and_eq_true_iff.1 h2).2]; rfl
            have hfit : fu1 g.st a0 k 1 = false := by simp [fu1, hn]
            refine Chk.mk (show InK .i64 (k + 1) from ⟨by omega, by omega⟩) ⟨⟨(k + 1, c, (b1, b2, b3, b4)), by show g.l1 ≤ k + 1; omega, .inl (by show k + 1 ≤ g.h1 + 1; omega), by rw [← hk3]; rw [List.filter_cons_of_neg (by rw [hfit]; simp)], hc⟩, fun j => j, ⟨?_, weak_app (A := _ :: Fr g a0 b1 b2 b3 b4) (B := Fr g a0 b1 b2 b3 b4) (hT _) (hK _) rfl (by repeat' (first | exact trivial | exact rfl | (intro i hi; exact rfl) | refine And.intro ?_ ?_)), injI_id _, rfl, rfl, rfl, trivial⟩, by show (g.h1 + 1 - (k + 1)).toNat < (g.h1 + 1 - k).toNat; omega⟩
            repeat' (first | exact trivial | exact rfl | (intro i hi; exact rfl) | refine And.intro ?_ ?_)
          · have h2 : (decide (farV 0 1 = 1) && decide (max (a0 - k) (k - a0) > g.st)) = false := h2
            have hn : near g.st a0 k = true := by rw [near, show decide (max (a0 - k) (k - a0) > g.st) = false from by rw [show farV 0 1 = 1 from rfl] at h2; simpa using h2]; rfl
            refine Chk.mk (ink1 0 rfl) ⟨⟨1, by omega, by simp_all [fu1]⟩, fun j => j, ⟨?_, weak_app (A := _ :: Fr g a0 b1 b2 b3 b4) (B := Fr g a0 b1 b2 b3 b4) (hT _) (hK _) rfl (by repeat' (first | exact trivial | exact rfl | (intro i hi; exact rfl) | refine And.intro ?_ ?_)), injI_id _, rfl, rfl, rfl, trivial⟩, by show 1 - 1 < 1 - 0; omega⟩
            repeat' (first | exact trivial | exact rfl | (intro i hi; exact rfl) | refine And.intro ?_ ?_)
        · refine Br.mk (fun h => by cases h) (fun _ => ?_)
          have hfit : fu1 g.st a0 k 1 = true := hf
          rw [List.filter_cons_of_pos (by exact hfit)] at hk3
          refine Chk.mk (bnd 1 5 rfl) ?_
          refine Chk.mk (ink1 1 rfl) ?_
          refine fb_call (gg.ok _ _ _) cont_std rfl rfl rfl rfl ?_
          refine ⟨b99, ?_⟩
          refine callS_sub (Fr g a0 k b2 b3 b4 ++ CH c) (weak_app (A := _ :: Fr g a0 b1 b2 b3 b4) (B := Fr g a0 k b2 b3 b4) (hT _) (hK _) rfl (by repeat' (first | exact trivial | exact rfl | (intro i hi; exact rfl) | refine And.intro ?_ ?_))) ?_
          refine s99_2 hg hT hK hO hY c hc o0 (show okI k from ⟨by omega, by omega⟩) ?_
          intro e2 e3 e4
          refine Br.mk (fun h2 => ?_) (fun h2 => ?_)
          · have h2 : (!(on2 f g c a0 k).2) = true := h2
            have h2 : (on2 f g c a0 k).2 = false := by simpa using h2
            rw [foldS_stop (f := fun c k => on2 f g c a0 k) (c := c) (x := k) h2] at hk3
            refine ⟨(k, e2, e3, e4), fun j => j, ?_, by rw [← hk3]; rfl, rfl, injI_id _, rfl, rfl⟩
            rw [← hk3]
            exact weak_app (A := Fr g a0 k e2 e3 e4) (B := Fr g a0 k e2 e3 e4) (hT _) (hK _) rfl (by repeat' (first | exact trivial | exact rfl | (intro i hi; exact rfl) | refine And.intro ?_ ?_))
          · have h2 : (!(on2 f g c a0 k).2) = false := h2
            have h2 : (on2 f g c a0 k).2 = true := by simpa using h2
            rw [foldS_go (f := fun c k => on2 f g c a0 k) (c := c) (x := k) h2] at hk3
            have hnx : ok (on2 f g c a0 k).1 := on2_ok hO hc h2
            refine Chk.mk (show InK .i64 (k + 1) from ⟨by omega, by omega⟩) ⟨⟨(k + 1, (on2 f g c a0 k).1, (k, e2, e3, e4)), by show g.l1 ≤ k + 1; omega, .inl (by show k + 1 ≤ g.h1 + 1; omega), hk3, hnx⟩, fun j => j, ⟨?_, weak_app (A := Fr g a0 k e2 e3 e4) (B := Fr g a0 k e2 e3 e4) (hT _) (hK _) rfl (by repeat' (first | exact trivial | exact rfl | (intro i hi; exact rfl) | refine And.intro ?_ ?_)), injI_id _, rfl, rfl, rfl, trivial⟩, by show (g.h1 + 1 - (k + 1)).toNat < (g.h1 + 1 - k).toNat; omega⟩
            repeat' (first | exact trivial | exact rfl | (intro i hi; exact rfl) | refine And.intro ?_ ?_)
    · have h1 : ¬ k ≤ g.h1 := of_decide_eq_false h1
      have hk3 : foldS (fun c k => on2 f g c a0 k) c ((rangeI k g.h1).filter fun k => fu1 g.st a0 k 1) = R := hk3
      rw [rangeI_nil (by omega)] at hk3
      have hk3 : (c, true) = R := hk3
      refine ⟨(b1, b2, b3, b4), fun j => j, ?_, by rw [← hk3]; rfl, rfl, injI_id _, rfl, rfl⟩
      have e : CH R.1 = CH c := by rw [← hk3]
      show weakRH (fun j => j) 25 (Fr g a0 b1 b2 b3 b4 ++ CH c) (Fr g a0 b1 b2 b3 b4 ++ CH R.1)
      rw [e]
      exact weak_app (A := Fr g a0 b1 b2 b3 b4) (B := Fr g a0 b1 b2 b3 b4) (hT _) (hK _) rfl (by repeat' (first | exact trivial | exact rfl | (intro i hi; exact rfl) | refine And.intro ?_ ?_))
theorem s99_0 (c : γ) (hc : ok c) {b0 b1 b2 b3 b4 : Int} {Rv : SV → List (Nat × HB) → Nat → Prop} {Rp : List PanicEntry → List (Nat × HB) → Nat → Prop}
    (hRv : ∀ e0 e1 e2 e3 e4 : Int, Rv (.sb (on0 f g c).2) (Fr g e0 e1 e2 e3 e4 ++ CH (on0 f g c).1) 25) :
    CallS P 99 [.si .i64 0, .sp 22 0, .sp 23 0, .sp 4 0, .sp 24 0] (Fr g b0 b1 b2 b3 b4 ++ CH c) 25 Rv Rp := by
  have gg := g8485
  refine callS_toE (ι := Int × Int × Int × Int × Int) gg.ok Try.func99 (c := code Try.f99) rfl (Nat.le_of_ble_eq_true rfl) (fun _ => .sb (on0 f g c).2) (fun x => Fr g x.1 x.2.1 x.2.2.1 x.2.2.2.1 x.2.2.2.2 ++ CH (on0 f g c).1) 25 (fun G2 hG2 => ?_) (fun x => hRv x.1 x.2.1 x.2.2.1 x.2.2.2.1 x.2.2.2.2)
  obtain ⟨R, hR⟩ : ∃ R, on0 f g c = R := ⟨_, rfl⟩
  rw [hR]
  have hg' := hg
  unfold ptsB at hg'
  refine Br.mk (fun h => by cases h) (fun _ => ?_)
  refine Chk.mk (bnd 0 5 rfl) ?_
  refine loop_okR (gg.ok _ _ _) 25 (fun x : {x : Int × γ × Int × Int × Int × Int × Int // g.l0 ≤ x.1 ∧ (x.1 ≤ g.h0 + 1 ∨ x.1 = g.l0) ∧ foldS (fun c k => on1 f g c  k) x.2.1 ((rangeI x.1 g.h0).filter fun k => fu0 g.st  k 0) = R ∧ ok x.2.1} =>
    ⟨[(0, ⟨[], .si .i64 0⟩), (1, ⟨[], .sp 22 0⟩), (2, ⟨[], .sp 23 0⟩), (3, ⟨[], .sp 4 0⟩), (4, ⟨[], .sp 24 0⟩), (7, ⟨[], .si .i64 x.1.1⟩)], [],
    Fr g x.1.2.2.1 x.1.2.2.2.1 x.1.2.2.2.2.1 x.1.2.2.2.2.2.1 x.1.2.2.2.2.2.2 ++ CH x.1.2.1, 25, []⟩) (fun x => (g.h0 + 1 - x.1.1).toNat) hG2 ⟨(g.l0, c, (b0, b1, b2, b3, b4)), by omega, .inr rfl, hR, hc⟩ (fun j => j) ?_ ?_
  · refine ⟨?_, weak_app (A := Fr g b0 b1 b2 b3 b4) (B := Fr g b0 b1 b2 b3 b4) (hT _) (hK _) rfl (by repeat' (first | exact trivial | exact rfl | (intro i hi; exact rfl) | refine And.intro ?_ ?_)), injI_id _, rfl, rfl, rfl, trivial⟩
    repeat' (first | exact trivial | exact rfl | (intro i hi; exact rfl) | refine And.intro ?_ ?_)
  · rintro ⟨⟨k, c, b0, b1, b2, b3, b4⟩, hk1, hk2, hk3, hc⟩
    refine Chk.mk (bnd 0 5 rfl) ?_
    refine Br.mk (fun h1 => ?_) (fun h1 => ?_)
    · have h1 : k ≤ g.h0 := of_decide_eq_true h1
      have hk3 : foldS (fun c k => on1 f g c  k) c ((rangeI k g.h0).filter fun k => fu0 g.st  k 0) = R := hk3
      rw [rangeI_cons h1] at hk3
      refine Chk.mk ⟨by decide, by decide, by decide, by decide⟩ ?_
      refine loop_okR (gg.ok _ _ _) 25 (fun x : {i : Nat // i ≤ 0 ∧ fu0 g.st  k i = true} =>
        ⟨[(0, ⟨[], .si .i64 0⟩), (1, ⟨[], .sp 22 0⟩), (2, ⟨[], .sp 23 0⟩), (3, ⟨[], .sp 4 0⟩), (4, ⟨[], .sp 24 0⟩), (7, ⟨[], .si .i64 k⟩), (36, ⟨[], .ss 23 0 0 5⟩), (37, ⟨[], .si .i64 0⟩), (38, ⟨[], .si .i64 x.1⟩)], [],
        Fr g b0 b1 b2 b3 b4 ++ CH c, 25, []⟩) (fun x => 0 - x.1) hG2 ⟨0, Nat.zero_le _, rfl⟩ (fun j => j) ?_ ?_
      · refine ⟨?_, weak_app (A := Fr g b0 b1 b2 b3 b4) (B := Fr g b0 b1 b2 b3 b4) (hT _) (hK _) rfl (by repeat' (first | exact trivial | exact rfl | (intro i hi; exact rfl) | refine And.intro ?_ ?_)), injI_id _, rfl, rfl, rfl, trivial⟩
        repeat' (first | exact trivial | exact rfl | (intro i hi; exact rfl) | refine And.intro ?_ ?_)
      · rintro ⟨i, hi, hf⟩
        rcases (show i = 0 by omega) with rfl
        · refine Br.mk (fun h => by cases h) (fun _ => ?_)
          have hfit : fu0 g.st  k 0 = true := hf
          rw [List.filter_cons_of_pos (by exact hfit)] at hk3
          refine Chk.mk (bnd 0 5 rfl) ?_
          refine Chk.mk (ink1 0 rfl) ?_
          refine fb_call (gg.ok _ _ _) cont_std rfl rfl rfl rfl ?_
          refine ⟨b99, ?_⟩
          refine callS_sub (Fr g k b1 b2 b3 b4 ++ CH c) (weak_app (A := _ :: Fr g b0 b1 b2 b3 b4) (B := Fr g k b1 b2 b3 b4) (hT _) (hK _) rfl (by repeat' (first | exact trivial | exact rfl | (intro i hi; exact rfl) | refine And.intro ?_ ?_))) ?_
          refine s99_1 hg hT hK hO hY c hc (show okI k from ⟨by omega, by omega⟩) ?_
          intro e1 e2 e3 e4
          refine Br.mk (fun h2 => ?_) (fun h2 => ?_)
          · have h2 : (!(on1 f g c  k).2) = true := h2
            have h2 : (on1 f g c  k).2 = false := by simpa using h2
            rw [foldS_stop (f := fun c k => on1 f g c  k) (c := c) (x := k) h2] at hk3
            refine ⟨(k, e1, e2, e3, e4), fun j => j, ?_, by rw [← hk3]; rfl, rfl, injI_id _, rfl, rfl⟩
            rw [← hk3]
            exact weak_app (A := Fr g k e1 e2 e3 e4) (B := Fr g k e1 e2 e3 e4) (hT _) (hK _) rfl (by repeat' (first | exact trivial | exact rfl | (intro i hi; exact rfl) | refine And.intro ?_ ?_))
          · have h2 : (!(on1 f g c  k).2) = false := h2
            have h2 : (on1 f g c  k).2 = true := by simpa using h2
            rw [foldS_go (f := fun c k => on1 f g c  k) (c := c) (x := k) h2] at hk3
            have hnx : ok (on1 f g c  k).1 := on1_ok hO hc h2
            refine Chk.mk (show InK .i64 (k + 1) from ⟨by omega, by omega⟩) ⟨⟨(k + 1, (on1 f g c  k).1, (k, e1, e2, e3, e4)), by show g.l0 ≤ k + 1; omega, .inl (by show k + 1 ≤ g.h0 + 1; omega), hk3, hnx⟩, fun j => j, ⟨?_, weak_app (A := Fr g k e1 e2 e3 e4) (B := Fr g k e1 e2 e3 e4) (hT _) (hK _) rfl (by repeat' (first | exact trivial | exact rfl | (intro i hi; exact rfl) | refine And.intro ?_ ?_)), injI_id _, rfl, rfl, rfl, trivial⟩, by show (g.h0 + 1 - (k + 1)).toNat < (g.h0 + 1 - k).toNat; omega⟩
            repeat' (first | exact trivial | exact rfl | (intro i hi; exact rfl) | refine And.intro ?_ ?_)
    · have h1 : ¬ k ≤ g.h0 := of_decide_eq_false h1
      have hk3 : foldS (fun c k => on1 f g c  k) c ((rangeI k g.h0).filter fun k => fu0 g.st  k 0) = R := hk3
      rw [rangeI_nil (by omega)] at hk3
      have hk3 : (c, true) = R := hk3
      refine ⟨(b0, b1, b2, b3, b4), fun j => j, ?_, by rw [← hk3]; rfl, rfl, injI_id _, rfl, rfl⟩
      have e : CH R.1 = CH c := by rw [← hk3]
      show weakRH (fun j => j) 25 (Fr g b0 b1 b2 b3 b4 ++ CH c) (Fr g b0 b1 b2 b3 b4 ++ CH R.1)
      rw [e]
      exact weak_app (A := Fr g b0 b1 b2 b3 b4) (B := Fr g b0 b1 b2 b3 b4) (hT _) (hK _) rfl (by repeat' (first | exact trivial | exact rfl | (intro i hi; exact rfl) | refine And.intro ?_ ?_))
end
end Go.X.Gr
end

section
set_option linter.unusedVariables false
set_option linter.unusedSimpArgs false
set_option linter.unusedSectionVars false
/- Grade: blocks, whatever is done with each: the whole. -/
set_option linter.unusedVariables false
set_option linter.unusedSimpArgs false
set_option maxRecDepth 10000
set_option maxHeartbeats 4000000
namespace Go.X.Gr
open Go Go.Proofs Go.X

def Bx (g : Pts) : List (Nat × HB) := [(4, .cells 64 [.sp 1 0]), (1, .cells 108 (bnC g))]
theorem s98 {γ : Type} {f : γ → Int → Int → Int → Int → Int → γ × Bool} {g : Pts} {CH : γ → List (Nat × HB)} {ok : γ → Prop} (hg : ptsB g) (hT : ∀ c, weakRH (fun j => j) 25 (CH c) (CH c)) (hK : ∀ c, ∀ p ∈ CH c, keyOk p.1 = true)
    (hO : ∀ c a0 a1 a2 a3 a4, ok c → (f c a0 a1 a2 a3 a4).2 = true → ok (f c a0 a1 a2 a3 a4).1)
    (hY : ∀ c a0 a1 a2 a3 a4, ok c → okI a0 → okI a1 → okI a2 → okI a3 → okI a4 → YieldOk P T (tabC [(84, c84), (85, c85)]) 21 [.agg (c5 a0 a1 a2 a3 a4)] (Fr g a0 a1 a2 a3 a4 ++ CH c) 25 (f c a0 a1 a2 a3 a4).2 (Fr g a0 a1 a2 a3 a4 ++ CH (f c a0 a1 a2 a3 a4).1) 25)
    (c : γ) (hc : ok c) {Rv : SV → List (Nat × HB) → Nat → Prop} {Rp : List PanicEntry → List (Nat × HB) → Nat → Prop} (hRv : Rv (.tup []) (Bx g ++ CH (on0 f g c).1) 25) :
    CallS P 98 [.fy 21, .sp 4 0] (Bx g ++ CH c) 22 Rv Rp := by
  have gg := g8485
  refine callS_to gg.ok Try.func98 (c := code Try.f98) rfl (Nat.le_of_ble_eq_true rfl) _ _ _ (fun G2 hG2 => ?_) hRv
  refine fb_call (gg.ok _ _ _) cont_std rfl rfl rfl rfl ?_
  refine ⟨b99, ?_⟩
  refine callS_sub (Fr g 0 0 0 0 0 ++ CH c) (weak_app (A := (24, _) :: (24, _) :: (23, _) :: (22, _) :: Bx g) (B := Fr g 0 0 0 0 0) (hT _) (hK _) rfl (by repeat' (first | exact trivial | exact rfl | (intro i hi; exact rfl) | refine And.intro ?_ ?_))) ?_
  refine s99_0 hg hT hK hO hY c hc ?_
  intro e0 e1 e2 e3 e4
  refine ⟨fun j => j, ?_, trivial, rfl, injI_id _, rfl, rfl⟩
  exact weak_app (A := Fr g e0 e1 e2 e3 e4) (B := Bx g) (hT _) (hK _) rfl (by repeat' (first | exact trivial | exact rfl | (intro i hi; exact rfl) | refine And.intro ?_ ?_))
end Go.X.Gr
end

section
set_option linter.unusedVariables false
set_option linter.unusedSimpArgs false
set_option linter.unusedSectionVars false
/- Grade: a grade that is looked at; told. -/
set_option linter.unusedVariables false
set_option linter.unusedSimpArgs false
set_option maxRecDepth 10000
set_option maxHeartbeats 4000000
namespace Go.X.Gr
open Go Go.Proofs Go.X

def liC (p : Int × Int) : List SV := [.si .i64 p.1, .si .i64 p.2]
def liAt (get : Nat → List SV) (i : Nat) : Int × Int := match get i with
  | [.si .i64 a, .si .i64 b] => (a, b)
  | _ => (0, 0)
def Lims (n : Nat) (get : Nat → List SV) : Prop := ∀ i, i < n → get i = liC (liAt get i)
theorem lims_i (n : Nat) (v : Nat → Int × Int) : Lims n (fun i => liC (v i)) := fun i hi => rfl
/-- The cells of a grade that is looked at, by the ids of its two lists. -/
def bnX (i1 i2 : Nat) (g : Pts) : List SV := [.sl i1, .si .i64 g.l0, .si .i64 g.h0, .si .i64 g.l1, .si .i64 g.h1, .si .i64 g.l2, .si .i64 g.h2, .si .i64 g.l3, .si .i64 g.h3, .si .i64 g.l4, .si .i64 g.h4, .si .i64 g.st, .sl i2]
def benchK (H : LH) (bid : Nat) (K : Pts → (n : Nat) → (Nat → List SV) → (m : Nat) → (Nat → List SV) → Option COut) : Option COut :=
  match H bid with
  | some (.cells 108 [.sl i1, .si .i64 l0, .si .i64 h0, .si .i64 l1, .si .i64 h1, .si .i64 l2, .si .i64 h2, .si .i64 l3, .si .i64 h3, .si .i64 l4, .si .i64 h4, .si .i64 st, .sl i2]) => (match sliceOf 2 H i1, sliceOf 2 H i2 with
    | some (n, get), some (m, get2) => K ⟨l0, h0, l1, h1, l2, h2, l3, h3, l4, h4, st⟩ n get m get2
    | _, _ => none)
  | _ => none
theorem benchK_some {H : LH} {bid : Nat} {K : Pts → (n : Nat) → (Nat → List SV) → (m : Nat) → (Nat → List SV) → Option COut} {out : COut} (h : benchK H bid K = some out) :
    ∃ i1 i2 g n get m get2, H bid = some (.cells 108 (bnX i1 i2 g)) ∧ sliceOf 2 H i1 = some (n, get) ∧ sliceOf 2 H i2 = some (m, get2) ∧ K g n get m get2 = some out := by
  unfold benchK at h
  split at h
  · rename_i e
    split at h
    · rename_i e1 e2
      exact ⟨_, _, ⟨_, _, _, _, _, _, _, _, _, _, _⟩, _, _, _, _, e, e1, e2, h⟩
    · cases h
  · cases h
theorem benchK_mono {H H' : LH} {bid : Nat} {K : Pts → (n : Nat) → (Nat → List SV) → (m : Nat) → (Nat → List SV) → Option COut} {out : COut} (hH : ∀ id hb, H id = some hb → H' id = some hb) (h : benchK H bid K = some out) : benchK H' bid K = some out := by
  unfold benchK at h ⊢
  split at h
  · rename_i e
    split at h
    · rename_i e1 e2
      simp only [hH _ _ e, sliceOf_mono hH e1, sliceOf_mono hH e2]
      exact h
    · cases h
  · cases h
def bnP (i1 bid i2 n m : Nat) (g : Pts) (l1 l2 : Nat → Int × Int) : List (Nat × HB) := [(i1, .ro 2 n fun i => liC (l1 i)), (bid, .cells 108 (bnC g)), (i2, .ro 2 m fun i => liC (l2 i))]
def bnH (n m : Nat) (g : Pts) (l1 l2 : Nat → Int × Int) : List (Nat × HB) := [(0, .ro 2 n fun i => liC (l1 i)), (1, .cells 108 (bnC g)), (2, .ro 2 m fun i => liC (l2 i))]
/-- The first list is handed twice: what follows has the ids it is to have. -/
def bnP4 (i1 bid i2 n m : Nat) (g : Pts) (l1 l2 : Nat → Int × Int) : List (Nat × HB) := [(i1, .ro 2 n fun i => liC (l1 i)), (bid, .cells 108 (bnC g)), (i2, .ro 2 m fun i => liC (l2 i)), (i1, .ro 2 n fun i => liC (l1 i))]
def bnH4 (n m : Nat) (g : Pts) (l1 l2 : Nat → Int × Int) : List (Nat × HB) := [(0, .ro 2 n fun i => liC (l1 i)), (1, .cells 108 (bnC g)), (2, .ro 2 m fun i => liC (l2 i)), (3, .ro 2 n fun i => liC (l1 i))]
theorem bnHand {H : LH} {bid i1 i2 n m : Nat} {g : Pts} {get get2 : Nat → List SV} (h1 : H bid = some (.cells 108 (bnX i1 i2 g))) (h2 : sliceOf 2 H i1 = some (n, get)) (h3 : sliceOf 2 H i2 = some (m, get2)) (hs : Lims n get) (hs2 : Lims m get2) :
    Hand H (bnP i1 bid i2 n m g (liAt get) (liAt get2)) where
  ok j c hb h := by
    match j, h with
    | 0, h =>
      simp [bnP] at h; obtain ⟨rfl, rfl⟩ := h
      exact sliceOf_piece h2 fun i hi => by rw [hs i hi]; rfl
    | 1, h => simp [bnP] at h; obtain ⟨rfl, rfl⟩ := h; exact h1
    | 2, h =>
      simp [bnP] at h; obtain ⟨rfl, rfl⟩ := h
      exact sliceOf_piece h3 fun i hi => by rw [hs2 i hi]; rfl
    | j + 3, h => simp [bnP] at h
  ids j c hb h := by
    match j, h with
    | 0, h => simp [bnP] at h; obtain ⟨rfl, rfl⟩ := h; exact fun i hi => ⟨trivial, trivial, trivial⟩
    | 1, h => simp [bnP] at h; obtain ⟨rfl, rfl⟩ := h; exact ⟨(by show 0 < 3; decide), trivial, trivial, trivial, trivial, trivial, trivial, trivial, trivial, trivial, trivial, trivial, (by show 2 < 3; decide), trivial⟩
    | 2, h => simp [bnP] at h; obtain ⟨rfl, rfl⟩ := h; exact fun i hi => ⟨trivial, trivial, trivial⟩
    | j + 3, h => simp [bnP] at h
  inj i j c hb hb' h1 h2 o1 o2 := by
    match i, j, h1, h2 with
    | 0, 0, _, _ => rfl
    | 1, 1, _, _ => rfl
    | 2, 2, _, _ => rfl
    | 0, 1, h1, h2 => simp [bnP] at h1; obtain ⟨_, rfl⟩ := h1; cases o1
    | 0, 2, h1, h2 => simp [bnP] at h1; obtain ⟨_, rfl⟩ := h1; cases o1
    | 1, 0, h1, h2 => simp [bnP] at h2; obtain ⟨_, rfl⟩ := h2; cases o2
    | 1, 2, h1, h2 => simp [bnP] at h2; obtain ⟨_, rfl⟩ := h2; cases o2
    | 2, 0, h1, h2 => simp [bnP] at h1; obtain ⟨_, rfl⟩ := h1; cases o1
    | 2, 1, h1, h2 => simp [bnP] at h1; obtain ⟨_, rfl⟩ := h1; cases o1
    | i + 3, _, h, _ => simp [bnP] at h
    | _, j + 3, _, h => simp [bnP] at h

theorem bnHand4 {H : LH} {bid i1 i2 n m : Nat} {g : Pts} {get get2 : Nat → List SV} (h1 : H bid = some (.cells 108 (bnX i1 i2 g))) (h2 : sliceOf 2 H i1 = some (n, get)) (h3 : sliceOf 2 H i2 = some (m, get2)) (hs : Lims n get) (hs2 : Lims m get2) :
    Hand H (bnP4 i1 bid i2 n m g (liAt get) (liAt get2)) where
  ok j c hb h := by
    match j, h with
    | 0, h =>
      simp [bnP4] at h; obtain ⟨rfl, rfl⟩ := h
      exact sliceOf_piece h2 fun i hi => by rw [hs i hi]; rfl
    | 1, h => simp [bnP4] at h; obtain ⟨rfl, rfl⟩ := h; exact h1
    | 2, h =>
      simp [bnP4] at h; obtain ⟨rfl, rfl⟩ := h
      exact sliceOf_piece h3 fun i hi => by rw [hs2 i hi]; rfl
    | 3, h =>
      simp [bnP4] at h; obtain ⟨rfl, rfl⟩ := h
      exact sliceOf_piece h2 fun i hi => by rw [hs i hi]; rfl
    | j + 4, h => simp [bnP4] at h
  ids j c hb h := by
    match j, h with
    | 0, h => simp [bnP4] at h; obtain ⟨rfl, rfl⟩ := h; exact fun i hi => ⟨trivial, trivial, trivial⟩
    | 1, h => simp [bnP4] at h; obtain ⟨rfl, rfl⟩ := h; exact ⟨(by show 0 < 4; decide), trivial, trivial, trivial, trivial, trivial, trivial, trivial, trivial, trivial, trivial, trivial, (by show 2 < 4; decide), trivial⟩
    | 2, h => simp [bnP4] at h; obtain ⟨rfl, rfl⟩ := h; exact fun i hi => ⟨trivial, trivial, trivial⟩
    | 3, h => simp [bnP4] at h; obtain ⟨rfl, rfl⟩ := h; exact fun i hi => ⟨trivial, trivial, trivial⟩
    | j + 4, h => simp [bnP4] at h
  inj i j c hb hb' h1 h2 o1 o2 := by
    match i, j, h1, h2 with
    | 0, 0, _, _ => rfl
    | 1, 1, _, _ => rfl
    | 2, 2, _, _ => rfl
    | 0, 1, h1, h2 => simp [bnP4] at h1; obtain ⟨_, rfl⟩ := h1; cases o1
    | 0, 2, h1, h2 => simp [bnP4] at h1; obtain ⟨_, rfl⟩ := h1; cases o1
    | 1, 0, h1, h2 => simp [bnP4] at h2; obtain ⟨_, rfl⟩ := h2; cases o2
    | 1, 2, h1, h2 => simp [bnP4] at h2; obtain ⟨_, rfl⟩ := h2; cases o2
    | 2, 0, h1, h2 => simp [bnP4] at h1; obtain ⟨_, rfl⟩ := h1; cases o1
    | 2, 1, h1, h2 => simp [bnP4] at h1; obtain ⟨_, rfl⟩ := h1; cases o1
    | 0, 3, h1, h2 => simp [bnP4] at h1; obtain ⟨_, rfl⟩ := h1; cases o1
    | 2, 3, h1, h2 => simp [bnP4] at h1; obtain ⟨_, rfl⟩ := h1; cases o1
    | 1, 3, h1, h2 => simp [bnP4] at h2; obtain ⟨_, rfl⟩ := h2; cases o2
    | 3, _, h1, h2 => simp [bnP4] at h1; obtain ⟨_, rfl⟩ := h1; cases o1
    | i + 4, _, h, _ => simp [bnP4] at h
    | _, j + 4, _, h => simp [bnP4] at h

/-! ### told -/
abbrev B5 := Int × Int × Int × Int × Int
theorem b78 : Body P 78 := body_of Try.func78 (c := code Try.f78) rfl (by decide)
theorem b94 : Body P 94 := body_of Try.func94 (c := code Try.f94) rfl (by decide)
theorem b95 : Body P 95 := body_of Try.func95 (c := code Try.f95) rfl (by decide)
def fTold (_ : Option B5) (a0 a1 a2 a3 a4 : Int) : Option B5 × Bool := (some (a0, a1, a2, a3, a4), false)
def xTold : Option B5 → List SV
  | none => c5 0 0 0 0 0
  | some (a0, a1, a2, a3, a4) => c5 a0 a1 a2 a3 a4
def sTold : Option B5 → LoopState
  | none => .ready
  | some _ => .done
def pTold : Option B5 → Option Code
  | none => none
  | some _ => some .ret
def bTold : Option B5 → Bool
  | none => false
  | some _ => true
noncomputable def chTold (n m : Nat) (l1 l2 : Nat → Int × Int) (fn : Nat) (c : Option B5) : List (Nat × HB) :=
  [(21, .loop [(3, .sp 5 0), (4, .sp 6 0), (5, .sp 7 0), (7, .fn (.func 98) [] [.sp 4 0])] Try.f94.ntmps fn [8] (rfA (code Try.f94)) (rfB (code Try.f94)) 20 (sTold c) (pTold c)), (20, .dfr),
   (7, .cells 4 [.sb (bTold c)]), (6, .cells 68 (xTold c)), (5, .cells 124 [.fn (.func 95) [] []]), (2, .ro 2 m fun i => liC (l2 i)), (0, .ro 2 n fun i => liC (l1 i))]
theorem keys_of {H : List (Nat × HB)} (h : (H.all fun p => keyOk p.1) = true) : ∀ p ∈ H, keyOk p.1 = true := fun p hp => List.all_eq_true.1 h p hp
theorem yTold {g : Pts} {n m : Nat} {l1 l2 : Nat → Int × Int} {fn : Nat} (a0 a1 a2 a3 a4 : Int) :
    YieldOk P T (tabC [(84, c84), (85, c85)]) 21 [.agg (c5 a0 a1 a2 a3 a4)] (Fr g a0 a1 a2 a3 a4 ++ chTold n m l1 l2 fn none) 25 false (Fr g a0 a1 a2 a3 a4 ++ chTold n m l1 l2 fn (some (a0, a1, a2, a3, a4))) 25 := by
  refine yield_to 21 g8485.ok (l' := [(8, .agg (c5 a0 a1 a2 a3 a4)), (3, .sp 5 0), (4, .sp 6 0), (5, .sp 7 0), (7, .fn (.func 98) [] [.sp 4 0])]) rfl rfl (by decide) fun G r hG => ?_
  refine fb_call (g8485.ok _ _ _) cont_std rfl rfl rfl rfl ?_
  refine ⟨b95, ?_⟩
  refine callS_exec g8485.ok Try.func95 (c := code Try.f95) rfl (Nat.le_of_ble_eq_true rfl) fun G2 hG2 => ?_
  refine Br.mk (fun _ => ?_) (fun h => by cases h)
  refine ⟨fun j => j, ?_, rfl, rfl, injI_id _, rfl, rfl⟩
  repeat' (first | exact trivial | exact rfl | (intro i hi; exact ⟨rfl, rfl⟩) | refine allV_find ?_ | refine And.intro ?_ ?_)
end Go.X.Gr
end

section
set_option linter.unusedVariables false
set_option linter.unusedSimpArgs false
set_option linter.unusedSectionVars false
/- Grade: told. -/
set_option linter.unusedVariables false
set_option linter.unusedSimpArgs false
set_option maxRecDepth 10000
set_option maxHeartbeats 4000000
namespace Go.X.Gr
open Go Go.Proofs Go.X

def hasB (g : Pts) : Bool := bTold (on0 fTold g none).1
def c61 : Ct := fun fr args H => match args with
  | [.sp bid 0] => benchK H bid fun g n get m get2 => some ⟨some (Lims n get ∧ Lims m get2 ∧ ptsB g), some (!hasB g, refP 10), .sp bid 0, []⟩
  | _ => none
theorem c61_mono : CtMono c61 := by
  intro fr args H H' out hH h
  unfold c61 at h ⊢
  split at h
  · exact benchK_mono hH h
  · cases h
theorem k61 {l : List (Nat × Ct)} (g0 : Good P T l) : COk P 61 c61 := by
  have g := g74 good0
  refine cok (C := tabC _) g.ok Try.func61 (c := code Try.f61) rfl fun fr args H out h hp => ?_
  unfold c61 at h
  split at h
  · rename_i bid
    obtain ⟨i1, i2, p, n, get, m, get2, e1, e2, e3, h⟩ := benchK_some h
    cases h
    obtain ⟨hs, hs2, hb⟩ : Lims n get ∧ Lims m get2 ∧ ptsB p := hp
    have hh := bnHand4 e1 e2 e3 hs hs2
    refine ⟨bnP4 i1 bid i2 n m p (liAt get) (liAt get2), [.sp 1 0], bnH4 n m p (liAt get) (liAt get2), 4, [], rfl, rfl, Nat.le_of_ble_eq_true rfl, hh, rfl, rfl, fun G hG => ?_⟩
    generalize liAt get = l1
    generalize liAt get2 = l2
    refine fb_call (g.ok _ _ _) cont_std rfl rfl rfl rfl ?_
    refine ⟨b78, ?_⟩
    refine callS_exec g.ok Try.func78 (c := code Try.f78) rfl (Nat.le_of_ble_eq_true rfl) fun G2 hG2 => ?_
    refine fb_call (g.ok _ _ _) cont_std rfl rfl rfl rfl ?_
    refine ⟨b94, ?_⟩
    refine callS_execM g.ok Try.func94 (c := code Try.f94) rfl (Nat.le_of_ble_eq_true rfl) fun G3 hG3 => ?_
    refine (show SemC _ _ _ _ from ?_)
    refine weaken (g.ok _ _ _) (st' := ⟨[(3, ⟨[], .sp 5 0⟩), (4, ⟨[], .sp 6 0⟩), (5, ⟨[], .sp 7 0⟩), (7, ⟨[], .fn (.func 98) [] [.sp 4 0]⟩)], [],
      (7, .cells 4 [.sb false]) :: (6, .cells 68 (c5 0 0 0 0 0)) :: (5, .cells 124 [.fn (.func 95) [] []]) :: (4, .cells 64 [.sp 1 0]) :: bnH4 n m p l1 l2, 20, []⟩) 5 (fun j => j) hG3 ?_ ?_
    · refine ⟨?_, ?_, injI_id _, rfl, rfl, rfl, trivial⟩
      · repeat' (first | exact trivial | exact rfl | refine And.intro ?_ ?_)
      · repeat' (first | exact trivial | exact rfl | (intro i hi; exact ⟨rfl, rfl⟩) | refine And.intro ?_ ?_)
    refine rangeFunc_ok (g.ok _ _ _) rfl rfl rfl b98 ?_
    intro fn
    refine callS_sub (Bx p ++ chTold n m l1 l2 fn none) (by repeat' (first | exact trivial | exact rfl | (intro i hi; exact ⟨rfl, rfl⟩) | refine allV_find ?_ | refine And.intro ?_ ?_)) ?_
    refine s98 (f := fTold) (ok := fun c => c = none) (CH := chTold n m l1 l2 fn) hb (fun c => ?_) (fun c => keys_of (by cases c <;> rfl)) (fun c a0 a1 a2 a3 a4 _ h => by cases h) (fun c a0 a1 a2 a3 a4 hc _ _ _ _ _ => by subst hc; exact yTold a0 a1 a2 a3 a4) none rfl ?_
    · cases c <;> repeat' (first | exact trivial | exact rfl | (intro i hi; exact ⟨rfl, rfl⟩) | refine allV_find ?_ | refine And.intro ?_ ?_)
    have hH : hasB p = bTold (on0 fTold p none).1 := rfl
    generalize (on0 fTold p none).1 = R at hH
    cases R with
    | none =>
      refine Br.mk (fun _ => ?_) (fun h => by cases h)
      exact ⟨by rw [hH]; rfl, by repeat' (first | exact trivial | exact rfl | (intro i hi; exact ⟨rfl, rfl⟩) | refine And.intro ?_ ?_)⟩
    | some x =>
      obtain ⟨a0, a1, a2, a3, a4⟩ := x
      refine Br.mk (fun h => by cases h) (fun _ => ?_)
      exact ⟨.inr ⟨_, by rw [hH]; rfl⟩, ⟨⟨rfl, rfl⟩, rfl, trivial, (by repeat' (first | exact trivial | exact rfl | (intro i hi; exact ⟨rfl, rfl⟩) | refine And.intro ?_ ?_)), rfl, rfl⟩⟩
  · cases h
theorem g61 {l : List (Nat × Ct)} (g : Good P T l) : Good P T ((61, c61) :: l) := g.add (k61 g) c61_mono (body_of Try.func61 (c := code Try.f61) rfl (by decide))
end Go.X.Gr
end

section
set_option linter.unusedVariables false
set_option linter.unusedSimpArgs false
set_option linter.unusedSectionVars false
/- Grade: the span of a number of all blocks. -/
set_option linter.unusedVariables false
set_option linter.unusedSimpArgs false
set_option maxRecDepth 10000
set_option maxHeartbeats 4000000
namespace Go.X.Gr
open Go Go.Proofs Go.X

theorem b50 : Body P 50 := body_of Try.func50 (c := code Try.f50) rfl (by decide)
theorem b55 : Body P 55 := body_of Try.func55 (c := code Try.f55) rfl (by decide)
theorem b58 : Body P 58 := body_of Try.func58 (c := code Try.f58) rfl (by decide)
abbrev SpC := Option (Int × Int)
def fSpan (L : Int → Int → Int → Int → Int → Int) (c : SpC) (a0 a1 a2 a3 a4 : Int) : SpC × Bool := (match c with
  | none => some (min (L a0 a1 a2 a3 a4) (L a0 a1 a2 a3 a4), max (L a0 a1 a2 a3 a4) (L a0 a1 a2 a3 a4))
  | some (lo, hi) => some (min lo (L a0 a1 a2 a3 a4), max hi (L a0 a1 a2 a3 a4)), true)
def bSpan : SpC → Bool
  | none => false
  | some _ => true
def vSpan : SpC → Int × Int
  | none => (0, 0)
  | some p => p
def ptV (q : Int) (a0 a1 a2 a3 a4 : Int) : Int := if q = 0 then a0 else if q = 1 then a1 else if q = 2 then a2 else if q = 3 then a3 else a4
noncomputable def chSpan (OF : SV) (E : List (Nat × HB)) (n m : Nat) (l1 l2 : Nat → Int × Int) (fn : Nat) (c : SpC) : List (Nat × HB) :=
  [(21, .loop [(3, .sp 5 0), (4, .sp 6 0), (5, .sp 7 0), (9, .fn (.func 98) [] [.sp 4 0])] Try.f49.ntmps fn [10] (rfA (code Try.f49)) (rfB (code Try.f49)) 20 .ready none), (20, .dfr),
   (7, .cells 4 [.sb (bSpan c)]), (6, .cells 24 [.si .i64 (vSpan c).1, .si .i64 (vSpan c).2]), (5, .cells 69 [OF]), (2, .ro 2 m fun i => liC (l2 i)), (0, .ro 2 n fun i => liC (l1 i))] ++ E
theorem sm5_of {a0 a1 a2 a3 a4 : Int} (o0 : okI a0) (o1 : okI a1) (o2 : okI a2) (o3 : okI a3) (o4 : okI a4) : sm5 a0 a1 a2 a3 a4 := by
  unfold okI at *
  unfold sm5 sm
  omega
def spanG (L : Int → Int → Int → Int → Int → Int) (g : Pts) : SpC := (on0 (fSpan L) g none).1
theorem ySpan_v {g : Pts} {n m : Nat} {l1 l2 : Nat → Int × Int} {fn : Nat} (c : SpC) {a0 a1 a2 a3 a4 : Int} (o0 : okI a0) (o1 : okI a1) (o2 : okI a2) (o3 : okI a3) (o4 : okI a4) :
    YieldOk P T (tabC [(84, c84), (85, c85)]) 21 [.agg (c5 a0 a1 a2 a3 a4)] (Fr g a0 a1 a2 a3 a4 ++ chSpan (.fn (.func 55) [] []) [] n m l1 l2 fn c) 25 true (Fr g a0 a1 a2 a3 a4 ++ chSpan (.fn (.func 55) [] []) [] n m l1 l2 fn (fSpan varV c a0 a1 a2 a3 a4).1) 25 := by
  refine yield_to 21 g8485.ok (l' := [(10, .agg (c5 a0 a1 a2 a3 a4)), (3, .sp 5 0), (4, .sp 6 0), (5, .sp 7 0), (9, .fn (.func 98) [] [.sp 4 0])]) rfl rfl (by decide) fun G r hG => ?_
  refine fb_call (g8485.ok _ _ _) cont_std rfl rfl rfl rfl ?_
  refine ⟨b55, ?_⟩
  refine callS_ct (k55 good0) rfl (sm5_of o0 o1 o2 o3 o4) (fun _ => ?_) (fun ch h => by cases h)
  cases c with
  | none =>
    refine Br.mk (fun _ => ?_) (fun h => by cases h)
    refine ⟨fun j => j, ?_, rfl, rfl, injI_id _, rfl, rfl⟩
    repeat' (first | exact trivial | exact rfl | (intro i hi; exact ⟨rfl, rfl⟩) | refine allV_find ?_ | refine And.intro ?_ ?_)
  | some p =>
    refine Br.mk (fun h => by cases h) (fun _ => ?_)
    refine ⟨fun j => j, ?_, rfl, rfl, injI_id _, rfl, rfl⟩
    repeat' (first | exact trivial | exact rfl | (intro i hi; exact ⟨rfl, rfl⟩) | refine allV_find ?_ | refine And.intro ?_ ?_)
theorem ySpan_o {g : Pts} {n m : Nat} {l1 l2 : Nat → Int × Int} {fn : Nat} (c : SpC) {a0 a1 a2 a3 a4 : Int} (o0 : okI a0) (o1 : okI a1) (o2 : okI a2) (o3 : okI a3) (o4 : okI a4) :
    YieldOk P T (tabC [(84, c84), (85, c85)]) 21 [.agg (c5 a0 a1 a2 a3 a4)] (Fr g a0 a1 a2 a3 a4 ++ chSpan (.fn (.func 58) [] []) [] n m l1 l2 fn c) 25 true (Fr g a0 a1 a2 a3 a4 ++ chSpan (.fn (.func 58) [] []) [] n m l1 l2 fn (fSpan offV c a0 a1 a2 a3 a4).1) 25 := by
  refine yield_to 21 g8485.ok (l' := [(10, .agg (c5 a0 a1 a2 a3 a4)), (3, .sp 5 0), (4, .sp 6 0), (5, .sp 7 0), (9, .fn (.func 98) [] [.sp 4 0])]) rfl rfl (by decide) fun G r hG => ?_
  refine fb_call (g8485.ok _ _ _) cont_std rfl rfl rfl rfl ?_
  refine ⟨b58, ?_⟩
  refine callS_ct (k58 good0) rfl (sm5_of o0 o1 o2 o3 o4) (fun _ => ?_) (fun ch h => by cases h)
  cases c with
  | none =>
    refine Br.mk (fun _ => ?_) (fun h => by cases h)
    refine ⟨fun j => j, ?_, rfl, rfl, injI_id _, rfl, rfl⟩
    repeat' (first | exact trivial | exact rfl | (intro i hi; exact ⟨rfl, rfl⟩) | refine allV_find ?_ | refine And.intro ?_ ?_)
  | some p =>
    refine Br.mk (fun h => by cases h) (fun _ => ?_)
    refine ⟨fun j => j, ?_, rfl, rfl, injI_id _, rfl, rfl⟩
    repeat' (first | exact trivial | exact rfl | (intro i hi; exact ⟨rfl, rfl⟩) | refine allV_find ?_ | refine And.intro ?_ ?_)
theorem ySpan_p0 {g : Pts} {n m : Nat} {l1 l2 : Nat → Int × Int} {fn : Nat} (c : SpC) {a0 a1 a2 a3 a4 : Int} (o0 : okI a0) (o1 : okI a1) (o2 : okI a2) (o3 : okI a3) (o4 : okI a4) :
    YieldOk P T (tabC [(84, c84), (85, c85)]) 21 [.agg (c5 a0 a1 a2 a3 a4)] (Fr g a0 a1 a2 a3 a4 ++ chSpan (.fn (.func 50) [] [.sp 3 0]) [(3, .cells 3 [.si .i64 0])] n m l1 l2 fn c) 25 true (Fr g a0 a1 a2 a3 a4 ++ chSpan (.fn (.func 50) [] [.sp 3 0]) [(3, .cells 3 [.si .i64 0])] n m l1 l2 fn (fSpan (ptV 0) c a0 a1 a2 a3 a4).1) 25 := by
  refine yield_to 21 g8485.ok (l' := [(10, .agg (c5 a0 a1 a2 a3 a4)), (3, .sp 5 0), (4, .sp 6 0), (5, .sp 7 0), (9, .fn (.func 98) [] [.sp 4 0])]) rfl rfl (by decide) fun G r hG => ?_
  refine fb_call (g8485.ok _ _ _) cont_std rfl rfl rfl rfl ?_
  refine ⟨b50, ?_⟩
  refine callS_exec g8485.ok Try.func50 (c := code Try.f50) rfl (Nat.le_of_ble_eq_true rfl) fun G2 hG2 => ?_
  refine Chk.mk ⟨by decide, by decide⟩ ?_
  cases c with
  | none =>
    refine Br.mk (fun _ => ?_) (fun h => by cases h)
    refine ⟨fun j => j, ?_, rfl, rfl, injI_id _, rfl, rfl⟩
    repeat' (first | exact trivial | exact rfl | (intro i hi; exact ⟨rfl, rfl⟩) | refine allV_find ?_ | refine And.intro ?_ ?_)
  | some p =>
    refine Br.mk (fun h => by cases h) (fun _ => ?_)
    refine ⟨fun j => j, ?_, rfl, rfl, injI_id _, rfl, rfl⟩
    repeat' (first | exact trivial | exact rfl | (intro i hi; exact ⟨rfl, rfl⟩) | refine allV_find ?_ | refine And.intro ?_ ?_)
theorem ySpan_p1 {g : Pts} {n m : Nat} {l1 l2 : Nat → Int × Int} {fn : Nat} (c : SpC) {a0 a1 a2 a3 a4 : Int} (o0 : okI a0) (o1 : okI a1) (o2 : okI a2) (o3 : okI a3) (o4 : okI a4) :
    YieldOk P T (tabC [(84, c84), (85, c85)]) 21 [.agg (c5 a0 a1 a2 a3 a4)] (Fr g a0 a1 a2 a3 a4 ++ chSpan (.fn (.func 50) [] [.sp 3 0]) [(3, .cells 3 [.si .i64 1])] n m l1 l2 fn c) 25 true (Fr g a0 a1 a2 a3 a4 ++ chSpan (.fn (.func 50) [] [.sp 3 0]) [(3, .cells 3 [.si .i64 1])] n m l1 l2 fn (fSpan (ptV 1) c a0 a1 a2 a3 a4).1) 25 := by
  refine yield_to 21 g8485.ok (l' := [(10, .agg (c5 a0 a1 a2 a3 a4)), (3, .sp 5 0), (4, .sp 6 0), (5, .sp 7 0), (9, .fn (.func 98) [] [.sp 4 0])]) rfl rfl (by decide) fun G r hG => ?_
  refine fb_call (g8485.ok _ _ _) cont_std rfl rfl rfl rfl ?_
  refine ⟨b50, ?_⟩
  refine callS_exec g8485.ok Try.func50 (c := code Try.f50) rfl (Nat.le_of_ble_eq_true rfl) fun G2 hG2 => ?_
  refine Chk.mk ⟨by decide, by decide⟩ ?_
  cases c with
  | none =>
    refine Br.mk (fun _ => ?_) (fun h => by cases h)
    refine ⟨fun j => j, ?_, rfl, rfl, injI_id _, rfl, rfl⟩
    repeat' (first | exact trivial | exact rfl | (intro i hi; exact ⟨rfl, rfl⟩) | refine allV_find ?_ | refine And.intro ?_ ?_)
  | some p =>
    refine Br.mk (fun h => by cases h) (fun _ => ?_)
    refine ⟨fun j => j, ?_, rfl, rfl, injI_id _, rfl, rfl⟩
    repeat' (first | exact trivial | exact rfl | (intro i hi; exact ⟨rfl, rfl⟩) | refine allV_find ?_ | refine And.intro ?_ ?_)
theorem ySpan_p2 {g : Pts} {n m : Nat} {l1 l2 : Nat → Int × Int} {fn : Nat} (c : SpC) {a0 a1 a2 a3 a4 : Int} (o0 : okI a0) (o1 : okI a1) (o2 : okI a2) (o3 : okI a3) (o4 : okI a4) :
    YieldOk P T (tabC [(84, c84), (85, c85)]) 21 [.agg (c5 a0 a1 a2 a3 a4)] (Fr g a0 a1 a2 a3 a4 ++ chSpan (.fn (.func 50) [] [.sp 3 0]) [(3, .cells 3 [.si .i64 2])] n m l1 l2 fn c) 25 true (Fr g a0 a1 a2 a3 a4 ++ chSpan (.fn (.func 50) [] [.sp 3 0]) [(3, .cells 3 [.si .i64 2])] n m l1 l2 fn (fSpan (ptV 2) c a0 a1 a2 a3 a4).1) 25 := by
  refine yield_to 21 g8485.ok (l' := [(10, .agg (c5 a0 a1 a2 a3 a4)), (3, .sp 5 0), (4, .sp 6 0), (5, .sp 7 0), (9, .fn (.func 98) [] [.sp 4 0])]) rfl rfl (by decide) fun G r hG => ?_
  refine fb_call (g8485.ok _ _ _) cont_std rfl rfl rfl rfl ?_
  refine ⟨b50, ?_⟩
  refine callS_exec g8485.ok Try.func50 (c := code Try.f50) rfl (Nat.le_of_ble_eq_true rfl) fun G2 hG2 => ?_
  refine Chk.mk ⟨by decide, by decide⟩ ?_
  cases c with
  | none =>
    refine Br.mk (fun _ => ?_) (fun h => by cases h)
    refine ⟨fun j => j, ?_, rfl, rfl, injI_id _, rfl, rfl⟩
    repeat' (first | exact trivial | exact rfl | (intro i hi; exact ⟨rfl, rfl⟩) | refine allV_find ?_ | refine And.intro ?_ ?_)
  | some p =>
    refine Br.mk (fun h => by cases h) (fun _ => ?_)
    refine ⟨fun j => j, ?_, rfl, rfl, injI_id _, rfl, rfl⟩
    repeat' (first | exact trivial | exact rfl | (intro i hi; exact ⟨rfl, rfl⟩) | refine allV_find ?_ | refine And.intro ?_ ?_)
theorem ySpan_p3 {g : Pts} {n m : Nat} {l1 l2 : Nat → Int × Int} {fn : Nat} (c : SpC) {a0 a1 a2 a3 a4 : Int} (o0 : okI a0) (o1 : okI a1) (o2 : okI a2) (o3 : okI a3) (o4 : okI a4) :
    YieldOk P T (tabC [(84, c84), (85, c85)]) 21 [.agg (c5 a0 a1 a2 a3 a4)] (Fr g a0 a1 a2 a3 a4 ++ chSpan (.fn (.func 50) [] [.sp 3 0]) [(3, .cells 3 [.si .i64 3])] n m l1 l2 fn c) 25 true (Fr g a0 a1 a2 a3 a4 ++ chSpan (.fn (.func 50) [] [.sp 3 0]) [(3, .cells 3 [.si .i64 3])] n m l1 l2 fn (fSpan (ptV 3) c a0 a1 a2 a3 a4).1) 25 := by
  refine yield_to 21 g8485.ok (l' := [(10, .agg (c5 a0 a1 a2 a3 a4)), (3, .sp 5 0), (4, .sp 6 0), (5, .sp 7 0), (9, .fn (.func 98) [] [.sp 4 0])]) rfl rfl (by decide) fun G r hG => ?_
  refine fb_call (g8485.ok _ _ _) cont_std rfl rfl rfl rfl ?_
  refine ⟨b50, ?_⟩
  refine callS_exec g8485.ok Try.func50 (c := code Try.f50) rfl (Nat.le_of_ble_eq_true rfl) fun G2 hG2 => ?_
  refine Chk.mk ⟨by decide, by decide⟩ ?_
  cases c with
  | none =>
    refine Br.mk (fun _ => ?_) (fun h => by cases h)
    refine ⟨fun j => j, ?_, rfl, rfl, injI_id _, rfl, rfl⟩
    repeat' (first | exact trivial | exact rfl | (intro i hi; exact ⟨rfl, rfl⟩) | refine allV_find ?_ | refine And.intro ?_ ?_)
  | some p =>
    refine Br.mk (fun h => by cases h) (fun _ => ?_)
    refine ⟨fun j => j, ?_, rfl, rfl, injI_id _, rfl, rfl⟩
    repeat' (first | exact trivial | exact rfl | (intro i hi; exact ⟨rfl, rfl⟩) | refine allV_find ?_ | refine And.intro ?_ ?_)
theorem ySpan_p4 {g : Pts} {n m : Nat} {l1 l2 : Nat → Int × Int} {fn : Nat} (c : SpC) {a0 a1 a2 a3 a4 : Int} (o0 : okI a0) (o1 : okI a1) (o2 : okI a2) (o3 : okI a3) (o4 : okI a4) :
    YieldOk P T (tabC [(84, c84), (85, c85)]) 21 [.agg (c5 a0 a1 a2 a3 a4)] (Fr g a0 a1 a2 a3 a4 ++ chSpan (.fn (.func 50) [] [.sp 3 0]) [(3, .cells 3 [.si .i64 4])] n m l1 l2 fn c) 25 true (Fr g a0 a1 a2 a3 a4 ++ chSpan (.fn (.func 50) [] [.sp 3 0]) [(3, .cells 3 [.si .i64 4])] n m l1 l2 fn (fSpan (ptV 4) c a0 a1 a2 a3 a4).1) 25 := by
  refine yield_to 21 g8485.ok (l' := [(10, .agg (c5 a0 a1 a2 a3 a4)), (3, .sp 5 0), (4, .sp 6 0), (5, .sp 7 0), (9, .fn (.func 98) [] [.sp 4 0])]) rfl rfl (by decide) fun G r hG => ?_
  refine fb_call (g8485.ok _ _ _) cont_std rfl rfl rfl rfl ?_
  refine ⟨b50, ?_⟩
  refine callS_exec g8485.ok Try.func50 (c := code Try.f50) rfl (Nat.le_of_ble_eq_true rfl) fun G2 hG2 => ?_
  refine Chk.mk ⟨by decide, by decide⟩ ?_
  cases c with
  | none =>
    refine Br.mk (fun _ => ?_) (fun h => by cases h)
    refine ⟨fun j => j, ?_, rfl, rfl, injI_id _, rfl, rfl⟩
    repeat' (first | exact trivial | exact rfl | (intro i hi; exact ⟨rfl, rfl⟩) | refine allV_find ?_ | refine And.intro ?_ ?_)
  | some p =>
    refine Br.mk (fun h => by cases h) (fun _ => ?_)
    refine ⟨fun j => j, ?_, rfl, rfl, injI_id _, rfl, rfl⟩
    repeat' (first | exact trivial | exact rfl | (intro i hi; exact ⟨rfl, rfl⟩) | refine allV_find ?_ | refine And.intro ?_ ?_)
end Go.X.Gr
end
