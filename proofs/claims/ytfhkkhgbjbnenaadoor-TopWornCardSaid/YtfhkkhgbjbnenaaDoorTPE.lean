/- Stack: what is found of lengths; plain mathematics; Wear: follow: back: what a round does, in whatever order. -/
import Derived.Test.YtfhkkhgbjbnenaaDoorTPD
import Derived.Test.YtfhkkhgbjbnenaaDoorTPC

section
set_option linter.unusedVariables false
set_option linter.unusedSimpArgs false
set_option linter.unusedSectionVars false
/- Stack: what is found of lengths; plain mathematics. -/
set_option linter.unusedVariables false
set_option linter.unusedSimpArgs false
set_option linter.unusedSectionVars false
set_option maxRecDepth 10000
set_option maxHeartbeats 1000000
namespace Go.X.S
open Go Go.Proofs Go.X

theorem lessN_iff {x y : Nat} : lessN x y = true ↔ sizeN x < sizeN y ∨ (sizeN x = sizeN y ∧ x < y) := by
  simp only [lessN, Bool.or_eq_true, Bool.and_eq_true, decide_eq_true_eq]
theorem lessN_no {x y : Nat} : ¬ lessN x y = true ↔ sizeN y < sizeN x ∨ (sizeN x = sizeN y ∧ y ≤ x) := by
  rw [lessN_iff]; omega
/-- The one that comes first. -/
def minN (x y : Nat) : Nat := if lessN y x = true then y else x
theorem minN_comm (x y : Nat) : minN x y = minN y x := by
  unfold minN
  by_cases h1 : lessN y x = true <;> by_cases h2 : lessN x y = true
  · rw [lessN_iff] at h1 h2; omega
  · rw [if_pos h1, if_neg h2]
  · rw [if_neg h1, if_pos h2]
  · rw [if_neg h1, if_neg h2]
    rw [lessN_no] at h1 h2; omega
theorem minN_assoc (x y z : Nat) : minN (minN x y) z = minN x (minN y z) := by
  unfold minN
  by_cases h1 : lessN y x = true <;> by_cases h2 : lessN z y = true <;> by_cases h3 : lessN z x = true <;>
    simp only [h1, h2, h3, if_true, if_false, Bool.false_eq_true] <;> simp only [lessN_no, lessN_iff] at h1 h2 h3 <;> omega
theorem join_eq (f x : Fd) : join f x = ⟨f.many + x.many, minN f.least x.least, f.each &&& x.each, f.some ||| x.some⟩ := rfl
theorem join_comm (f x : Fd) : join f x = join x f := by
  simp only [join_eq, minN_comm f.least, Nat.add_comm f.many, Nat.and_comm f.each, Nat.or_comm f.some]
theorem join_assoc (f x y : Fd) : join (join f x) y = join f (join x y) := by
  simp only [join_eq, minN_assoc, Nat.add_assoc, Nat.and_assoc, Nat.or_assoc]

/-- One more. -/
def jo (o : Option Fd) (x : Fd) : Option Fd := match o with
  | none => some x
  | some y => some (join y x)
def J (l : List Fd) : Option Fd := l.foldl jo none
def jj (a b : Option Fd) : Option Fd := match b with
  | none => a
  | some y => jo a y
theorem foldl_jo (l : List Fd) (o : Option Fd) : l.foldl jo o = jj o (J l) := by
  have key : ∀ (l : List Fd) (o p : Option Fd), l.foldl jo (jj o p) = jj o (l.foldl jo p) := by
    intro l
    induction l with
    | nil => intro o p; rfl
    | cons x r ih =>
      intro o p
      simp only [List.foldl_cons]
      have : jo (jj o p) x = jj o (jo p x) := by
        cases p with
        | none => rfl
        | some y => cases o with
          | none => rfl
          | some z => simp only [jj, jo, join_assoc]
      rw [this, ih]
  exact key l o none
theorem J_append (a b : List Fd) : J (a ++ b) = jj (J a) (J b) := by
  simp only [J, List.foldl_append]
  exact foldl_jo b _
theorem J_cons (x : Fd) (l : List Fd) : J (x :: l) = jj (some x) (J l) := by
  have := J_append [x] l
  simpa [J, jo] using this
theorem jj_none (a : Option Fd) : jj none a = a := by cases a <;> rfl
theorem jj_comm (a b : Option Fd) : jj a b = jj b a := by
  cases a <;> cases b <;> simp only [jj, jo]
  rw [join_comm]
theorem jj_assoc (a b c : Option Fd) : jj (jj a b) c = jj a (jj b c) := by
  cases a <;> cases b <;> cases c <;> simp only [jj, jo]
  rw [join_assoc]
theorem J_perm {a b : List Fd} (h : a.Perm b) : J a = J b := by
  induction h with
  | nil => rfl
  | cons x _ ih => rw [J_cons, J_cons, ih]
  | swap x y l => rw [J_cons, J_cons, J_cons, J_cons, ← jj_assoc, ← jj_assoc, jj_comm (some y) (some x)]
  | trans _ _ h1 h2 => rw [h1, h2]
theorem J_none {l : List Fd} : J l = none ↔ l = [] := by
  constructor
  · intro h
    cases l with
    | nil => rfl
    | cons x r => rw [J_cons] at h; cases hj : J r <;> rw [hj] at h <;> simp [jj, jo] at h
  · rintro rfl; rfl
theorem jn_J (f : Nat → Fd) : ∀ n, jn f n = (J ((List.range n).map f)).getD ⟨0, 0, 0, 0⟩
  | 0 => rfl
  | n + 1 => by
    have ih := jn_J f n
    rw [List.range_succ, List.map_append, J_append]
    simp only [jn]
    split
    · rename_i e; subst e; rfl
    · rename_i e
      rw [ih]
      cases hj : J ((List.range n).map f) with
      | none => rw [J_none] at hj; simp at hj; exact absurd hj e
      | some y => rfl

section
variable {κ : Type} [DecidableEq κ]
/-- What is found of a key. -/
def Gk (S : List (κ × Fd)) (k : κ) : Option Fd := J ((S.filter (fun p => decide (p.1 = k))).map (·.2))
theorem Gk_append (a b : List (κ × Fd)) (k : κ) : Gk (a ++ b) k = jj (Gk a k) (Gk b k) := by
  simp only [Gk, List.filter_append, List.map_append, J_append]
theorem Gk_one (k' : κ) (f : Fd) (k : κ) : Gk [(k', f)] k = if k' = k then some f else none := by
  simp only [Gk, List.filter_cons, List.filter_nil]
  split <;> rename_i h
  · simp at h; subst h; simp [J, jo]
  · simp at h; simp [J, h]
theorem Gk_perm {a b : List (κ × Fd)} (h : a.Perm b) (k : κ) : Gk a k = Gk b k := J_perm ((h.filter _).map _)
def putA (m : List (κ × Fd)) (k : κ) (f : Fd) : List (κ × Fd) := updA m k (match lookA m k with
  | some old => join old f
  | none => f)
def group (S : List (κ × Fd)) : List (κ × Fd) := S.foldl (fun m p => putA m p.1 p.2) []
theorem lookA_updA (m : List (κ × Fd)) (k : κ) (v : Fd) (k' : κ) : lookA (updA m k v) k' = if k' = k then some v else lookA m k' := by
  induction m with
  | nil => simp only [updA, lookA]; split <;> split <;> simp_all
  | cons p r ih =>
    simp only [updA]
    split
    · rename_i e; simp only [lookA]
      by_cases h : k = k'
      · subst h; simp
      · rw [if_neg h, if_neg (fun e' => h e'.symm), if_neg (fun e' => h (e.symm.trans e'))]
    · rename_i e; simp only [lookA, ih]
      by_cases h : p.1 = k'
      · subst h; simp [e]
      · simp [h]
theorem lookA_putA (m : List (κ × Fd)) (k : κ) (f : Fd) (k' : κ) : lookA (putA m k f) k' = if k' = k then jo (lookA m k) f else lookA m k' := by
  rw [putA, lookA_updA]
  split
  · cases lookA m k <;> rfl
  · rfl
theorem group_look (S : List (κ × Fd)) (k : κ) : lookA (group S) k = Gk S k := by
  have key : ∀ (S : List (κ × Fd)) (m : List (κ × Fd)), lookA (S.foldl (fun m p => putA m p.1 p.2) m) k = jj (lookA m k) (Gk S k) := by
    intro S
    induction S with
    | nil => intro m; rfl
    | cons p r ih =>
      intro m
      simp only [List.foldl_cons]
      rw [ih, lookA_putA]
      have : Gk (p :: r) k = jj (Gk [p] k) (Gk r k) := Gk_append [p] r k
      rw [this, Gk_one, ← jj_assoc]
      by_cases h : k = p.1
      · subst h; simp [jj]
      · rw [if_neg h, if_neg (fun e => h e.symm)]
        simp [jj]
  have := key S []
  rw [group, this]
  exact jj_none _
theorem putA_keys (m : List (κ × Fd)) (k : κ) (f : Fd) (h : (m.map (·.1)).Nodup) : ((putA m k f).map (·.1)).Nodup := by
  have key : ∀ (m : List (κ × Fd)) v, (m.map (·.1)).Nodup → ((updA m k v).map (·.1)).Nodup ∧ ∀ x, x ∈ (updA m k v).map (·.1) → x ∈ m.map (·.1) ∨ x = k := by
    intro m v
    induction m with
    | nil => intro _; simp [updA]
    | cons p r ih =>
      intro h
      simp only [List.map_cons, List.nodup_cons] at h
      obtain ⟨ih1, ih2⟩ := ih h.2
      simp only [updA]
      split
      · rename_i e; subst e
        refine ⟨by simpa using h, fun x hx => ?_⟩
        simp only [List.map_cons, List.mem_cons] at hx ⊢
        rcases hx with hx | hx
        · exact .inr hx
        · exact .inl (.inr hx)
      · rename_i e
        simp only [List.map_cons, List.nodup_cons, List.mem_cons]
        refine ⟨⟨fun hm => ?_, ih1⟩, fun x hx => ?_⟩
        · rcases ih2 _ hm with hm | hm
          · exact h.1 hm
          · exact e hm
        · rcases hx with hx | hx
          · exact .inl (.inl hx)
          · rcases ih2 _ hx with hx | hx
            · exact .inl (.inr hx)
            · exact .inr hx
  exact (key m _ h).1
theorem group_snoc (S : List (κ × Fd)) (p : κ × Fd) : group (S ++ [p]) = putA (group S) p.1 p.2 := by
  simp only [group, List.foldl_append, List.foldl_cons, List.foldl_nil]
theorem group_keys (S : List (κ × Fd)) : ((group S).map (·.1)).Nodup := by
  have key : ∀ (S m : List (κ × Fd)), (m.map (·.1)).Nodup → ((S.foldl (fun m p => putA m p.1 p.2) m).map (·.1)).Nodup := by
    intro S
    induction S with
    | nil => intro m h; exact h
    | cons p r ih => intro m h; exact ih _ (putA_keys m _ _ h)
  exact key S [] (by simp)
/-- Two maps with the same entries. -/
theorem perm_of_look {a b : List (κ × Fd)} (ha : (a.map (·.1)).Nodup) (hb : (b.map (·.1)).Nodup) (h : ∀ k, lookA a k = lookA b k) : a.Perm b := by
  have mem : ∀ {a b : List (κ × Fd)}, (a.map (·.1)).Nodup → (∀ k, lookA a k = lookA b k) → ∀ p, p ∈ a → p ∈ b := by
    intro a b ha h p hp
    have h1 := lookA_of_mem (l := a) (k := p.1) (v := p.2) ha hp
    rw [h] at h1
    exact lookA_mem h1
  have nd : ∀ {a : List (κ × Fd)}, (a.map (·.1)).Nodup → a.Nodup := by
    intro a h
    unfold List.Nodup at h ⊢
    rw [List.pairwise_map] at h
    exact h.imp fun hne e => hne (by rw [e])
  rw [List.perm_ext_iff_of_nodup (nd ha) (nd hb)]
  exact fun p => ⟨mem ha h p, mem hb (fun k => (h k).symm) p⟩

/-- Sums of what is found do not depend on how it was grouped. -/
def sumM (S : List (κ × Fd)) : Nat := (S.map (·.2.many)).sum
theorem sumM_updA (m : List (κ × Fd)) (k : κ) (v : Fd) : sumM (updA m k v) + (match lookA m k with | some o => o.many | none => 0) = sumM m + v.many := by
  induction m with
  | nil => simp [updA, lookA, sumM]
  | cons p r ih =>
    simp only [updA, lookA]
    split
    · simp [sumM]; omega
    · simp only [sumM, List.map_cons, List.sum_cons] at ih ⊢
      omega
theorem sumM_putA (m : List (κ × Fd)) (k : κ) (f : Fd) : sumM (putA m k f) = sumM m + f.many := by
  have := sumM_updA m k (match lookA m k with | some old => join old f | none => f)
  unfold putA
  cases h : lookA m k with
  | none => rw [h] at this; simpa using this
  | some o => rw [h] at this; simp only [join] at this ⊢; omega
theorem sumM_group (S : List (κ × Fd)) : sumM (group S) = sumM S := by
  have key : ∀ (S m : List (κ × Fd)), sumM (S.foldl (fun m p => putA m p.1 p.2) m) = sumM m + sumM S := by
    intro S
    induction S with
    | nil => intro m; simp [sumM]
    | cons p r ih => intro m; rw [List.foldl_cons, ih, sumM_putA]; simp [sumM]; omega
  have := key S []
  simpa [group, sumM] using this
theorem sumM_perm {a b : List (κ × Fd)} (h : a.Perm b) : sumM a = sumM b := (h.map _).sum_nat
theorem sumM_mem {S : List (κ × Fd)} {p : κ × Fd} (h : p ∈ S) : p.2.many ≤ sumM S := by
  induction S with
  | nil => cases h
  | cons q r ih =>
    simp only [sumM, List.map_cons, List.sum_cons] at ih ⊢
    rcases List.mem_cons.1 h with rfl | h
    · omega
    · have := ih h; omega
/-- A bound that joining keeps. -/
theorem group_all (P : Fd → Prop) (hP : ∀ f x, P f → P x → P (join f x)) {S : List (κ × Fd)} (h : ∀ p ∈ S, P p.2) : ∀ p ∈ group S, P p.2 := by
  have upd : ∀ (m : List (κ × Fd)) k v, (∀ p ∈ m, P p.2) → P v → ∀ p ∈ updA m k v, P p.2 := by
    intro m k v
    induction m with
    | nil => intro _ hv p hp; simp [updA] at hp; subst hp; exact hv
    | cons q r ih =>
      intro hm hv p hp
      simp only [updA] at hp
      split at hp
      · rcases List.mem_cons.1 hp with rfl | hp
        · exact hv
        · exact hm p (List.mem_cons_of_mem _ hp)
      · rcases List.mem_cons.1 hp with rfl | hp
        · exact hm p List.mem_cons_self
        · exact ih (fun p hp => hm p (List.mem_cons_of_mem _ hp)) hv p hp
  have key : ∀ (S m : List (κ × Fd)), (∀ p ∈ S, P p.2) → (∀ p ∈ m, P p.2) → ∀ p ∈ S.foldl (fun m p => putA m p.1 p.2) m, P p.2 := by
    intro S
    induction S with
    | nil => intro m _ hm; exact hm
    | cons q r ih =>
      intro m hS hm
      refine ih _ (fun p hp => hS p (List.mem_cons_of_mem _ hp)) (upd m _ _ hm ?_)
      cases hl : lookA m q.1 with
      | none => exact hS q List.mem_cons_self
      | some o => exact hP _ _ (hm _ (lookA_mem hl)) (hS q List.mem_cons_self)
  exact key S [] h (fun p hp => by cases hp)
end
end Go.X.S
end

section
set_option linter.unusedVariables false
set_option linter.unusedSimpArgs false
set_option linter.unusedSectionVars false
/- Stack: all lengths; keys and entries of the map; the map block by block. -/
set_option linter.unusedVariables false
set_option linter.unusedSimpArgs false
set_option linter.unusedSectionVars false
set_option maxRecDepth 10000
set_option maxHeartbeats 1000000
namespace Go.X.S
open Go Go.Proofs Go.X

structure Lg where
  lo : Int
  hi : Int
  many : Int
deriving DecidableEq
def encL (x : Lg) : SV := .agg [.si .i64 x.lo, .si .i64 x.hi, .si .i64 x.many]
theorem encL_key : KeyT T 75 encL where
  ty := ⟨_, rfl⟩
  chk := fun a => by kernel_rfl
  eq := fun a b => by
    have h : eqC T 9 75 (encL a) (encL b) = some ((decide (a.lo = b.lo) && (decide (a.hi = b.hi) && true)) && (decide (a.many = b.many) && true)) := by kernel_rfl
    rw [h]
    congr 1
    rw [Bool.eq_iff_iff]
    obtain ⟨a1, a2, a3⟩ := a
    obtain ⟨b1, b2, b3⟩ := b
    simp [and_assoc]
  cl := fun a => ⟨.agg #[.int .i64 a.lo, .int .i64 a.hi, .int .i64 a.many], rfl⟩
  same := fun a => by
    have : cv (encL a) = .agg #[.int .i64 a.lo, .int .i64 a.hi, .int .i64 a.many] := rfl
    rw [this]
    simp [Instr.sameBits]
theorem encF_cl : Closed encF := fun a => ⟨.agg #[.int .i64 a.many, .int .u64 a.least, .int .u64 a.each, .int .u64 a.some], rfl⟩

def zeroL : Lg := ⟨0, 0, 0⟩
def withL (film b : Span) (k : Lg) : Lg := ⟨(if 0 < k.many then k.lo + film.1 else k.lo) + b.1, (if 0 < k.many then k.hi + film.2 else k.hi) + b.2, k.many + 1⟩
def withF (i : Nat) (f : Fd) : Fd := ⟨f.many, f.least ||| 2 ^ i, f.each ||| 2 ^ i, f.some ||| 2 ^ i⟩
def stepE (film b : Span) (i : Nat) (p : Lg × Fd) : List (Lg × Fd) := [p, (withL film b p.1, withF i p.2)]
def listS (film : Span) (sp : Nat → Span) : Nat → List (Lg × Fd)
  | 0 => [(zeroL, ⟨1, 0, 0, 0⟩)]
  | i + 1 => (listS film sp i).flatMap (stepE film (sp i) i)

theorem sizeN_or {x i : Nat} (h : x < 2 ^ i) : sizeN (x ||| 2 ^ i) = sizeN x + 1 := by
  have h2 : x ||| 2 ^ i < 2 ^ (i + 1) := Nat.or_lt_two_pow (by rw [Nat.pow_succ]; omega) (Nat.pow_lt_pow_right (by decide) (by omega))
  rw [← cntB_size (i + 1) _ h2, ← cntB_size i x h]
  have hc : ∀ j, j ≤ i → cntB (x ||| 2 ^ i) j = cntB x j := by
    intro j
    induction j with
    | zero => intro _; rfl
    | succ j ih =>
      intro hj
      simp only [cntB, ih (by omega), Nat.testBit_or]
      have : (2 ^ i).testBit j = false := by rw [Nat.testBit_two_pow]; simp; omega
      simp [this]
  simp only [cntB, hc i (Nat.le_refl _), Nat.testBit_or]
  simp [Nat.testBit_two_pow_self]
theorem or_add {x i : Nat} (h : x < 2 ^ i) : x ||| 2 ^ i = x + 2 ^ i := by
  rw [Nat.or_comm]
  have := Nat.two_pow_add_eq_or_of_lt h 1
  simp at this
  rw [← this]; omega
theorem lessN_or {x y i : Nat} (hx : x < 2 ^ i) (hy : y < 2 ^ i) : lessN (x ||| 2 ^ i) (y ||| 2 ^ i) = lessN x y := by
  rw [Bool.eq_iff_iff, lessN_iff, lessN_iff, sizeN_or hx, sizeN_or hy, or_add hx, or_add hy]
  omega
theorem minN_or {x y i : Nat} (hx : x < 2 ^ i) (hy : y < 2 ^ i) : minN (x ||| 2 ^ i) (y ||| 2 ^ i) = minN x y ||| 2 ^ i := by
  unfold minN
  rw [lessN_or hy hx]
  split <;> rfl
theorem withF_join {f x : Fd} {i : Nat} (hf : f.least < 2 ^ i) (hx : x.least < 2 ^ i) : withF i (join f x) = join (withF i f) (withF i x) := by
  simp only [withF, join_eq, minN_or hf hx, Fd.mk.injEq, true_and]
  constructor
  · apply Nat.eq_of_testBit_eq; intro j
    simp only [Nat.testBit_or, Nat.testBit_and]
    cases f.each.testBit j <;> cases x.each.testBit j <;> cases (2 ^ i).testBit j <;> rfl
  · apply Nat.eq_of_testBit_eq; intro j
    simp only [Nat.testBit_or]
    cases f.some.testBit j <;> cases x.some.testBit j <;> cases (2 ^ i).testBit j <;> rfl

/-- The step does not look at how it was grouped. -/
theorem step_group (film b : Span) (i : Nat) (S : List (Lg × Fd)) (h : ∀ p ∈ S, p.2.least < 2 ^ i) (k : Lg) : Gk ((group S).flatMap (stepE film b i)) k = Gk (S.flatMap (stepE film b i)) k := by
  have key : ∀ (r S : List (Lg × Fd)), (∀ p ∈ S, p.2.least < 2 ^ i) → (∀ p ∈ r, p.2.least < 2 ^ i) → Gk ((group S).flatMap (stepE film b i)) k = Gk (S.flatMap (stepE film b i)) k →
      Gk ((group (S ++ r)).flatMap (stepE film b i)) k = Gk ((S ++ r).flatMap (stepE film b i)) k := by
    intro r
    induction r with
    | nil => intro S _ _ h; simpa using h
    | cons p r ih =>
      intro S hS hr h
      have e : S ++ p :: r = (S ++ [p]) ++ r := by simp
      rw [e]
      refine ih (S ++ [p]) (fun q hq => ?_) (fun q hq => hr q (List.mem_cons_of_mem _ hq)) ?_
      · rcases List.mem_append.1 hq with hq | hq
        · exact hS q hq
        · simp at hq; subst hq; exact hr q List.mem_cons_self
      · rw [group_snoc, List.flatMap_append, Gk_append, ← h]
        have hp := hr p List.mem_cons_self
        cases hl : lookA (group S) p.1 with
        | none =>
          rw [putA, hl, updA_new (lookA_none.1 hl), List.flatMap_append, Gk_append]
        | some o =>
          have ho : o.least < 2 ^ i := by
            refine group_all (fun f => f.least < 2 ^ i) (fun f x h1 h2 => ?_) hS _ (lookA_mem hl)
            simp only [join_eq, minN]
            split <;> assumption
          obtain ⟨u, v, e1, e2⟩ := updA_old (v := join o p.2) (group_keys S) (lookA_mem hl)
          rw [putA, hl, e2, e1]
          simp only [List.flatMap_append, List.flatMap_cons, Gk_append, List.flatMap_nil, List.append_nil]
          have hone : ∀ (k' : Lg) (x y : Fd), Gk [(k', join x y)] k = jj (Gk [(k', x)] k) (Gk [(k', y)] k) := by
            intro k' x y
            simp only [Gk_one]
            by_cases h1 : k' = k
            · simp only [h1, if_true, jj, jo]
            · simp only [h1, if_false, jj]
          have jj4 : ∀ a b c d : Option Fd, jj (jj a b) (jj c d) = jj (jj a c) (jj b d) := by
            intro a b c d
            rw [jj_assoc, jj_assoc, ← jj_assoc b, ← jj_assoc c, jj_comm b c]
          have hs : Gk (stepE film b i (p.1, join o p.2)) k = jj (Gk (stepE film b i (p.1, o)) k) (Gk (stepE film b i p) k) := by
            have split2 : ∀ (q : Lg × Fd), Gk (stepE film b i q) k = jj (Gk [q] k) (Gk [(withL film b q.1, withF i q.2)] k) := fun q => Gk_append [q] [(withL film b q.1, withF i q.2)] k
            obtain ⟨pk, pf⟩ := p
            rw [split2, split2, split2, withF_join ho hp, hone, hone, jj4]
          rw [hs]
          rw [jj_assoc _ _ (Gk (stepE film b i p) k), jj_assoc _ _ (Gk (List.flatMap (stepE film b i) v) k), jj_assoc _ (Gk (List.flatMap (stepE film b i) v) k), jj_comm (Gk (stepE film b i p) k)]
  have := key S [] (fun p hp => by cases hp) h rfl
  simpa using this

theorem listS_ok (film : Span) (sp : Nat → Span) : ∀ i, (∀ p ∈ listS film sp i, p.2.least < 2 ^ i ∧ p.2.each < 2 ^ i ∧ p.2.some < 2 ^ i ∧ p.2.many = 1) ∧ sumM (listS film sp i) = 2 ^ i ∧ (listS film sp i).length = 2 ^ i
  | 0 => by
    refine ⟨fun p hp => ?_, rfl, rfl⟩
    simp [listS] at hp; subst hp; simp
  | i + 1 => by
    obtain ⟨h1, h2, h3⟩ := listS_ok film sp i
    have hp2 : 2 ^ i < 2 ^ (i + 1) := Nat.pow_lt_pow_right (by decide) (by omega)
    refine ⟨fun p hp => ?_, ?_, ?_⟩
    · simp only [listS, List.mem_flatMap] at hp
      obtain ⟨q, hq, hp⟩ := hp
      have hb := h1 q hq
      simp only [stepE, List.mem_cons, List.not_mem_nil, or_false] at hp
      rcases hp with rfl | rfl
      · omega
      · refine ⟨?_, ?_, ?_, hb.2.2.2⟩ <;> exact Nat.or_lt_two_pow (by omega) hp2
    · have : ∀ (S : List (Lg × Fd)), sumM (S.flatMap (stepE film (sp i) i)) = 2 * sumM S := by
        intro S
        induction S with
        | nil => rfl
        | cons p r ih =>
          simp only [List.flatMap_cons, sumM, List.map_append, List.sum_append, List.map_cons, List.sum_cons] at ih ⊢
          rw [ih]
          simp [stepE, withF]
          omega
      rw [listS, this, h2, Nat.pow_succ]; omega
    · have : ∀ (S : List (Lg × Fd)), (S.flatMap (stepE film (sp i) i)).length = 2 * S.length := by
        intro S
        induction S with
        | nil => rfl
        | cons p r ih => simp only [List.flatMap_cons, List.length_append, ih, List.length_cons]; simp [stepE]; omega
      rw [listS, this, h3, Nat.pow_succ]; omega
end Go.X.S
end

section
set_option linter.unusedVariables false
set_option linter.unusedSimpArgs false
set_option linter.unusedSectionVars false
/- Stack: all lengths, the walk. -/
set_option linter.unusedVariables false
set_option linter.unusedSimpArgs false
set_option linter.unusedSectionVars false
set_option maxRecDepth 10000
set_option maxHeartbeats 2000000
namespace Go.X.S
open Go Go.Proofs Go.X

def lenM (film : Span) (n : Nat) (sp : Nat → Span) : List (Lg × Fd) := group ((listS film sp n).filter fun p => decide (p.1 ≠ zeroL))
def c57 : Ct := fun fr args H =>
  match args with
  | [.sp sid 0] => (match H sid with
    | some (.cells 100 [.sl id, .si .i64 lo, .si .i64 hi]) => (match sliceOf 2 H id with
      | some (n, get) => some ⟨some (Spans n get ∧ okSet (spanL n get) lo hi), none, .sm fr, [(fr, .mp (encM encL encF (lenM (lo, hi) n (spanAt get))))]⟩
      | none => none)
    | _ => none)
  | _ => none
theorem c57_mono : CtMono c57 := by
  intro fr args H H' out hH h
  unfold c57 at h ⊢
  split at h
  · split at h
    · rename_i e1
      rw [hH _ _ e1]
      split at h
      · rename_i e
        simp only [sliceOf_mono hH e]
        exact h
      · cases h
    · cases h
  · cases h

/-- What the map holds after some blocks. -/
def MapOk (film : Span) (sp : Nat → Span) (i : Nat) (m : List (Lg × Fd)) : Prop := (m.map (·.1)).Nodup ∧ ∀ k, lookA m k = Gk (listS film sp i) k
theorem mapOk_perm {film : Span} {sp : Nat → Span} {i : Nat} {m : List (Lg × Fd)} (h : MapOk film sp i m) : m.Perm (group (listS film sp i)) :=
  perm_of_look h.1 (group_keys _) fun k => by rw [h.2, group_look]
theorem group_fst {S : List (Lg × Fd)} (P : Lg → Prop) (h : ∀ p ∈ S, P p.1) : ∀ p ∈ group S, P p.1 := by
  intro p hp
  have h1 := lookA_of_mem (k := p.1) (v := p.2) (group_keys S) hp
  rw [group_look] at h1
  by_cases hn : (S.filter (fun q => decide (q.1 = p.1))) = []
  · rw [Gk, hn] at h1; cases h1
  · obtain ⟨q, hq⟩ := List.exists_mem_of_ne_nil _ hn
    have := List.mem_filter.1 hq
    have e : q.1 = p.1 := by simpa using this.2
    rw [← e]; exact h q this.1
theorem listS_keys {film : Span} {sp : Nat → Span} {n : Nat} (hf : (0 ≤ film.1 ∧ film.1 ≤ 1000) ∧ (0 ≤ film.2 ∧ film.2 ≤ 1000)) (hb : ∀ i, i < n → (0 ≤ (sp i).1 ∧ (sp i).1 ≤ 1000) ∧ (0 ≤ (sp i).2 ∧ (sp i).2 ≤ 1000)) :
    ∀ i, i ≤ n → ∀ p ∈ listS film sp i, 0 ≤ p.1.lo ∧ p.1.lo ≤ i * 2000 ∧ 0 ≤ p.1.hi ∧ p.1.hi ≤ i * 2000 ∧ 0 ≤ p.1.many ∧ p.1.many ≤ i
  | 0, _, p, hp => by simp [listS] at hp; subst hp; simp [zeroL]
  | i + 1, hi, p, hp => by
    simp only [listS, List.mem_flatMap] at hp
    obtain ⟨q, hq, hp⟩ := hp
    have h1 := listS_keys hf hb i (by omega) q hq
    have h2 := hb i (by omega)
    simp only [stepE, List.mem_cons, List.not_mem_nil, or_false] at hp
    rcases hp with rfl | rfl
    · omega
    · simp only [withL]
      split <;> omega
theorem mapOk_mem {film : Span} {sp : Nat → Span} {n i : Nat} {m : List (Lg × Fd)} (h : MapOk film sp i m) (hi : i ≤ n) (hf : (0 ≤ film.1 ∧ film.1 ≤ 1000) ∧ (0 ≤ film.2 ∧ film.2 ≤ 1000)) (hb : ∀ i, i < n → (0 ≤ (sp i).1 ∧ (sp i).1 ≤ 1000) ∧ (0 ≤ (sp i).2 ∧ (sp i).2 ≤ 1000)) :
    sumM m = 2 ^ i ∧ ∀ p ∈ m, (p.2.least < 2 ^ i ∧ p.2.each < 2 ^ i ∧ p.2.some < 2 ^ i) ∧ 0 ≤ p.1.lo ∧ p.1.lo ≤ i * 2000 ∧ 0 ≤ p.1.hi ∧ p.1.hi ≤ i * 2000 ∧ 0 ≤ p.1.many ∧ p.1.many ≤ i := by
  have hp := mapOk_perm h
  obtain ⟨a1, a2, a3⟩ := listS_ok film sp i
  refine ⟨by rw [sumM_perm hp, sumM_group, a2], fun p hm => ?_⟩
  have hm' := hp.mem_iff.1 hm
  refine ⟨group_all (fun f => f.least < 2 ^ i ∧ f.each < 2 ^ i ∧ f.some < 2 ^ i) (fun f x h1 h2 => ?_) (fun q hq => ⟨(a1 q hq).1, (a1 q hq).2.1, (a1 q hq).2.2.1⟩) p hm', group_fst (fun k => 0 ≤ k.lo ∧ k.lo ≤ i * 2000 ∧ 0 ≤ k.hi ∧ k.hi ≤ i * 2000 ∧ 0 ≤ k.many ∧ k.many ≤ i) (listS_keys hf hb i hi) p hm'⟩
  simp only [join_eq]
  refine ⟨?_, Nat.lt_of_le_of_lt Nat.and_le_left h1.2.1, Nat.or_lt_two_pow h1.2.2 h2.2.2⟩
  unfold minN; split
  · exact h2.1
  · exact h1.1
theorem sumM_step (film b : Span) (i : Nat) (S : List (Lg × Fd)) : sumM (S.flatMap (stepE film b i)) = 2 * sumM S := by
  induction S with
  | nil => rfl
  | cons p r ih =>
    simp only [List.flatMap_cons, sumM, List.map_append, List.sum_append, List.map_cons, List.sum_cons] at ih ⊢
    rw [ih]
    simp [stepE, withF]
    omega
/-- What the next map holds, after some entries. -/
theorem next_ok {film b : Span} {i : Nat} {m vis rest : List (Lg × Fd)} {M : List (Lg × Fd)} {r : List (Lg × Fd)} (hi : i < 8) (hp : m.Perm (vis ++ rest)) (hs : sumM m = 2 ^ i) (hm : ∀ p ∈ m, p.2.least < 2 ^ i ∧ p.2.each < 2 ^ i ∧ p.2.some < 2 ^ i) (hr : ∀ p ∈ r, ∃ q ∈ rest, p = q)
    (hM : group (vis.flatMap (stepE film b i) ++ r) = M) : ∀ p ∈ M, p.2.many ≤ 2 * 2 ^ i + sumM r ∧ p.2.least < 256 ∧ p.2.each < 256 ∧ p.2.some < 256 := by
  subst hM
  have h256 : (2 : Nat) ^ (i + 1) ≤ 2 ^ 8 := Nat.pow_le_pow_right (by decide) (by omega)
  have hp2 : 2 ^ i < 2 ^ (i + 1) := Nat.pow_lt_pow_right (by decide) (by omega)
  have hsv : sumM vis ≤ 2 ^ i := by
    have := sumM_perm hp
    rw [hs] at this
    simp only [sumM, List.map_append, List.sum_append] at this ⊢
    omega
  have e8 : (2 : Nat) ^ 8 = 256 := rfl
  intro p hmem
  refine ⟨?_, ?_⟩
  · have h1 := sumM_mem hmem
    rw [sumM_group] at h1
    have h2 := sumM_step film b i vis
    simp only [sumM, List.map_append, List.sum_append] at h1 h2 ⊢
    simp only [sumM] at hsv
    omega
  · refine group_all (fun f => f.least < 256 ∧ f.each < 256 ∧ f.some < 256) (fun f x h1 h2 => ?_) (fun q hq => ?_) p hmem
    · simp only [join_eq]
      refine ⟨?_, Nat.lt_of_le_of_lt Nat.and_le_left h1.2.1, Nat.or_lt_two_pow (n := 8) h1.2.2 h2.2.2⟩
      unfold minN; split
      · exact h2.1
      · exact h1.1
    · rcases List.mem_append.1 hq with hq | hq
      · simp only [List.mem_flatMap] at hq
        obtain ⟨u, hu, hq⟩ := hq
        have hb := hm u (hp.mem_iff.2 (List.mem_append_left _ hu))
        simp only [stepE, List.mem_cons, List.not_mem_nil, or_false] at hq
        rcases hq with rfl | rfl
        · omega
        · have o1 : ∀ x, x < 2 ^ i → x ||| 2 ^ i < 256 := fun x hx => by
            have := Nat.or_lt_two_pow (n := i + 1) (x := x) (y := 2 ^ i) (by omega) hp2
            omega
          exact ⟨o1 _ hb.1, o1 _ hb.2.1, o1 _ hb.2.2⟩
      · obtain ⟨q', hq', rfl⟩ := hr q hq
        have hb := hm q (hp.mem_iff.2 (List.mem_append_right _ hq'))
        omega
theorem putA_some {m : List (Lg × Fd)} {k : Lg} {o f : Fd} (h : lookA m k = some o) : putA m k f = updA m k (join o f) := by simp only [putA, h]
theorem putA_none {m : List (Lg × Fd)} {k : Lg} {f : Fd} (h : lookA m k = none) : putA m k f = updA m k f := by simp only [putA, h]
theorem next_look {film : Span} {sp : Nat → Span} {i : Nat} {m V : List (Lg × Fd)} (hv : V.Perm m) (hm : MapOk film sp i m) (k : Lg) : lookA (group (V.flatMap (stepE film (sp i) i))) k = Gk (listS film sp (i + 1)) k := by
  rw [group_look, listS, ← step_group film (sp i) i (listS film sp i) (fun p hp => ((listS_ok film sp i).1 p hp).1)]
  exact Gk_perm ((hv.trans (mapOk_perm hm)).flatMap_right _) k
theorem lookA_delA {m : List (Lg × Fd)} (hn : (m.map (·.1)).Nodup) (k k' : Lg) : lookA (delA m k) k' = if k' = k then none else lookA m k' := by
  induction m with
  | nil => simp [delA, lookA]
  | cons p r ih =>
    simp only [List.map_cons, List.nodup_cons] at hn
    simp only [delA]
    split
    · rename_i e; subst e
      split
      · rename_i e2; subst e2; exact lookA_none.2 hn.1
      · rename_i e2; simp only [lookA]; rw [if_neg (fun e => e2 e.symm)]
    · rename_i e
      simp only [lookA, ih hn.2]
      by_cases h : p.1 = k'
      · subst h; simp [e]
      · simp [h]
theorem Gk_filter (S : List (Lg × Fd)) (z k : Lg) : Gk (S.filter fun p => decide (p.1 ≠ z)) k = if k = z then none else Gk S k := by
  simp only [Gk, List.filter_filter]
  split
  · rename_i e; subst e
    have : S.filter (fun a => decide (a.1 = k) && decide (a.1 ≠ k)) = [] := by
      rw [List.filter_eq_nil_iff]; intro a _; simp
    rw [this]; rfl
  · rename_i e
    congr 2
    apply List.filter_congr
    intro a _
    by_cases h : a.1 = k
    · simp [h, e]
    · simp [h]
theorem del_perm {film : Span} {sp : Nat → Span} {n : Nat} {m : List (Lg × Fd)} (hm : MapOk film sp n m) : (encM encL encF (delA m zeroL)).Perm (encM encL encF (lenM film n sp)) := by
  refine List.Perm.map _ (perm_of_look ?_ (group_keys _) fun k => ?_)
  · have : ∀ (m : List (Lg × Fd)), ((delA m zeroL).map (·.1)).Sublist (m.map (·.1)) := by
      intro m
      induction m with
      | nil => exact .slnil
      | cons p r ih =>
        simp only [delA]
        split
        · exact List.sublist_cons_self _ _
        · exact ih.cons_cons _
    exact (this m).nodup hm.1
  · rw [lookA_delA hm.1, hm.2, lenM, group_look, Gk_filter]
theorem b71 : Body P 66 := body_of Tryd.func66 (c := code Tryd.f66) rfl (by decide)
theorem k57 : COk P 58 c57 := by
  have g := g63 (g72 (g66 good0))
  refine cok (C := tabC _) g.ok Tryd.func58 (c := code Tryd.f58) rfl fun fr args H out h hp => ?_
  unfold c57 at h
  split at h
  · rename_i sid
    split at h
    · rename_i id lo hi e1
      split at h
      · rename_i n get e
        cases h
        obtain ⟨hs, hok⟩ : Spans n get ∧ okSet (spanL n get) lo hi := hp
        have hh := setHand e1 e hs
        refine ⟨setP sid id n lo hi (spanAt get), [.sp 0 0], setH n lo hi (spanAt get), 2, [2], rfl, rfl, Nat.le_of_ble_eq_true rfl, hh, rfl, rfl, fun G hG => ?_⟩
        have hb : ∀ i, i < n → okP (spanAt get i).1 ∧ okP (spanAt get i).2 := fun i hi => hok.2.2.2 _ (List.mem_map.2 ⟨i, List.mem_range.2 hi, rfl⟩)
        have hn : n ≤ 8 := by have := hok.1; simpa [spanL] using this
        have hlo := hok.2.1
        have hhi := hok.2.2.1
        clear hok hh hs e e1
        generalize spanAt get = sp at hb ⊢
        unfold okP at hb hlo hhi
        refine fb_makeMap (g.ok _ _ _) cont_std rfl rfl rfl rfl rfl ?_
        refine fb_update encL encF [] zeroL ⟨1, 0, 0, 0⟩ [(zeroL, ⟨1, 0, 0, 0⟩)] rfl 2 (g.ok _ _ _) cont_std rfl (.inr rfl) rfl rfl rfl rfl encL_key encF_cl rfl rfl rfl rfl ?_
        intro _
        refine loop_okR (g.ok _ _ _) 2 (fun x : {p : Nat × List (Lg × Fd) // p.1 ≤ n ∧ MapOk (lo, hi) sp p.1 p.2} => ⟨[(0, ⟨[], .sp 0 0⟩), (3, ⟨[], .sm 2⟩), (4, ⟨[], .fn (.func 66) [] []⟩), (17, ⟨[], .sl 1⟩), (18, ⟨[], .si .i64 n⟩), (19, ⟨[], .si .i64 x.1.1⟩)], [],
          (2, .mp (encM encL encF x.1.2)) :: setH n lo hi sp, 3, []⟩) (fun x => n - x.1.1) hG ⟨(0, [(zeroL, ⟨1, 0, 0, 0⟩)]), Nat.zero_le _, ⟨by simp, fun k => by rw [listS, Gk_one]; rfl⟩⟩ (fun j => j) ?_ ?_
        · refine ⟨?_, ?_, rfl, rfl, rfl, rfl, trivial⟩
          · repeat' (first | exact trivial | exact rfl | refine And.intro ?_ ?_)
          · exact ⟨⟨List.Perm.refl _, rfl⟩, ⟨⟨rfl, ⟨rfl, ⟨rfl, rfl⟩, ⟨rfl, rfl⟩, trivial⟩, rfl⟩, rfl⟩, ⟨⟨rfl, rfl, fun i hi => ⟨rfl, rfl⟩⟩, rfl⟩, trivial⟩
        · rintro ⟨⟨i, m⟩, hin, hm⟩
          refine Br.mk (fun h => ?_) (fun h => ?_)
          · have h : (i : Int) < (n : Int) := of_decide_eq_true h
            refine Chk.mk (show (0 : Int) ≤ (i : Int) ∧ (i : Int) < (n : Int) from ⟨by omega, h⟩) ?_
            refine fb_makeMap (g.ok _ _ _) cont_std rfl rfl rfl rfl rfl ?_
            refine fb_range encL encF m 2 (g.ok _ _ _) cont_std rfl rfl rfl rfl rfl rfl rfl encL_key encF_cl rfl rfl ?_
            intro hnd ts clock hts
            refine loop_ok (g.ok _ _ _) (fun x : {p : List ((Lg × Fd) × Nat) × List ((Lg × Fd) × Nat) // ts.Perm (p.1 ++ p.2)} => ⟨[(0, ⟨[], .sp 0 0⟩), (3, ⟨[], .sm 2⟩), (4, ⟨[], .fn (.func 66) [] []⟩), (5, ⟨[], .si .i64 i⟩), (6, ⟨[], .sp 3 0⟩), (7, ⟨[], .sm 4⟩), (17, ⟨[], .sl 1⟩), (18, ⟨[], .si .i64 n⟩), (19, ⟨[], .si .i64 i⟩), (26, ⟨[], .sp 5 0⟩)], [],
              (5, .it 2 clock (x.1.1.map (·.2)) clock) :: (2, .map (encS encL encF ts) clock) :: (4, .mp (encM encL encF (group ((x.1.1.map (·.1)).flatMap (stepE (lo, hi) (sp i) i))))) :: (3, .cells 24 (spanC (sp i))) :: setH n lo hi sp, 6, []⟩)
              (fun x => x.1.2.length) (fun _ j hj => hG j (by have : 6 ≤ j := hj; omega)) ⟨([], ts), by simp⟩ ?_ ?_
            · refine ⟨?_, ?_, rfl, rfl, rfl⟩
              · repeat' (first | exact trivial | exact rfl | refine And.intro ?_ ?_)
              · refine ⟨⟨rfl, ?_, rfl⟩, ⟨rfl, trivial, rfl⟩, ⟨rfl, trivial, rfl⟩, ⟨⟨rfl, ⟨rfl, rfl⟩, ⟨rfl, rfl⟩, trivial⟩, rfl, rfl⟩, ⟨⟨rfl, rfl, ⟨rfl, rfl⟩, ⟨rfl, rfl⟩, trivial⟩, rfl, rfl⟩, ⟨rfl, fun i hi => rfl, rfl⟩, trivial⟩
                show (2 : Nat) < 6
                decide
            · rintro ⟨⟨vis, rest⟩, hp⟩
              refine fb_next encL encF 2 5 clock ts vis rest (g.ok _ _ _) cont_std rfl rfl rfl rfl rfl encL_key encF_cl rfl rfl rfl hp ⟨fun hr => ?_, ?_⟩
              · subst hr
                have hmb := mapOk_mem hm hin ⟨hlo, hhi⟩ (fun i hi => ⟨(hb i hi).1, (hb i hi).2⟩)
                have hpm : (vis.map (·.1)).Perm m := by
                  have := hts.symm.trans (hp.map _)
                  simpa using this.symm
                refine Br.mk (fun h => by cases h) (fun _ => ?_)
                refine Chk.mk (show (-9223372036854775808 : Int) ≤ (i : Int) + 1 ∧ (i : Int) + 1 ≤ 9223372036854775807 by omega) ⟨⟨(i + 1, group ((vis.map (·.1)).flatMap (stepE (lo, hi) (sp i) i))), (by show i + 1 ≤ n; omega), group_keys _, fun k => next_look hpm hm k⟩, (fun j => match j with | 2 => 4 | k => k), ?_, ?_⟩
                · refine ⟨?_, ?_, rfl, rfl, rfl, rfl, trivial⟩
                  · repeat' (first | exact trivial | exact rfl | refine And.intro ?_ ?_)
                  · exact ⟨⟨List.Perm.refl _, rfl⟩, ⟨⟨rfl, ⟨rfl, ⟨rfl, rfl⟩, ⟨rfl, rfl⟩, trivial⟩, rfl⟩, rfl⟩, ⟨⟨rfl, rfl, fun i hi => ⟨rfl, rfl⟩⟩, rfl⟩, trivial⟩
                · show n - (i + 1) < n - i
                  omega
              · rintro ⟨⟨⟨ka, kb, kc⟩, ⟨fm, fl, fe, fs⟩⟩, b⟩ rest' hrest
                refine Br.mk (fun _ => ?_) (fun h => by cases h)
                refine fb_entry encL encF 2 5 clock ts vis ⟨⟨⟨ka, kb, kc⟩, ⟨fm, fl, fe, fs⟩⟩, b⟩ (g.ok _ _ _) cont_std rfl rfl rfl rfl rfl encL_key encF_cl rfl rfl rfl ?_ ?_
                · refine hp.mem_iff.2 (List.mem_append_right _ (hrest.mem_iff.2 List.mem_cons_self))
                · have hmb := mapOk_mem hm hin ⟨hlo, hhi⟩ (fun i hi => ⟨(hb i hi).1, (hb i hi).2⟩)
                  have hpm : m.Perm (vis.map (·.1) ++ rest.map (·.1)) := by rw [← List.map_append]; exact hts.symm.trans (hp.map _)
                  have hpr : (rest.map (·.1)).Perm ((⟨ka, kb, kc⟩, ⟨fm, fl, fe, fs⟩) :: rest'.map (·.1)) := hrest.map _
                  have hi8 : i < 8 := by omega
                  have hin1 : ((⟨ka, kb, kc⟩, ⟨fm, fl, fe, fs⟩) : Lg × Fd) ∈ rest.map (·.1) := hpr.mem_iff.2 List.mem_cons_self
                  have hin2 : ((⟨ka, kb, kc⟩, ⟨fm, fl, fe, fs⟩) : Lg × Fd) ∈ m := hpm.mem_iff.2 (List.mem_append_right _ hin1)
                  have hkf := hmb.2 _ hin2
                  have hfm := sumM_mem hin2
                  rw [hmb.1] at hfm
                  simp only at hkf hfm
                  have hpw : 2 ^ i ≤ 128 := (show 2 ^ i ≤ 2 ^ 7 from Nat.pow_le_pow_right (by decide) (by omega))
                  have hM1 := next_ok (film := (lo, hi)) (b := sp i) (r := []) hi8 hpm hmb.1 (fun p hp => (hmb.2 p hp).1) (fun p hp => by cases hp) rfl
                  have hM2 := next_ok (film := (lo, hi)) (b := sp i) (r := [(⟨ka, kb, kc⟩, ⟨fm, fl, fe, fs⟩)]) hi8 hpm hmb.1 (fun p hp => (hmb.2 p hp).1) (fun p hp => ⟨_, hin1, by simpa using hp⟩) rfl
                  rw [group_snoc] at hM2
                  rw [List.append_nil] at hM1
                  simp only [sumM, List.map_nil, List.sum_nil, List.map_cons, List.sum_cons] at hM1 hM2
                  generalize hM : group ((vis.map (·.1)).flatMap (stepE (lo, hi) (sp i) i)) = M at hM1 hM2 ⊢
                  refine fb_call (g.ok _ _ _) cont_std rfl rfl rfl rfl ?_
                  refine ⟨b71, callS_to g.ok Tryd.func66 (c := code Tryd.f66) rfl (Nat.le_of_ble_eq_true rfl) (.tup []) ((4, .mp (encM encL encF (putA M ⟨ka, kb, kc⟩ ⟨fm, fl, fe, fs⟩))) :: (7, .cells 65 (encFL ⟨fm, fl, fe, fs⟩)) :: (6, .cells 75 [.si .i64 ka, .si .i64 kb, .si .i64 kc]) :: (5, .it 2 clock (List.map (fun x : (Lg × Fd) × Nat => x.2) (vis ++ [((⟨ka, kb, kc⟩, ⟨fm, fl, fe, fs⟩), b)])) clock) :: (2, .map (encS encL encF ts) clock) :: (3, .cells 24 (spanC (sp i))) :: setH n lo hi sp) 8 (fun G1 hG1 => ?_) ?_⟩
                  · refine fb_lookup encL encF M ⟨ka, kb, kc⟩ 4 (g.ok _ _ _) cont_std rfl rfl rfl rfl rfl rfl rfl rfl rfl encL_key encF_cl rfl rfl rfl ?_
                    intro hMn
                    refine ⟨?_, fun ho => ?_⟩
                    · rintro ⟨om, ol, oe, os⟩ ho
                      have hbo := hM1 _ (lookA_mem ho)
                      refine Br.mk (fun _ => ?_) (fun h => by cases h)
                      refine Chk.mk ⟨?_, by decide, ?_⟩ ?_
                      · intro q hq
                        rcases (show q = 0 ∨ q = 1 by omega) with rfl | rfl <;> rfl
                      · intro q hq
                        rcases (show q = 0 ∨ q = 1 by omega) with rfl | rfl
                        · show om ≤ 1000000 ∧ ol < 256 ∧ oe < 256 ∧ os < 256
                          simp only at hbo; omega
                        · show fm ≤ 1000000 ∧ fl < 256 ∧ fe < 256 ∧ fs < 256
                          omega
                      refine fb_update encL encF M ⟨ka, kb, kc⟩ (join ⟨om, ol, oe, os⟩ ⟨fm, fl, fe, fs⟩) (putA M ⟨ka, kb, kc⟩ ⟨fm, fl, fe, fs⟩) (putA_some ho) 4 (g.ok _ _ _) cont_std rfl (.inl rfl) rfl rfl rfl rfl encL_key encF_cl rfl rfl rfl rfl ?_
                      intro _
                      exact ⟨fun j => j, ⟨⟨⟨List.Perm.refl _, rfl⟩, ⟨⟨rfl, ⟨⟨rfl, rfl⟩, ⟨rfl, rfl⟩, ⟨rfl, rfl⟩, ⟨rfl, rfl⟩, trivial⟩, rfl⟩, rfl⟩, ⟨⟨rfl, ⟨⟨rfl, rfl⟩, ⟨rfl, rfl⟩, ⟨rfl, rfl⟩, trivial⟩, rfl⟩, rfl⟩, ⟨⟨rfl, rfl, rfl, rfl, rfl⟩, rfl⟩, ⟨⟨rfl, rfl⟩, rfl⟩, ⟨⟨rfl, ⟨⟨rfl, rfl⟩, ⟨rfl, rfl⟩, trivial⟩, rfl⟩, rfl⟩, ⟨⟨rfl, ⟨rfl, ⟨rfl, rfl⟩, ⟨rfl, rfl⟩, trivial⟩, rfl⟩, rfl⟩, ⟨⟨rfl, rfl, fun i hi => ⟨rfl, rfl⟩⟩, rfl⟩, trivial⟩, trivial, rfl, rfl, rfl, rfl⟩⟩
                    · refine Br.mk (fun h => by cases h) (fun _ => ?_)
                      refine fb_update encL encF M ⟨ka, kb, kc⟩ ⟨fm, fl, fe, fs⟩ (putA M ⟨ka, kb, kc⟩ ⟨fm, fl, fe, fs⟩) (putA_none ho) 4 (g.ok _ _ _) cont_std rfl (.inl rfl) rfl rfl rfl rfl encL_key encF_cl rfl rfl rfl rfl ?_
                      intro _
                      exact ⟨fun j => j, ⟨⟨⟨List.Perm.refl _, rfl⟩, ⟨⟨rfl, ⟨⟨rfl, rfl⟩, ⟨rfl, rfl⟩, ⟨rfl, rfl⟩, ⟨rfl, rfl⟩, trivial⟩, rfl⟩, rfl⟩, ⟨⟨rfl, ⟨⟨rfl, rfl⟩, ⟨rfl, rfl⟩, ⟨rfl, rfl⟩, trivial⟩, rfl⟩, rfl⟩, ⟨⟨rfl, rfl, rfl, rfl, rfl⟩, rfl⟩, ⟨⟨rfl, rfl⟩, rfl⟩, ⟨⟨rfl, ⟨⟨rfl, rfl⟩, ⟨rfl, rfl⟩, trivial⟩, rfl⟩, rfl⟩, ⟨⟨rfl, ⟨rfl, ⟨rfl, rfl⟩, ⟨rfl, rfl⟩, trivial⟩, rfl⟩, rfl⟩, ⟨⟨rfl, rfl, fun i hi => ⟨rfl, rfl⟩⟩, rfl⟩, trivial⟩, trivial, rfl, rfl, rfl, rfl⟩⟩
                  have hsp := hb i (by omega)
                  have hor : ∀ x, x < 2 ^ i → x ||| 2 ^ i < 256 := fun x hx => by
                    have h1 : 2 ^ i < 2 ^ (i + 1) := Nat.pow_lt_pow_right (by decide) (by omega)
                    have h2 : (2 : Nat) ^ (i + 1) ≤ 2 ^ 8 := Nat.pow_le_pow_right (by decide) (by omega)
                    have := Nat.or_lt_two_pow (n := i + 1) (x := x) (y := 2 ^ i) (by omega) h1
                    omega
                  refine drawn_ok (g.ok _ _ _) fol [0,0,0,0,0,16,48,112,252,0,512,0,2048,0,14844,0,32768,0,260604,0,524288,0,4192764,8388604,16777215] [] 24 (by kernel_rfl) ?_
                  refine Chk.mk (show okB ka ∧ okB kb ∧ okB kc ∧ okB (sp i).1 ∧ okB (sp i).2 ∧ okB lo ∧ okB hi from ?_) ?_
                  · unfold okB; omega
                  refine Chk.mk (show (0 : Int) ≤ (fl : Int) ∧ (fl : Int) ≤ 1000000 ∧ (0 : Int) ≤ (i : Int) ∧ (i : Int) ≤ 40 by omega) ?_
                  refine Chk.mk (show (0 : Int) ≤ (fe : Int) ∧ (fe : Int) ≤ 1000000 ∧ (0 : Int) ≤ (i : Int) ∧ (i : Int) ≤ 40 by omega) ?_
                  refine Chk.mk (show (0 : Int) ≤ (fs : Int) ∧ (fs : Int) ≤ 1000000 ∧ (0 : Int) ≤ (i : Int) ∧ (i : Int) ≤ 40 by omega) ?_
                  refine fb_call (g.ok _ _ _) cont_std rfl rfl rfl rfl ?_
                  refine ⟨b71, callS_to g.ok Tryd.func66 (c := code Tryd.f66) rfl (Nat.le_of_ble_eq_true rfl) (.tup []) ((4, .mp (encM encL encF (putA (putA M ⟨ka, kb, kc⟩ ⟨fm, fl, fe, fs⟩) (withL (lo, hi) (sp i) ⟨ka, kb, kc⟩) (withF i ⟨fm, fl, fe, fs⟩)))) :: (7, .cells 65 (encFL ⟨fm, fl, fe, fs⟩)) :: (6, .cells 75 [.si .i64 ka, .si .i64 kb, .si .i64 kc]) :: (5, .it 2 clock (List.map (fun x : (Lg × Fd) × Nat => x.2) (vis ++ [((⟨ka, kb, kc⟩, ⟨fm, fl, fe, fs⟩), b)])) clock) :: (2, .map (encS encL encF ts) clock) :: (3, .cells 24 (spanC (sp i))) :: setH n lo hi sp) 104 (fun G1 hG1 => ?_) ?_⟩
                  · refine fb_lookup encL encF (putA M ⟨ka, kb, kc⟩ ⟨fm, fl, fe, fs⟩) (withL (lo, hi) (sp i) ⟨ka, kb, kc⟩) 4 (g.ok _ _ _) cont_std rfl rfl rfl rfl rfl rfl rfl rfl rfl encL_key encF_cl rfl rfl rfl ?_
                    intro hMn
                    refine ⟨?_, fun ho => ?_⟩
                    · rintro ⟨om, ol, oe, os⟩ ho
                      have hbo := hM2 _ (lookA_mem ho)
                      refine Br.mk (fun _ => ?_) (fun h => by cases h)
                      refine Chk.mk ⟨?_, by decide, ?_⟩ ?_
                      · intro q hq
                        rcases (show q = 0 ∨ q = 1 by omega) with rfl | rfl <;> rfl
                      · intro q hq
                        rcases (show q = 0 ∨ q = 1 by omega) with rfl | rfl
                        · show om ≤ 1000000 ∧ ol < 256 ∧ oe < 256 ∧ os < 256
                          simp only at hbo; omega
                        · show fm ≤ 1000000 ∧ (fl ||| 2 ^ i) < 256 ∧ (fe ||| 2 ^ i) < 256 ∧ (fs ||| 2 ^ i) < 256
                          exact ⟨by omega, hor _ hkf.1.1, hor _ hkf.1.2.1, hor _ hkf.1.2.2⟩
                      refine fb_update encL encF (putA M ⟨ka, kb, kc⟩ ⟨fm, fl, fe, fs⟩) (withL (lo, hi) (sp i) ⟨ka, kb, kc⟩) (join ⟨om, ol, oe, os⟩ (withF i ⟨fm, fl, fe, fs⟩)) (putA (putA M ⟨ka, kb, kc⟩ ⟨fm, fl, fe, fs⟩) (withL (lo, hi) (sp i) ⟨ka, kb, kc⟩) (withF i ⟨fm, fl, fe, fs⟩)) (putA_some ho) 4 (g.ok _ _ _) cont_std rfl (.inl rfl) rfl rfl rfl rfl encL_key encF_cl rfl rfl rfl rfl ?_
                      intro _
                      exact ⟨fun j => j, ⟨⟨⟨List.Perm.refl _, rfl⟩, ⟨⟨rfl, ⟨⟨rfl, rfl⟩, ⟨rfl, rfl⟩, ⟨rfl, rfl⟩, ⟨rfl, rfl⟩, trivial⟩, rfl⟩, rfl⟩, ⟨⟨rfl, ⟨⟨rfl, rfl⟩, ⟨rfl, rfl⟩, ⟨rfl, rfl⟩, trivial⟩, rfl⟩, rfl⟩, ⟨⟨rfl, rfl, rfl, rfl, rfl⟩, rfl⟩, ⟨⟨rfl, rfl⟩, rfl⟩, ⟨⟨rfl, ⟨⟨rfl, rfl⟩, ⟨rfl, rfl⟩, trivial⟩, rfl⟩, rfl⟩, ⟨⟨rfl, ⟨rfl, ⟨rfl, rfl⟩, ⟨rfl, rfl⟩, trivial⟩, rfl⟩, rfl⟩, ⟨⟨rfl, rfl, fun i hi => ⟨rfl, rfl⟩⟩, rfl⟩, trivial⟩, trivial, rfl, rfl, rfl, rfl⟩⟩
                    · refine Br.mk (fun h => by cases h) (fun _ => ?_)
                      refine fb_update encL encF (putA M ⟨ka, kb, kc⟩ ⟨fm, fl, fe, fs⟩) (withL (lo, hi) (sp i) ⟨ka, kb, kc⟩) (withF i ⟨fm, fl, fe, fs⟩) (putA (putA M ⟨ka, kb, kc⟩ ⟨fm, fl, fe, fs⟩) (withL (lo, hi) (sp i) ⟨ka, kb, kc⟩) (withF i ⟨fm, fl, fe, fs⟩)) (putA_none ho) 4 (g.ok _ _ _) cont_std rfl (.inl rfl) rfl rfl rfl rfl encL_key encF_cl rfl rfl rfl rfl ?_
                      intro _
                      exact ⟨fun j => j, ⟨⟨⟨List.Perm.refl _, rfl⟩, ⟨⟨rfl, ⟨⟨rfl, rfl⟩, ⟨rfl, rfl⟩, ⟨rfl, rfl⟩, ⟨rfl, rfl⟩, trivial⟩, rfl⟩, rfl⟩, ⟨⟨rfl, ⟨⟨rfl, rfl⟩, ⟨rfl, rfl⟩, ⟨rfl, rfl⟩, trivial⟩, rfl⟩, rfl⟩, ⟨⟨rfl, rfl, rfl, rfl, rfl⟩, rfl⟩, ⟨⟨rfl, rfl⟩, rfl⟩, ⟨⟨rfl, ⟨⟨rfl, rfl⟩, ⟨rfl, rfl⟩, trivial⟩, rfl⟩, rfl⟩, ⟨⟨rfl, ⟨rfl, ⟨rfl, rfl⟩, ⟨rfl, rfl⟩, trivial⟩, rfl⟩, rfl⟩, ⟨⟨rfl, rfl, fun i hi => ⟨rfl, rfl⟩⟩, rfl⟩, trivial⟩, trivial, rfl, rfl, rfl, rfl⟩⟩
                  refine ⟨⟨(vis ++ [((⟨ka, kb, kc⟩, ⟨fm, fl, fe, fs⟩), b)], rest'), ?_⟩, ?_, ?_⟩
                  · rw [List.append_assoc]
                    exact hp.trans (List.Perm.append_left _ hrest)
                  · refine ⟨?_, ?_, rfl, rfl, rfl⟩
                    · repeat' (first | exact trivial | exact rfl | refine And.intro ?_ ?_)
                    · refine ⟨⟨rfl, ?_, rfl⟩, ⟨rfl, trivial, rfl⟩, ⟨?_, trivial, rfl⟩, ⟨⟨rfl, ⟨rfl, rfl⟩, ⟨rfl, rfl⟩, trivial⟩, rfl, rfl⟩, ⟨⟨rfl, rfl, ⟨rfl, rfl⟩, ⟨rfl, rfl⟩, trivial⟩, rfl, rfl⟩, ⟨rfl, fun i hi => rfl, rfl⟩, trivial⟩
                      · show (2 : Nat) < 6
                        decide
                      · show HB.mp (encM encL encF (putA (putA M ⟨ka, kb, kc⟩ ⟨fm, fl, fe, fs⟩) (withL (lo, hi) (sp i) ⟨ka, kb, kc⟩) (withF i ⟨fm, fl, fe, fs⟩))) = HB.mp (encM encL encF (group ((List.map (fun x : (Lg × Fd) × Nat => x.1) (vis ++ [((⟨ka, kb, kc⟩, ⟨fm, fl, fe, fs⟩), b)])).flatMap (stepE (lo, hi) (sp i) i))))
                        rw [List.map_append, List.flatMap_append]
                        have e1 : ∀ (A : List (Lg × Fd)), group (A ++ (stepE (lo, hi) (sp i) i ((⟨ka, kb, kc⟩, ⟨fm, fl, fe, fs⟩) : Lg × Fd))) = putA (putA (group A) ⟨ka, kb, kc⟩ ⟨fm, fl, fe, fs⟩) (withL (lo, hi) (sp i) ⟨ka, kb, kc⟩) (withF i ⟨fm, fl, fe, fs⟩) := fun A => by
                          rw [show A ++ (stepE (lo, hi) (sp i) i ((⟨ka, kb, kc⟩, ⟨fm, fl, fe, fs⟩) : Lg × Fd)) = (A ++ [(⟨ka, kb, kc⟩, ⟨fm, fl, fe, fs⟩)]) ++ [(withL (lo, hi) (sp i) ⟨ka, kb, kc⟩, withF i ⟨fm, fl, fe, fs⟩)] by simp [stepE]]
                          rw [group_snoc, group_snoc]
                        have e2 := e1 ((vis.map (·.1)).flatMap (stepE (lo, hi) (sp i) i))
                        rw [hM] at e2
                        rw [← e2]
                        simp
                  · show rest'.length < rest.length
                    rw [hrest.length_eq]; simp
          · have h : ¬ (i : Int) < (n : Int) := of_decide_eq_false h
            have hin' : i = n := by omega
            subst hin'
            refine fb_delete encL encF m zeroL 2 (g.ok _ _ _) cont_std rfl rfl rfl rfl rfl rfl rfl rfl rfl encL_key encF_cl rfl rfl rfl ?_
            intro _
            exact ⟨.inl rfl, ⟨rfl, rfl, ⟨rfl, del_perm hm, trivial⟩, ⟨⟨rfl, rfl, ⟨rfl, rfl⟩, ⟨rfl, rfl⟩, trivial⟩, trivial, trivial⟩, rfl, rfl⟩⟩
      · cases h
    · cases h
  · cases h
theorem g57 {l : List (Nat × Ct)} (g : Good P T l) : Good P T ((58, c57) :: l) := g.add k57 c57_mono (body_of Tryd.func58 (c := code Tryd.f58) rfl (by decide))

end Go.X.S
end

section
set_option linter.unusedVariables false
set_option linter.unusedSimpArgs false
set_option linter.unusedSectionVars false
/- Stack: all of which something is so. -/
set_option linter.unusedVariables false
set_option linter.unusedSimpArgs false
set_option linter.unusedSectionVars false
set_option maxRecDepth 10000
set_option maxHeartbeats 2000000
namespace Go.X.S
open Go Go.Proofs Go.X

def isP (t : Nat) (w : Span) (k : Lg) : Bool := if t = 73 then meetsB w (k.lo, k.hi, k.many) else insideB w (k.lo, k.hi, k.many)
def allL (film : Span) (n : Nat) (sp : Nat → Span) (p : Lg → Bool) : List Fd := ((lenM film n sp).filter fun e => p e.1).map (·.2)
def zeroF : Fd := ⟨0, 0, 0, 0⟩
def c50 : Ct := fun fr args H =>
  match args with
  | [.sp sid 0, .ifc t (.agg [.si .i64 a, .si .i64 b])] => (match H sid with
    | some (.cells 100 [.sl id, .si .i64 lo, .si .i64 hi]) => (match sliceOf 2 H id with
      | some (n, get) => some ⟨some (t = 72 ∧ Spans n get ∧ okSet (spanL n get) lo hi), none,
          .tup [encF ((J (allL (lo, hi) n (spanAt get) (isP t (a, b)))).getD zeroF), .sb (decide (0 < (allL (lo, hi) n (spanAt get) (isP t (a, b))).length))], []⟩
      | none => none)
    | _ => none)
  | _ => none
theorem c50_mono : CtMono c50 := by
  intro fr args H H' out hH h
  unfold c50 at h ⊢
  split at h
  · split at h
    · rename_i e1
      rw [hH _ _ e1]
      split at h
      · rename_i e
        simp only [sliceOf_mono hH e]
        exact h
      · cases h
    · cases h
  · cases h

/-- What is found of those that were gone through. -/
def selL (p : Lg → Bool) (vis : List ((Lg × Fd) × Nat)) : List Fd := ((vis.map (·.1)).filter fun e => p e.1).map (·.2)
theorem putA_len (m : List (Lg × Fd)) (k : Lg) (f : Fd) : (putA m k f).length ≤ m.length + 1 := by
  have upd : ∀ (m : List (Lg × Fd)) k v, (updA m k v).length ≤ m.length + 1 := by
    intro m k v
    induction m with
    | nil => simp [updA]
    | cons q r ih =>
      simp only [updA]
      split
      · simp
      · simp only [List.length_cons]; omega
  exact upd _ _ _
theorem group_len (S : List (Lg × Fd)) : (group S).length ≤ S.length := by
  have key : ∀ (S m : List (Lg × Fd)), (S.foldl (fun m p => putA m p.1 p.2) m).length ≤ m.length + S.length := by
    intro S
    induction S with
    | nil => intro m; exact Nat.le_refl _
    | cons p r ih =>
      intro m
      have := putA_len m p.1 p.2
      have h2 := ih (putA m p.1 p.2)
      simp only [List.foldl_cons, List.length_cons] at h2 ⊢
      omega
  have := key S []
  simp only [List.length_nil, Nat.zero_add] at this
  exact this
theorem pow_le8 {n : Nat} (h : n ≤ 8) : 2 ^ n ≤ 256 := Nat.le_trans (Nat.pow_le_pow_right (by decide) h) (by decide)
theorem lenM_len {film : Span} {n : Nat} {sp : Nat → Span} (h : n ≤ 8) : (lenM film n sp).length ≤ 256 :=
  Nat.le_trans (group_len _) (Nat.le_trans (List.length_filter_le _ _) ((listS_ok film sp n).2.2 ▸ pow_le8 h))
theorem lenM_okF {film : Span} {n : Nat} {sp : Nat → Span} (h : n ≤ 8) : ∀ p ∈ lenM film n sp, okF p.2 := by
  intro p hp
  have h1 := group_all (fun f => f.least < 256 ∧ f.each < 256 ∧ f.some < 256) (fun f x hf hx => by
    refine ⟨?_, Nat.lt_of_le_of_lt Nat.and_le_left hf.2.1, Nat.or_lt_two_pow (n := 8) hf.2.2 hx.2.2⟩
    simp only [join]
    split
    · exact hx.1
    · exact hf.1) (S := (listS film sp n).filter fun p => decide (p.1 ≠ zeroL)) (fun q hq => by
      have := (listS_ok film sp n).1 q (List.mem_filter.1 hq).1
      have h8 := pow_le8 h
      omega) p hp
  have h2 : p.2.many ≤ sumM (lenM film n sp) := sumM_mem hp
  rw [lenM, sumM_group] at h2
  have h3 : sumM ((listS film sp n).filter fun p => decide (p.1 ≠ zeroL)) ≤ sumM (listS film sp n) := by
    generalize listS film sp n = S
    induction S with
    | nil => exact Nat.le_refl _
    | cons q r ih =>
      rw [List.filter_cons]
      split <;> simp only [sumM, List.map_cons, List.sum_cons] at ih ⊢ <;> omega
  rw [(listS_ok film sp n).2.1] at h3
  have h8 := pow_le8 h
  exact ⟨by omega, h1⟩
theorem selL_len (p : Lg → Bool) (vis : List ((Lg × Fd) × Nat)) : (selL p vis).length ≤ vis.length := by
  simp only [selL, List.length_map]
  exact Nat.le_trans (List.length_filter_le _ _) (by simp)
theorem selL_mem {p : Lg → Bool} {vis : List ((Lg × Fd) × Nat)} {x : Fd} (h : x ∈ selL p vis) : ∃ q ∈ vis, x = q.1.2 := by
  simp only [selL, List.mem_map, List.mem_filter] at h
  obtain ⟨a, ⟨⟨q, hq, rfl⟩, _⟩, rfl⟩ := h
  exact ⟨q, hq, rfl⟩
theorem selL_perm {film : Span} {n : Nat} {sp : Nat → Span} {p : Lg → Bool} {ts vis : List ((Lg × Fd) × Nat)} (h : (ts.map fun x => x.1).Perm (lenM film n sp)) (hv : ts.Perm vis) : (selL p vis).Perm (allL film n sp p) := by
  refine List.Perm.map _ (List.Perm.filter _ ?_)
  exact ((hv.map _).symm.trans h)
theorem range_getD (l : List Fd) (z : Fd) : (List.range l.length).map (fun i => l.getD i z) = l := by
  apply List.ext_getElem
  · simp
  · intro i h1 h2
    simp [List.getElem_map, List.getElem_range, List.getD_eq_getElem?_getD, List.getElem?_eq_getElem h2]
theorem sel_join {film : Span} {n : Nat} {sp : Nat → Span} {p : Lg → Bool} {L : List Fd} (h : L.Perm (allL film n sp p)) : jn (foundAt (fun i => encFL (L.getD i zeroF))) L.length = (J (allL film n sp p)).getD zeroF := by
  rw [show foundAt (fun i => encFL (L.getD i zeroF)) = fun i => L.getD i zeroF from funext fun i => foundAt_enc _ i, jn_J, range_getD, J_perm h]
  rfl
theorem b65 : Body P 43 := body_of Tryd.func43 (c := code Tryd.f43) rfl (by decide)
theorem b73 : Body P 57 := body_of Tryd.func57 (c := code Tryd.f57) rfl (by decide)
theorem is_call {t fid : Nat} (ht : t = 72 ∧ fid = 93) : MethOk P t "blockworks/stack.is" fid ∧ Body P fid ∧ ∀ (a b ka kb kc : Int) (H : List (Nat × HB)) (nx : Nat) (Rv : SV → List (Nat × HB) → Nat → Prop) (Rp : List PanicEntry → List (Nat × HB) → Nat → Prop),
    Rv (.sb (isP t (a, b) ⟨ka, kb, kc⟩)) H (nx + 4) → CallS P fid [.agg [.si .i64 a, .si .i64 b], .agg [.si .i64 ka, .si .i64 kb, .si .i64 kc]] H nx Rv Rp := by
  obtain ⟨rfl, rfl⟩ := ht
  exact ⟨m74, b95, fun a b ka kb kc H nx Rv Rp h => callS_ct (k95 good0) (out := ⟨none, none, .sb (insideB (a, b) (ka, kb, kc)), []⟩) rfl trivial (fun _ => h) (fun ch h => by cases h)⟩

theorem k50 : COk P 24 c50 := by
  have g := g57 (g66 good0)
  refine cokM (C := tabC _) g.ok Tryd.func24 (c := code Tryd.f24) rfl fun fr args H out h hp => ?_
  unfold c50 at h
  split at h
  · rename_i sid t a b
    split at h
    · rename_i id lo hi e1
      split at h
      · rename_i n get e
        cases h
        obtain ⟨ht, hs, hok⟩ : t = 72 ∧ Spans n get ∧ okSet (spanL n get) lo hi := hp
        obtain ⟨fid, hfid⟩ : ∃ fid, t = 72 ∧ fid = 93 := ⟨_, ht, rfl⟩
        obtain ⟨hmeth, hbody, hcall⟩ := is_call hfid
        have hh := setHand e1 e hs
        refine ⟨setP sid id n lo hi (spanAt get), [.sp 0 0, .ifc t (.agg [.si .i64 a, .si .i64 b])], setH n lo hi (spanAt get), 2, [], rfl, rfl, Nat.le_of_ble_eq_true rfl, hh, rfl, rfl, fun G hG => ?_⟩
        have hspans : Spans n (fun i => spanC (spanAt get i)) := spans_sp _ _
        have hok' : okSet (spanL n (fun i => spanC (spanAt get i))) lo hi := hok
        generalize spanAt get = sp at hspans hok' ⊢
        refine fb_call (g.ok _ _ _) cont_std rfl rfl rfl rfl ?_
        refine ⟨b65, callS_exec g.ok Tryd.func43 (c := code Tryd.f43) rfl (Nat.le_of_ble_eq_true rfl) fun G1 hG1 => ?_⟩
        refine rangeFunc_ok (g.ok _ _ _) rfl rfl rfl b73 ?_
        intro fn
        refine callS_exec g.ok Tryd.func57 (c := code Tryd.f57) rfl (Nat.le_of_ble_eq_true rfl) fun G2 hG2 => ?_
        refine Chk.mk ⟨hspans, hok'⟩ ?_
        refine fb_range encL encF (lenM (lo, hi) n sp) 8 (g.ok _ _ _) cont_std rfl rfl rfl rfl rfl rfl rfl encL_key encF_cl rfl rfl ?_
        intro hnd ts clock hts
        refine nil_cell 3 103 65 4 (fun i => encFL zeroF) rfl ?_
        obtain ⟨p, hpd⟩ : ∃ p : Lg → Bool, isP t (a, b) = p := ⟨_, rfl⟩
        refine loop_okR (g.ok _ _ _) 8 (fun x : {p : List ((Lg × Fd) × Nat) × List ((Lg × Fd) × Nat) // ts.Perm (p.1 ++ p.2)} => ⟨[(0, ⟨[], .fy 7⟩), (1, ⟨[], .sp 4 0⟩), (2, ⟨[], .sp 5 0⟩), (8, ⟨[], .sp 12 0⟩)], [],
          (12, .it 8 clock (x.1.1.map (·.2)) clock) :: (8, .map (encS encL encF ts) clock) :: (3, .cells 103 [.sl 13]) :: (13, .vec 65 4 (selL p x.1.1).length (fun i => encFL ((selL p x.1.1).getD i zeroF))) ::
            (7, .loop [(6, .sp 3 0)] Tryd.f24.ntmps fn [12, 13] (rfA (code Tryd.f24)) (rfB (code Tryd.f24)) 6 .ready none) :: (6, .dfr) :: (5, .cells 102 [.ifc t (.agg [.si .i64 a, .si .i64 b])]) :: (4, .cells 67 [.sp 0 0]) :: (2, .cells 65 (encFL zeroF)) :: setH n lo hi sp, 14, []⟩)
          (fun x => x.1.2.length) hG2 ⟨([], ts), by simp⟩ (fun j => j) ?_ ?_
        · refine ⟨?_, ?_, rfl, rfl, rfl, rfl, trivial⟩
          · repeat' (first | exact trivial | exact rfl | refine And.intro ?_ ?_)
          · refine ⟨⟨⟨rfl, rfl, rfl, rfl, rfl⟩, rfl⟩, ⟨⟨rfl, rfl⟩, rfl⟩, ⟨⟨rfl, ⟨rfl, trivial⟩, rfl⟩, rfl⟩, ⟨⟨rfl, rfl, rfl, fun i hi => absurd hi (Nat.not_lt_zero _)⟩, rfl⟩, ⟨⟨rfl, rfl, rfl, rfl, rfl, rfl, rfl, rfl, rfl, ?_⟩, rfl⟩, ⟨trivial, rfl⟩, ⟨⟨rfl, ⟨rfl, trivial⟩, rfl⟩, rfl⟩, ⟨⟨rfl, ⟨⟨rfl, rfl⟩, trivial⟩, rfl⟩, rfl⟩, ⟨⟨rfl, ⟨⟨rfl, rfl⟩, ⟨rfl, rfl⟩, ⟨rfl, rfl⟩, ⟨rfl, rfl⟩, trivial⟩, rfl⟩, rfl⟩, ⟨⟨rfl, ⟨rfl, ⟨rfl, rfl⟩, ⟨rfl, rfl⟩, trivial⟩, rfl⟩, rfl⟩, ⟨⟨rfl, rfl, fun i hi => ⟨rfl, rfl⟩⟩, rfl⟩, trivial⟩
            intro t' v hv
            simp only [findV] at hv
            split at hv
            · rename_i e6
              have h6 : 6 = t' := by simpa using e6
              subst h6
              cases hv
              exact ⟨rfl, rfl⟩
            · cases hv
        · rintro ⟨⟨vis, rest⟩, hp⟩
          refine fb_next encL encF 8 12 clock ts vis rest (g.ok _ _ _) cont_std rfl rfl rfl rfl rfl encL_key encF_cl rfl rfl rfl hp ⟨fun hr => ?_, ?_⟩
          · replace hr : rest = [] := hr
            subst hr
            have hv : ts.Perm vis := by simpa using hp
            have hsl := selL_perm (p := p) hts hv
            have hl1 : (selL p vis).length ≤ 256 := Nat.le_trans (selL_len p vis) (by
              have := hts.length_eq
              rw [List.length_map, hv.length_eq] at this
              rw [this]
              exact lenM_len (by have := hok'.1; simpa [spanL] using this))
            refine Br.mk (fun h => by cases h) (fun _ => ?_)
            refine drawn_ok (g.ok _ _ _) fol [0,1,0,4,12,3,63] [(5,2)] 7 (by kernel_rfl) ?_
            refine Chk.mk ⟨founds_enc _ _, by show (selL p vis).length ≤ 1000; omega, fun i hi => ?_⟩ ?_
            · rw [foundAt_enc (fun i => (selL p vis).getD i zeroF)]
              have hi : i < (selL p vis).length := hi
              rw [List.getD_eq_getElem?_getD, List.getElem?_eq_getElem hi]
              obtain ⟨q, hq, e⟩ := selL_mem (List.getElem_mem hi)
              simp only [Option.getD_some]
              rw [e]
              have h8 : n ≤ 8 := by have := hok'.1; simpa [spanL] using this
              exact lenM_okF h8 _ (hts.mem_iff.1 (List.mem_map_of_mem (hv.mem_iff.2 hq)))
            have hj := sel_join hsl
            refine ⟨.inl rfl, ⟨?_, rfl, trivial, ⟨⟨rfl, rfl, ⟨rfl, rfl⟩, ⟨rfl, rfl⟩, trivial⟩, trivial, trivial⟩, rfl, rfl⟩⟩
            · show SVeq (.tup [encF (jn (foundAt (fun i => encFL ((selL p vis).getD i zeroF))) (selL p vis).length), .sb (decide ((0 : Int) < ((selL p vis).length : Int)))]) (.tup [encF ((J (allL (lo, hi) n sp (isP t (a, b)))).getD zeroF), .sb (decide (0 < (allL (lo, hi) n sp (isP t (a, b))).length))])
              rw [hpd, hj, hsl.length_eq]
              refine ⟨⟨⟨rfl, rfl⟩, ⟨rfl, rfl⟩, ⟨rfl, rfl⟩, ⟨rfl, rfl⟩, trivial⟩, ?_, trivial⟩
              refine decide_eq_decide.2 ?_
              omega
          · rintro ⟨⟨⟨ka, kb, kc⟩, ⟨fm, fl, fe, fs⟩⟩, b'⟩ rest' hrest
            refine Br.mk (fun _ => ?_) (fun h => by cases h)
            refine fb_entry encL encF 8 12 clock ts vis ⟨⟨⟨ka, kb, kc⟩, ⟨fm, fl, fe, fs⟩⟩, b'⟩ (g.ok _ _ _) cont_std rfl rfl rfl rfl rfl encL_key encF_cl rfl rfl rfl ?_ ?_
            · refine hp.mem_iff.2 (List.mem_append_right _ (hrest.mem_iff.2 List.mem_cons_self))
            · refine fb_invoke fid (g.ok _ _ _) cont_std rfl rfl rfl rfl rfl rfl rfl hmeth hbody ?_
              refine hcall a b ka kb kc _ _ _ _ ?_
              rw [hpd]
              have hsel : selL p (vis ++ [(((⟨ka, kb, kc⟩ : Lg), (⟨fm, fl, fe, fs⟩ : Fd)), b')]) = if p ⟨ka, kb, kc⟩ = true then selL p vis ++ [⟨fm, fl, fe, fs⟩] else selL p vis := by
                simp only [selL, List.map_append, List.filter_append, List.map_cons, List.map_nil, List.filter_cons, List.filter_nil]
                split <;> simp
              have hpm : ts.Perm ((vis ++ [(((⟨ka, kb, kc⟩ : Lg), (⟨fm, fl, fe, fs⟩ : Fd)), b')]) ++ rest') := by
                rw [List.append_assoc]
                exact hp.trans (List.Perm.append_left _ hrest)
              have hless : rest'.length < rest.length := by rw [hrest.length_eq]; simp
              refine Br.mk (fun h => ?_) (fun h => ?_)
              · have h : p ⟨ka, kb, kc⟩ = false := by simpa using h
                rw [h] at hsel
                refine ⟨⟨(vis ++ [(((⟨ka, kb, kc⟩ : Lg), (⟨fm, fl, fe, fs⟩ : Fd)), b')], rest'), hpm⟩, (fun j => j), ?_, hless⟩
                simp only [Bool.false_eq_true, if_false] at hsel
                refine ⟨?_, ?_, rfl, rfl, rfl, rfl, trivial⟩
                · repeat' (first | exact trivial | exact rfl | refine And.intro ?_ ?_)
                · refine ⟨⟨⟨rfl, rfl, rfl, rfl, rfl⟩, rfl⟩, ⟨⟨rfl, rfl⟩, rfl⟩, ⟨⟨rfl, ⟨rfl, trivial⟩, rfl⟩, rfl⟩, ⟨⟨rfl, rfl, ?_, ?_⟩, rfl⟩, ⟨⟨rfl, rfl, rfl, rfl, rfl, rfl, rfl, rfl, rfl, ?_⟩, rfl⟩, ⟨trivial, rfl⟩, ⟨⟨rfl, ⟨rfl, trivial⟩, rfl⟩, rfl⟩, ⟨⟨rfl, ⟨⟨rfl, rfl⟩, trivial⟩, rfl⟩, rfl⟩, ⟨⟨rfl, ⟨⟨rfl, rfl⟩, ⟨rfl, rfl⟩, ⟨rfl, rfl⟩, ⟨rfl, rfl⟩, trivial⟩, rfl⟩, rfl⟩, ⟨⟨rfl, ⟨rfl, ⟨rfl, rfl⟩, ⟨rfl, rfl⟩, trivial⟩, rfl⟩, rfl⟩, ⟨⟨rfl, rfl, fun i hi => ⟨rfl, rfl⟩⟩, rfl⟩, trivial⟩
                  · show (selL p vis).length = (selL p (vis ++ [(((⟨ka, kb, kc⟩ : Lg), (⟨fm, fl, fe, fs⟩ : Fd)), b')])).length
                    rw [hsel]
                  · intro i hi
                    show encFL ((selL p vis).getD i zeroF) = renL (fun j => j) (encFL ((selL p (vis ++ [(((⟨ka, kb, kc⟩ : Lg), (⟨fm, fl, fe, fs⟩ : Fd)), b')])).getD i zeroF)) ∧ _
                    rw [hsel]
                    exact ⟨rfl, rfl⟩
                  · intro t' v hv
                    simp only [findV] at hv
                    split at hv
                    · rename_i e6
                      have h6 : 6 = t' := by simpa using e6
                      subst h6
                      cases hv
                      exact ⟨rfl, rfl⟩
                    · cases hv
              · have h : p ⟨ka, kb, kc⟩ = true := by simpa using h
                rw [if_pos h] at hsel
                refine fb_yield 7 g.ok (g.ok _ _ _) cont_std rfl rfl rfl rfl rfl rfl rfl rfl rfl (by decide) ?_
                intro G3 r hG3
                refine fb_append (Te := 0) 13 21 (selL p vis).length 1 _ _ (fun i => encFL ((selL p vis ++ [(⟨fm, fl, fe, fs⟩ : Fd)]).getD i zeroF)) (g.ok _ _ _) cont_std rfl rfl rfl rfl rfl rfl rfl rfl rfl rfl rfl rfl (by decide) (by decide) rfl rfl rfl rfl ?_ ?_ ?_
                · have h1 := selL_len p vis
                  have h2 : vis.length ≤ ts.length := by rw [hp.length_eq]; simp
                  have h3 : ts.length ≤ 256 := by
                    have := hts.length_eq
                    rw [List.length_map] at this
                    rw [this]
                    exact lenM_len (by have := hok'.1; simpa [spanL] using this)
                  omega
                · intro i hi
                  show encFL _ = _
                  rw [List.getD_eq_getElem?_getD, List.getElem?_append]
                  split
                  · rw [List.getD_eq_getElem?_getD]
                  · rename_i h'
                    have : i - (selL p vis).length = 0 := by omega
                    rw [this]
                    rfl
                · refine Br.mk (fun h => by cases h) (fun _ => ?_)
                  refine ⟨⟨(vis ++ [(((⟨ka, kb, kc⟩ : Lg), (⟨fm, fl, fe, fs⟩ : Fd)), b')], rest'), hpm⟩, (fun j => if j = 13 then 22 else j), ?_, hless⟩
                  refine ⟨?_, ?_, rfl, rfl, rfl, rfl, trivial⟩
                  · repeat' (first | exact trivial | exact rfl | refine And.intro ?_ ?_)
                  · refine ⟨⟨⟨rfl, rfl, rfl, rfl, rfl⟩, rfl⟩, ⟨⟨rfl, rfl⟩, rfl⟩, ⟨⟨rfl, ⟨rfl, trivial⟩, rfl⟩, rfl⟩, ⟨⟨rfl, rfl, ?_, ?_⟩, rfl⟩, ⟨⟨rfl, rfl, rfl, rfl, rfl, rfl, rfl, rfl, rfl, ?_⟩, rfl⟩, ⟨trivial, rfl⟩, ⟨⟨rfl, ⟨rfl, trivial⟩, rfl⟩, rfl⟩, ⟨⟨rfl, ⟨⟨rfl, rfl⟩, trivial⟩, rfl⟩, rfl⟩, ⟨⟨rfl, ⟨⟨rfl, rfl⟩, ⟨rfl, rfl⟩, ⟨rfl, rfl⟩, ⟨rfl, rfl⟩, trivial⟩, rfl⟩, rfl⟩, ⟨⟨rfl, ⟨rfl, ⟨rfl, rfl⟩, ⟨rfl, rfl⟩, trivial⟩, rfl⟩, rfl⟩, ⟨⟨rfl, rfl, fun i hi => ⟨rfl, rfl⟩⟩, rfl⟩, trivial⟩
                    · show (selL p vis).length + 1 = (selL p (vis ++ [(((⟨ka, kb, kc⟩ : Lg), (⟨fm, fl, fe, fs⟩ : Fd)), b')])).length
                      rw [hsel, List.length_append]
                      rfl
                    · intro i hi
                      show encFL _ = renL _ (encFL ((selL p (vis ++ [(((⟨ka, kb, kc⟩ : Lg), (⟨fm, fl, fe, fs⟩ : Fd)), b')])).getD i zeroF)) ∧ _
                      rw [hsel]
                      exact ⟨rfl, rfl⟩
                    · intro t' v hv
                      simp only [findV] at hv
                      split at hv
                      · rename_i e6
                        have h6 : 6 = t' := by simpa using e6
                        subst h6
                        cases hv
                        exact ⟨rfl, rfl⟩
                      · cases hv
      · cases h
    · cases h
  · cases h
theorem g50 {l : List (Nat × Ct)} (g : Good P T l) : Good P T ((24, c50) :: l) := g.add k50 c50_mono (body_of Tryd.func24 (c := code Tryd.f24) rfl (by decide))
end Go.X.S
end

section
set_option linter.unusedVariables false
set_option linter.unusedSimpArgs false
set_option linter.unusedSectionVars false
/- Stack: what is found of all lengths is what is found of all stacks (plain law). -/
set_option linter.unusedVariables false
set_option linter.unusedSimpArgs false
set_option linter.unusedSectionVars false
namespace Go.X.S
open Go Go.Proofs Go.X

def one (x : Nat) : Fd := ⟨1, x, x, x⟩
def keyN (film : Span) (sp : Nat → Span) (n x : Nat) : Lg := ⟨wS (fun i => (sp i).1) film.1 x n, wS (fun i => (sp i).2) film.2 x n, (cntB x n : Int)⟩

theorem wS_bits {f : Nat → Int} {film : Int} {x y : Nat} : ∀ n, (∀ i, i < n → x.testBit i = y.testBit i) → wS f film x n = wS f film y n ∧ cntB x n = cntB y n
  | 0, _ => ⟨rfl, rfl⟩
  | n + 1, h => by
    obtain ⟨h1, h2⟩ := wS_bits (f := f) (film := film) n (fun i hi => h i (by omega))
    simp only [wS, cntB, h1, h2, h n (by omega), and_self]
theorem keyN_low {film : Span} {sp : Nat → Span} {n x : Nat} (h : x < 2 ^ n) : keyN film sp (n + 1) x = keyN film sp n x := by
  have hb : x.testBit n = false := Nat.testBit_lt_two_pow h
  simp only [keyN, wS, cntB, hb, if_false, Bool.false_eq_true, Nat.add_zero]
theorem keyN_high {film : Span} {sp : Nat → Span} {n x : Nat} (h : x < 2 ^ n) : keyN film sp (n + 1) (x ||| 2 ^ n) = withL film (sp n) (keyN film sp n x) := by
  have hb : (x ||| 2 ^ n).testBit n = true := by simp [Nat.testBit_or, Nat.testBit_two_pow_self]
  have hl : ∀ i, i < n → (x ||| 2 ^ n).testBit i = x.testBit i := fun i hi => by
    rw [Nat.testBit_or, Nat.testBit_two_pow_of_ne (by omega)]; simp
  have h1 := wS_bits (f := fun i => (sp i).1) (film := film.1) n hl
  have h2 := wS_bits (f := fun i => (sp i).2) (film := film.2) n hl
  simp only [keyN, wS, cntB, hb, if_true, h1.1, h1.2, h2.1, withL]
  have e : (0 < cntB x n) = (0 < (cntB x n : Int)) := by apply propext; omega
  simp only [e]
  congr 1
theorem range_double (n : Nat) : List.range (2 ^ (n + 1)) = List.range (2 ^ n) ++ (List.range (2 ^ n)).map (fun x => x ||| 2 ^ n) := by
  rw [show 2 ^ (n + 1) = 2 ^ n + 2 ^ n by rw [Nat.pow_succ]; omega, List.range_add]
  congr 1
  refine List.map_congr_left fun x hx => ?_
  rw [or_add (List.mem_range.1 hx)]; omega
theorem flat_perm {α β : Type} (f g : α → β) : ∀ l : List α, (l.flatMap fun p => [f p, g p]).Perm (l.map f ++ l.map g)
  | [] => List.Perm.refl _
  | a :: l => by
    have ih := flat_perm f g l
    simp only [List.flatMap_cons, List.map_cons, List.cons_append, List.nil_append]
    refine List.Perm.cons _ ?_
    exact (List.Perm.cons _ ih).trans List.perm_middle.symm
theorem listS_perm (film : Span) (sp : Nat → Span) : ∀ n, (listS film sp n).Perm ((List.range (2 ^ n)).map fun x => (keyN film sp n x, one x))
  | 0 => by
    refine .of_eq ?_
    simp [listS, keyN, wS, cntB, zeroL, one]
  | n + 1 => by
    have ih := listS_perm film sp n
    simp only [listS]
    refine (ih.flatMap_right _).trans ?_
    rw [range_double, List.map_append, List.map_map]
    refine (flat_perm (fun p : Lg × Fd => p) (fun p : Lg × Fd => (withL film (sp n) p.1, withF n p.2)) _).trans (.of_eq ?_)
    rw [List.map_map, List.map_map]
    congr 1
    · refine List.map_congr_left fun x hx => ?_
      simp only [Function.comp, keyN_low (List.mem_range.1 hx)]
    · refine List.map_congr_left fun x hx => ?_
      simp only [Function.comp, keyN_high (List.mem_range.1 hx)]
      rfl

theorem jo_jj1 (o : Option Fd) (x : Fd) : jo o x = jj o (some x) := by cases o <;> rfl
theorem J_upd (p : Lg → Bool) (k : Lg) (f : Fd) : ∀ m : List (Lg × Fd), J (((putA m k f).filter fun e => p e.1).map (·.2)) = if p k = true then jo (J ((m.filter fun e => p e.1).map (·.2))) f else J ((m.filter fun e => p e.1).map (·.2))
  | [] => by
    simp only [putA, lookA, updA, List.filter_cons, List.filter_nil]
    split <;> rfl
  | (k', v) :: m => by
    have ih := J_upd p k f m
    by_cases hk : k' = k
    · subst hk
      simp only [putA, lookA, updA, if_true, List.filter_cons]
      cases hp : p k' with
      | false => simp
      | true =>
        simp only [if_true, List.map_cons, J_cons, jo_jj1]
        rw [show (some (join v f)) = jj (some v) (some f) from rfl, jj_assoc, jj_comm (some f), jj_assoc]
    · have e : putA ((k', v) :: m) k f = (k', v) :: putA m k f := by
        simp only [putA, lookA, updA, if_neg hk]
      rw [e]
      simp only [List.filter_cons]
      cases hp : p k' with
      | false => simpa [hp] using ih
      | true =>
        simp only [if_true, List.map_cons, J_cons, ih]
        split
        · rw [jo_jj1, jo_jj1, jj_assoc]
        · rfl
theorem J_group (p : Lg → Bool) (S : List (Lg × Fd)) : J (((group S).filter fun e => p e.1).map (·.2)) = J ((S.filter fun e => p e.1).map (·.2)) := by
  have key : ∀ (S m : List (Lg × Fd)), J (((S.foldl (fun m p => putA m p.1 p.2) m).filter fun e => p e.1).map (·.2)) = jj (J ((m.filter fun e => p e.1).map (·.2))) (J ((S.filter fun e => p e.1).map (·.2))) := by
    intro S
    induction S with
    | nil => intro m; rfl
    | cons q r ih =>
      intro m
      simp only [List.foldl_cons]
      rw [ih, J_upd]
      simp only [List.filter_cons]
      split
      · simp only [List.map_cons, J_cons, jo_jj1, jj_assoc]
      · rfl
  have := key S []
  simp only [List.filter_nil, List.map_nil] at this
  rw [show J [] = none from rfl, jj_none] at this
  exact this

/-- The stacks of n blocks of which something is so. -/
def stacksW (n : Nat) (q : Nat → Bool) : List Nat := (List.range (2 ^ n)).filter fun x => decide (0 < x) && q x
def foundX (n : Nat) (q : Nat → Bool) : Option Fd := J ((stacksW n q).map one)
theorem keyN_zero {film : Span} {sp : Nat → Span} {n x : Nat} (h : x < 2 ^ n) : decide (keyN film sp n x ≠ zeroL) = decide (0 < x) := by
  rw [decide_eq_decide]
  rcases Nat.eq_zero_or_pos x with h0 | h0
  · subst h0
    have e : keyN film sp n 0 = zeroL := by
      have : ∀ (f : Nat → Int) (film : Int) n, wS f film 0 n = 0 ∧ cntB 0 n = 0 := by
        intro f film n
        induction n with
        | zero => exact ⟨rfl, rfl⟩
        | succ n ih => simp [wS, cntB, ih.1, ih.2]
      simp [keyN, zeroL, (this _ film.1 n).1, (this _ film.2 n).1, (this (fun i => (sp i).1) film.1 n).2]
    simp [e]
  · have := cntB_size n x h
    have h2 := sizeN_ge h0
    refine ⟨fun _ => h0, fun _ e => ?_⟩
    have e2 := congrArg Lg.many e
    simp only [keyN, zeroL] at e2
    omega
theorem allL_found (film : Span) (n : Nat) (sp : Nat → Span) (p : Lg → Bool) : J (allL film n sp p) = foundX n fun x => p (keyN film sp n x) := by
  unfold allL lenM
  rw [J_group]
  rw [List.filter_filter]
  have h := listS_perm film sp n
  rw [J_perm ((h.filter (fun e => p e.1 && decide (e.1 ≠ zeroL))).map (·.2))]
  unfold foundX stacksW
  rw [List.filter_map, List.map_map]
  congr 1
  have e : List.filter ((fun e : Lg × Fd => p e.1 && decide (e.1 ≠ zeroL)) ∘ fun x => (keyN film sp n x, one x)) (List.range (2 ^ n)) = List.filter (fun x => decide (0 < x) && p (keyN film sp n x)) (List.range (2 ^ n)) := by
    refine List.filter_congr fun x hx => ?_
    simp only [Function.comp]
    rw [keyN_zero (List.mem_range.1 hx), Bool.and_comm]
  rw [e]
  rfl
theorem allL_nil {film : Span} {n : Nat} {sp : Nat → Span} {p : Lg → Bool} : decide (0 < (allL film n sp p).length) = (foundX n fun x => p (keyN film sp n x)).isSome := by
  rw [← allL_found]
  cases h : allL film n sp p with
  | nil => rfl
  | cons x r =>
    cases hj : J (x :: r) with
    | none => exact absurd (J_none.1 hj) (by simp)
    | some f => simp
theorem keyN_ofW {film : Span} {sp : Nat → Span} {n x : Nat} : (⟨(ofW ((List.range n).map sp) film.1 film.2 x).1, (ofW ((List.range n).map sp) film.1 film.2 x).2.1, (ofW ((List.range n).map sp) film.1 film.2 x).2.2⟩ : Lg) = keyN film sp n x := by
  rw [ofW_map]; rfl
end Go.X.S
end

section
set_option linter.unusedVariables false
set_option linter.unusedSimpArgs false
set_option linter.unusedSectionVars false
/- Stack: Fewest, Count, Needed. -/
set_option linter.unusedVariables false
set_option linter.unusedSimpArgs false
set_option linter.unusedSectionVars false
set_option maxRecDepth 10000
set_option maxHeartbeats 1000000
namespace Go.X.S
open Go Go.Proofs Go.X

theorem J_all (P : Fd → Prop) (hP : ∀ f x, P f → P x → P (join f x)) {l : List Fd} (h : ∀ x ∈ l, P x) {f : Fd} (hj : J l = some f) : P f := by
  have key : ∀ (l : List Fd) (o : Option Fd), (∀ g, o = some g → P g) → (∀ x ∈ l, P x) → ∀ g, l.foldl jo o = some g → P g := by
    intro l
    induction l with
    | nil => intro o ho _ g hg; exact ho g hg
    | cons x r ih =>
      intro o ho hl g hg
      refine ih (jo o x) (fun g hg => ?_) (fun y hy => hl y (List.mem_cons_of_mem _ hy)) g hg
      have hx := hl x List.mem_cons_self
      cases o with
      | none => cases hg; exact hx
      | some o' => cases hg; exact hP _ _ (ho o' rfl) hx
  exact key l none (fun g hg => by cases hg) h f hj
theorem foundX_lt {n : Nat} {q : Nat → Bool} {f : Fd} (h : foundX n q = some f) : f.least < 2 ^ n ∧ f.each < 2 ^ n ∧ f.some < 2 ^ n := by
  refine J_all (fun f => f.least < 2 ^ n ∧ f.each < 2 ^ n ∧ f.some < 2 ^ n) (fun f x hf hx => ?_) (fun x hx => ?_) h
  · refine ⟨?_, Nat.lt_of_le_of_lt Nat.and_le_left hf.2.1, Nat.or_lt_two_pow hf.2.2 hx.2.2⟩
    simp only [join]
    split
    · exact hx.1
    · exact hf.1
  · obtain ⟨y, hy, rfl⟩ := List.mem_map.1 hx
    have := List.mem_range.1 (List.mem_filter.1 hy).1
    exact ⟨this, this, this⟩
def qIn (L : List Span) (lo hi : Int) (w : Span) (x : Nat) : Bool := insideB w ((ofL L lo hi x).1, (ofL L lo hi x).2, 0)
theorem foundX_congr {n : Nat} {q q' : Nat → Bool} (h : ∀ x, 0 < x → x < 2 ^ n → q x = q' x) : foundX n q = foundX n q' := by
  unfold foundX stacksW
  congr 2
  refine List.filter_congr fun x hx => ?_
  cases h0 : decide (0 < x) with
  | false => rfl
  | true => rw [h x (of_decide_eq_true h0) (List.mem_range.1 hx)]
theorem all_in {n : Nat} {sp : Nat → Span} {lo hi a b : Int} : (foundX n fun x => isP 72 (a, b) (keyN (lo, hi) sp n x)) = foundX n (qIn ((List.range n).map sp) lo hi (a, b)) := by
  refine foundX_congr fun x h0 hx => ?_
  have h := ofW_ofL (L := (List.range n).map sp) (lo := lo) (hi := hi) h0 (by simpa using hx)
  have hk := keyN_ofW (film := (lo, hi)) (sp := sp) (n := n) (x := x)
  rw [← hk, h]
  rfl
def fewW (L : List Span) (lo hi a b : Int) : Int × Int :=
  if errV L lo hi (isWantB a b) = 0 then (match foundX L.length (qIn L lo hi (a, b)) with | some f => ((f.least : Int), 0) | none => (0, 4)) else (0, errV L lo hi (isWantB a b))
def c21 : Ct := stCt fun L lo hi r => match r with
  | [.agg [.si .i64 a, .si .i64 b]] => some (some (L.length ≤ 40), .tup [.si .i64 (fewW L lo hi a b).1, .si .i64 (fewW L lo hi a b).2])
  | _ => none
theorem k21 {l : List (Nat × Ct)} (g0 : Good P T l) : COk P 9 c21 := by
  have g := g53 (g50 (g41 (g47 g0)))
  refine cokD (C := tabC _) g.ok answer_ok Tryd.func9 (c := code Tryd.f9) rfl fun fr args H out h hp => stWalkD h hp fun n sp lo hi r p v Rv hk hp hR => ?_
  split at hk
  · rename_i a b
    cases hk
    have hp : ((List.range n).map sp).length ≤ 40 := hp
    have hp' : n ≤ 40 := by simpa using hp
    refine ⟨Nat.le_of_ble_eq_true rfl, fun G hG => ?_⟩
    refine fb_defer (g.ok _ _ _) rfl cont_std rfl rfl rfl rfl ?_
    refine drawn_ok (g.ok _ _ _) fol [0,0,2,7,0,16,48,127,255,511,511,0,3071,8191] [(12, 48)] 14 (by kernel_rfl) ?_
    refine Chk.mk (spans_sp _ _) ?_
    generalize hE : errV ((List.range n).map sp) lo hi (isWantB a b) = E at hR
    have hall := all_in (n := n) (sp := sp) (lo := lo) (hi := hi) (a := a) (b := b)
    refine Br.mk (fun h => ?_) (fun h => ?_)
    · have h : (!decide (errV ((List.range n).map sp) lo hi (isWantB a b) = 0)) = true := h
      rw [hE] at h
      have h : ¬ E = 0 := by simpa using h
      have hw : fewW ((List.range n).map sp) lo hi a b = (0, E) := by rw [fewW, hE, if_neg h]
      exact hR _ _ ⟨⟨rfl, by rw [hw]⟩, ⟨rfl, by rw [hw]; exact hE⟩, trivial⟩ rfl
    · have h : (!decide (errV ((List.range n).map sp) lo hi (isWantB a b) = 0)) = false := h
      rw [hE] at h
      have h : E = 0 := by simpa using h
      obtain ⟨q1, q2⟩ := errV_zero (hE.trans h)
      refine Chk.mk ⟨rfl, spans_sp _ _, okSet_of q1⟩ ?_
      refine Br.mk (fun hb => ?_) (fun hb => ?_)
      · have hb : (!decide (0 < (allL (lo, hi) n sp (isP 72 (a, b))).length)) = true := hb
        rw [allL_nil, hall] at hb
        cases hf : foundX n (qIn ((List.range n).map sp) lo hi (a, b)) with
        | some f => rw [hf] at hb; cases hb
        | none =>
          have hw : fewW ((List.range n).map sp) lo hi a b = (0, 4) := by rw [fewW, hE, if_pos h, List.length_map, List.length_range, hf]
          exact hR _ _ ⟨⟨rfl, by rw [hw]⟩, ⟨rfl, by rw [hw]⟩, trivial⟩ rfl
      · have hb : (!decide (0 < (allL (lo, hi) n sp (isP 72 (a, b))).length)) = false := hb
        rw [allL_nil, hall] at hb
        cases hf : foundX n (qIn ((List.range n).map sp) lo hi (a, b)) with
        | none => rw [hf] at hb; cases hb
        | some f =>
          have hw : fewW ((List.range n).map sp) lo hi a b = ((f.least : Int), 0) := by rw [fewW, hE, if_pos h, List.length_map, List.length_range, hf]
          have hJ : J (allL (lo, hi) n sp (isP 72 (a, b))) = some f := (allL_found _ _ _ _).trans (hall.trans hf)
          have hlt := (foundX_lt hf).1
          have h256 := pow_le8 (n := n) (by have := (okSet_of q1).1; simpa using this)
          have hl : ((J (allL (lo, hi) n sp (isP 72 (a, b)))).getD zeroF).least = f.least := by rw [hJ]; rfl
          refine Chk.mk ?_ (hR _ _ ⟨⟨rfl, ?_⟩, ⟨rfl, by rw [hw]⟩, trivial⟩ rfl)
          · show InK .i64 ((((J (allL (lo, hi) n sp (isP 72 (a, b)))).getD zeroF).least : Nat) : Int)
            rw [hl]
            exact ⟨by omega, by omega⟩
          · show ((((J (allL (lo, hi) n sp (isP 72 (a, b)))).getD zeroF).least : Nat) : Int) = _
            rw [hl, hw]
  · cases hk
end Go.X.S
end

section
set_option linter.unusedVariables false
set_option linter.unusedSimpArgs false
set_option linter.unusedSectionVars false
/- Warm: what a pair shows. -/
set_option linter.unusedVariables false
set_option linter.unusedSimpArgs false
set_option maxRecDepth 10000
set_option maxHeartbeats 1000000
namespace Go.X.W
open Go Go.Proofs Go.X

/-! ### Numbers that are small -/
def smB (k x : Int) : Prop := -k ≤ x ∧ x ≤ k
theorem mul_sm {x y k m : Int} (hx : smB k x) (hy : smB m y) (hk : 0 ≤ k) (hm : 0 ≤ m) : smB (k * m) (x * y) := by
  unfold smB at *
  have h1 : x * y ≤ k * m ∧ -(k * m) ≤ x * y := by
    rcases Int.le_total 0 x with h0 | h0 <;> rcases Int.le_total 0 y with g0 | g0
    · have a1 := Int.mul_le_mul hx.2 hy.2 g0 hk
      have a2 := Int.mul_nonneg h0 g0
      have a3 := Int.mul_nonneg hk hm
      omega
    · have a1 := Int.mul_le_mul hx.2 (show -y ≤ m by omega) (by omega) hk
      have a2 := Int.mul_nonneg h0 (show 0 ≤ -y by omega)
      have a3 := Int.mul_nonneg hk hm
      rw [Int.mul_neg] at a1 a2
      omega
    · have a1 := Int.mul_le_mul (show -x ≤ k by omega) hy.2 g0 hk
      have a2 := Int.mul_nonneg (show 0 ≤ -x by omega) g0
      have a3 := Int.mul_nonneg hk hm
      rw [Int.neg_mul] at a1 a2
      omega
    · have a1 := Int.mul_le_mul (show -x ≤ k by omega) (show -y ≤ m by omega) (by omega) hk
      have a2 := Int.mul_nonneg (show 0 ≤ -x by omega) (show 0 ≤ -y by omega)
      have a3 := Int.mul_nonneg hk hm
      rw [Int.neg_mul_neg] at a1 a2
      omega
  omega

/-! ### product, of three -/
def prod3 (a b c : Int) : Nat → Int
  | 0 => 1
  | 1 => a
  | 2 => a * b
  | _ => a * b * c
def at3 (a b c : Int) : Nat → Int
  | 0 => a
  | 1 => b
  | _ => c
def c104 : Ct := fun _ args H => match args with
  | [.sl id] => (match sliceOf 1 H id with
    | some (3, get) => (match get 0, get 1, get 2 with
      | [.si .i64 a], [.si .i64 b], [.si .i64 c] => some ⟨some (smB 1000 a ∧ smB 1000 b ∧ smB 1000 c), none, .si .i64 (a * b * c), []⟩
      | _, _, _ => none)
    | _ => none)
  | _ => none
theorem c104_mono : CtMono c104 := by
  intro fr args H H' out hH h
  unfold c104 at h ⊢
  split at h
  · split at h
    · rename_i e
      simp only [sliceOf_mono hH e]
      exact h
    · cases h
  · cases h
theorem k104 {l : List (Nat × Ct)} (g : Good P T l) : COk P 63 c104 := by
  refine cok (C := tabC _) g.ok Tryd.func63 (c := code Tryd.f63) rfl fun fr args H out h hp => ?_
  unfold c104 at h
  split at h
  · rename_i id
    split at h
    · rename_i get e
      split at h
      · rename_i a b c e0 e1 e2
        cases h
        obtain ⟨ha, hb, hc⟩ : smB 1000 a ∧ smB 1000 b ∧ smB 1000 c := hp
        have hab := mul_sm ha hb (by decide) (by decide)
        have habc := mul_sm hab hc (by decide) (by decide)
        unfold smB at ha hb hc hab habc
        have hh : Hand H [(id, .ro 1 3 fun i => [.si .i64 (at3 a b c i)])] := hand_one e (fun i => rfl) (fun i hi => by
          rcases (show i = 0 ∨ i = 1 ∨ i = 2 by omega) with rfl | rfl | rfl
          · exact e0.symm
          · exact e1.symm
          · exact e2.symm)
        refine ⟨_, [.sl 0], [(0, .ro 1 3 fun i => [.si .i64 (at3 a b c i)])], 1, [], rfl, rfl, Nat.le_of_ble_eq_true rfl, hh, rfl, rfl, fun G hG => ?_⟩
        refine loop_ok (g.ok _ _ _) (fun x : {i : Nat // i ≤ 3} => ⟨[(0, ⟨[], .sl 0⟩), (3, ⟨[], .si .i64 (prod3 a b c x.1)⟩), (6, ⟨[], .sl 0⟩), (7, ⟨[], .si .i64 3⟩), (8, ⟨[], .si .i64 x.1⟩)], [],
          [(0, .ro 1 3 fun i => [.si .i64 (at3 a b c i)])], 1, []⟩) (fun x => 3 - x.1) (fun _ j hj => hG j hj) ⟨0, Nat.zero_le _⟩ ?_ ?_
        · refine ⟨?_, ?_, rfl, rfl, rfl⟩ <;> repeat' (first | exact trivial | exact rfl | (intro i hi; exact rfl) | refine And.intro ?_ ?_)
        · rintro ⟨i, hi⟩
          refine Br.mk (fun h => ?_) (fun h => ?_)
          · have h : (i : Int) < 3 := of_decide_eq_true h
            have key : ∀ (v w : Int), (i = 0 ∧ v = a ∨ i = 1 ∧ v = b ∨ i = 2 ∧ v = c) → prod3 a b c i * v = prod3 a b c (i + 1) ∧ InK .i64 (prod3 a b c i * v) := by
              rintro v w (⟨rfl, rfl⟩ | ⟨rfl, rfl⟩ | ⟨rfl, rfl⟩)
              · have : prod3 v b c 0 * v = v := Int.one_mul _
                exact ⟨this, by rw [this]; exact ⟨by omega, by omega⟩⟩
              · exact ⟨rfl, ⟨show _ ≤ a * v by omega, show a * v ≤ _ by omega⟩⟩
              · exact ⟨rfl, ⟨show _ ≤ a * b * v by omega, show a * b * v ≤ _ by omega⟩⟩
            refine Chk.mk (show (0 : Int) ≤ (i : Int) ∧ (i : Int) < ((3 : Nat) : Int) from ⟨by omega, by omega⟩) ?_
            obtain ⟨k1, k2⟩ := key (at3 a b c i) 0 (by
              rcases (show i = 0 ∨ i = 1 ∨ i = 2 by omega) with rfl | rfl | rfl
              · exact .inl ⟨rfl, rfl⟩
              · exact .inr (.inl ⟨rfl, rfl⟩)
              · exact .inr (.inr ⟨rfl, rfl⟩))
            refine Chk.mk k2 (Chk.mk (show InK .i64 ((i : Int) + 1) from ⟨by omega, by omega⟩) ⟨⟨i + 1, by omega⟩, ?_, by show 3 - (i + 1) < 3 - i; omega⟩)
            refine ⟨?_, ?_, rfl, rfl, rfl⟩
            · repeat' (first | exact trivial | exact rfl | refine And.intro ?_ ?_)
              exact k1
            · repeat' (first | exact trivial | exact rfl | (intro i hi; exact rfl) | refine And.intro ?_ ?_)
          · have h : ¬ (i : Int) < 3 := of_decide_eq_false h
            have hi3 : i = 3 := by omega
            subst hi3
            exact ⟨.inl rfl, end_noid ⟨rfl, rfl⟩ rfl rfl ⟨trivial, trivial⟩⟩
      · cases h
    · cases h
  · cases h
theorem g104 {l : List (Nat × Ct)} (g : Good P T l) : Good P T ((63, c104) :: l) := g.add (k104 g) c104_mono (body_of Tryd.func63 (c := code Tryd.f63) rfl (by decide))

/-! ### grows, shows, Show -/
/-- By how much longer a block is; what it shows. -/
def growV (mk a t : Int) : Int := mk * a * t / 10
def showV (mk : Int) (p : Int × Int) (t : Int) : Int := p.1 + growV mk p.2 t
theorem quo_floor (n : Int) : (if n.tmod 10 < 0 then n.tdiv 10 - 1 else n.tdiv 10) = n / 10 := by
  rcases Int.le_total 0 n with h | h
  · rw [Int.tdiv_eq_ediv_of_nonneg h, Int.tmod_eq_emod_of_nonneg h]
    split <;> omega
  · obtain ⟨m, rfl⟩ : ∃ m, n = -m := ⟨-n, by omega⟩
    have hm : 0 ≤ m := by omega
    rw [Int.neg_tdiv, Int.neg_tmod, Int.tdiv_eq_ediv_of_nonneg hm, Int.tmod_eq_emod_of_nonneg hm]
    split <;> omega
theorem tdiv_sm {n k : Int} (h : smB k n) : smB k (n.tdiv 10) := by
  unfold smB at *
  rcases Int.le_total 0 n with h | h
  · rw [Int.tdiv_eq_ediv_of_nonneg h]; omega
  · obtain ⟨m, rfl⟩ : ∃ m, n = -m := ⟨-n, by omega⟩
    have hm : 0 ≤ m := by omega
    rw [Int.neg_tdiv, Int.tdiv_eq_ediv_of_nonneg hm]; omega
theorem growV_le {mk a t : Int} (h1 : smB 1000 mk) (h2 : smB 1000 a) (h3 : smB 1000 t) : smB 1000000000 (mk * a * t) ∧ smB 100000000 (growV mk a t) := by
  have h := mul_sm (mul_sm h1 h2 (by decide) (by decide)) h3 (by decide) (by decide)
  unfold growV
  unfold smB at *
  omega
def c68 : Ct := plainCt fun
  | [.agg [.si .i64 n, .si .i64 a], .si .i64 mk, .si .i64 t] => some ⟨some (smB 1000 mk ∧ smB 1000 a ∧ smB 1000 t), none, .si .i64 (growV mk a t), []⟩
  | _ => none
theorem k68 {l : List (Nat × Ct)} (g0 : Good P T l) : COk P 51 c68 := by
  have g := g104 g0
  refine cok (C := tabC _) g.ok Tryd.func51 (c := code Tryd.f51) rfl fun fr args H out h hp => ?_
  simp only [c68, plainCt] at h
  split at h
  · rename_i n a mk t
    cases h
    obtain ⟨h1, h2, h3⟩ : smB 1000 mk ∧ smB 1000 a ∧ smB 1000 t := hp
    obtain ⟨hb, -⟩ := growV_le h1 h2 h3
    have hd := tdiv_sm hb
    unfold smB at hb hd
    have hq := quo_floor (mk * a * t)
    refine walk_plain rfl (Nat.le_of_ble_eq_true rfl) fun G hG => ?_
    refine Chk.mk ⟨h1, h2, h3⟩ ?_
    refine Chk.mk (show (10 : Int) ≠ 0 ∧ _ ≤ (mk * a * t).tdiv 10 ∧ (mk * a * t).tdiv 10 ≤ _ from ⟨by decide, by omega, by omega⟩) ?_
    refine Chk.mk (show (10 : Int) ≠ 0 by decide) ?_
    refine Br.mk (fun h => ?_) (fun h => ?_)
    · have h : (mk * a * t).tmod 10 < 0 := of_decide_eq_true h
      rw [if_pos h] at hq
      refine Chk.mk (show _ ≤ (mk * a * t).tdiv 10 - 1 ∧ (mk * a * t).tdiv 10 - 1 ≤ _ from ⟨by omega, by omega⟩) ⟨.inl rfl, end_plain ⟨rfl, hq⟩ rfl rfl⟩
    · have h : ¬ (mk * a * t).tmod 10 < 0 := of_decide_eq_false h
      rw [if_neg h] at hq
      exact ⟨.inl rfl, end_plain ⟨rfl, hq⟩ rfl rfl⟩
  · cases h
theorem g68 {l : List (Nat × Ct)} (g : Good P T l) : Good P T ((51, c68) :: l) := g.add (k68 g) (plainCt_mono _) (body_of Tryd.func51 (c := code Tryd.f51) rfl (by decide))

def c81 : Ct := plainCt fun
  | [.agg [.si .i64 n, .si .i64 a], .si .i64 mk, .si .i64 t] => some ⟨some (smB 1000000 n ∧ smB 1000 mk ∧ smB 1000 a ∧ smB 1000 t), none, .si .i64 (showV mk (n, a) t), []⟩
  | _ => none
theorem k81 {l : List (Nat × Ct)} (g0 : Good P T l) : COk P 98 c81 := by
  have g := g68 g0
  refine cok (C := tabC _) g.ok Tryd.func98 (c := code Tryd.f98) rfl fun fr args H out h hp => ?_
  simp only [c81, plainCt] at h
  split at h
  · rename_i n a mk t
    cases h
    obtain ⟨h0, h1, h2, h3⟩ : smB 1000000 n ∧ smB 1000 mk ∧ smB 1000 a ∧ smB 1000 t := hp
    obtain ⟨-, hb⟩ := growV_le h1 h2 h3
    unfold smB at hb h0
    refine walk_plain rfl (Nat.le_of_ble_eq_true rfl) fun G hG => ?_
    refine drawn_ok (g.ok _ _ _) fol [0,1,0,0,0,28,63,127] [] 8 (by kernel_rfl) ?_
    refine Chk.mk ⟨h1, h2, h3⟩ ?_
    refine Chk.mk (show _ ≤ n + growV mk a t ∧ n + growV mk a t ≤ _ from ⟨by omega, by omega⟩) ⟨.inl rfl, end_plain ⟨rfl, rfl⟩ rfl rfl⟩
  · cases h
theorem g81 {l : List (Nat × Ct)} (g : Good P T l) : Good P T ((98, c81) :: l) := g.add (k81 g) (plainCt_mono _) (body_of Tryd.func98 (c := code Tryd.f98) rfl (by decide))
end Go.X.W
end

section
set_option linter.unusedVariables false
set_option linter.unusedSimpArgs false
set_option linter.unusedSectionVars false
/- Warm: powers of two, sets, and contracts of functions of a block. -/
set_option linter.unusedVariables false
set_option linter.unusedSimpArgs false
set_option maxRecDepth 10000
set_option maxHeartbeats 1000000
namespace Go.X.W
open Go Go.Proofs Go.X

/-!  power -/
/-!  Has, Size -/
/-! ### Readings, and blocks -/
abbrev Rd := Int × Int × Int × Int
def rdC (r : Rd) : List SV := [.si .i64 r.1, .si .i64 r.2.1, .si .i64 r.2.2.1, .si .i64 r.2.2.2]
def rdAt (get : Nat → List SV) (i : Nat) : Rd := match get i with
  | [.si .i64 a, .si .i64 b, .si .i64 c, .si .i64 d] => (a, b, c, d)
  | _ => (0, 0, 0, 0)
def Rds (n : Nat) (get : Nat → List SV) : Prop := ∀ i, i < n → get i = rdC (rdAt get i)
def rdL (n : Nat) (get : Nat → List SV) : List Rd := (List.range n).map (rdAt get)
theorem rds_rd (n : Nat) (rd : Nat → Rd) : Rds n (fun i => rdC (rd i)) := fun i hi => rfl
structure Blk where
  mark : Int
  l1 : Int
  l2 : Int
  c1 : Int
  c2 : Int
  rs : List Rd
def wA (mk l1 l2 c1 c2 : Int) (id : Nat) : SV := .agg [.si .i64 mk, .si .i64 l1, .si .i64 l2, .si .i64 c1, .si .i64 c2, .sl id]

/-- A contract of a function of a block, and of more that holds no ids. -/
def wmCt (k : Blk → List SV → Option (Option Prop × SV)) : Ct := fun _ args H =>
  match args with
  | .agg [.si .i64 mk, .si .i64 l1, .si .i64 l2, .si .i64 c1, .si .i64 c2, .sl id] :: r => (match sliceOf 4 H id with
    | some (n, get) => (match k ⟨mk, l1, l2, c1, c2, rdL n get⟩ r with
      | some (p, v) => some ⟨some (Rds n get ∧ knL 0 [] r = true ∧ PreH p), none, v, []⟩
      | none => none)
    | none => none)
  | _ => none
theorem wmCt_mono (k : Blk → List SV → Option (Option Prop × SV)) : CtMono (wmCt k) := by
  intro fr args H H' out hH h
  unfold wmCt at h ⊢
  split at h
  · split at h
    · rename_i e
      simp only [sliceOf_mono hH e]
      exact h
    · cases h
  · cases h

/-- The walk of one with a deferred answer. -/
theorem wmWalkD {C : Nat → Option Ct} {fn : Func} {c : Code} {k : Blk → List SV → Option (Option Prop × SV)} {fr : Nat} {args : List SV} {H : LH} {out : COut} (ho : wmCt k fr args H = some out) (hp : PreH out.pre)
    (h : ∀ (mk l1 l2 c1 c2 : Int) (n : Nat) (rd : Nat → Rd) (r : List SV) (p : Option Prop) (v : SV) (Rv : SV → St → Prop), k ⟨mk, l1, l2, c1, c2, (List.range n).map rd⟩ r = some (p, v) → PreH p →
      (∀ v' st, SVeq v' v → knSV 0 [] v' = true → Rv v' st) → r.length + 1 ≤ fn.ntmps ∧
      ∀ G : Base, (∀ j, 1 ≤ j → G.ρ j = none) → exec ⟨P, T, C, G, none, fn.ntmps⟩ c (start (wA mk l1 l2 c1 c2 0 :: r) [(0, .ro 4 n fun i => rdC (rd i))] 1) (FinDM ⟨P, T, C, G, none, fn.ntmps⟩ 47 134 35 fn.results.toList Rv)) :
    WalkDM P T C 47 134 35 fn c H args fr out := by
  unfold wmCt at ho
  split at ho
  · rename_i mk l1 l2 c1 c2 id r
    split at ho
    · rename_i n get e
      split at ho
      · rename_i p v hk
        cases ho
        obtain ⟨hs, hr, hp⟩ : Rds n get ∧ knL 0 [] r = true ∧ PreH p := hp
        have hh : Hand H [(id, .ro 4 n fun i => rdC (rdAt get i))] := hand_one e (fun i => rfl) (fun i hi => (hs i hi).symm)
        have h0 := h mk l1 l2 c1 c2 n (rdAt get) r p v (fun v' st => ((none : Option (Bool × List PanicEntry)) = none ∨ ∃ ch, (none : Option (Bool × List PanicEntry)) = some (false, ch)) ∧ EndOk [(id, .ro 4 n fun i => rdC (rdAt get i))] [] fr ⟨some (Rds n get ∧ knL 0 [] r = true ∧ PreH p), none, v, []⟩ v' st)
          hk hp
          (fun v' st h1 h2 => ⟨.inl rfl, end_noid h1 h2 rfl ⟨trivial, trivial⟩⟩)
        refine ⟨[(id, .ro 4 n fun i => rdC (rdAt get i))], wA mk l1 l2 c1 c2 0 :: r, [(0, .ro 4 n fun i => rdC (rdAt get i))], 1, [], ?_, ?_, h0.1, hh, rfl, rfl, h0.2⟩
        · show _ = renSV _ _ :: renL _ r
          rw [renL_none r hr]
          rfl
        · show (match knSV 1 [] (wA mk l1 l2 c1 c2 0) with
            | true => knL 1 [] r
            | false => false) = true
          exact knL_up r hr
      · cases ho
    · cases ho
  · cases ho
end Go.X.W
end

section
set_option linter.unusedVariables false
set_option linter.unusedSimpArgs false
set_option linter.unusedSectionVars false
/- Warm: what a block shows by the document, valid blocks, and small functions of the statements. -/
set_option linter.unusedVariables false
set_option linter.unusedSimpArgs false
set_option maxRecDepth 10000
set_option maxHeartbeats 1000000
namespace Go.X.W
open Go Go.Proofs Go.X

/-! ### Valid blocks -/
def rdOk (r : Rd) : Bool := spanB r.1 r.2.1 (-100) 100 4 && spanB r.2.2.1 r.2.2.2 (-30000) 30000 60000
def headOk (mk l1 l2 c1 c2 : Int) (n : Nat) : Bool := inB mk 1 100 && spanB l1 l2 (-1000) 1000 24 && spanB c1 c2 0 20 3 && decide ((n : Int) ≤ 5)
def blkOk (B : Blk) : Bool := headOk B.mark B.l1 B.l2 B.c1 B.c2 B.rs.length && B.rs.all rdOk
theorem blkOk_eq (mk l1 l2 c1 c2 : Int) (n : Nat) (rd : Nat → Rd) : blkOk ⟨mk, l1, l2, c1, c2, (List.range n).map rd⟩ = (headOk mk l1 l2 c1 c2 n && (List.range n).all fun i => rdOk (rd i)) := by
  simp only [blkOk, List.length_map, List.length_range, List.all_map]
  rfl
theorem all_succ {q : Nat → Bool} {i : Nat} : (List.range (i + 1)).all q = ((List.range i).all q && q i) := by
  rw [List.range_succ, List.all_append]; simp
theorem all_false {q : Nat → Bool} {i n : Nat} (h : i < n) (hq : q i = false) : (List.range n).all q = false := by
  rw [List.all_eq_false]
  exact ⟨i, List.mem_range.2 h, by rw [hq]; exact Bool.false_ne_true⟩

end Go.X.W
end

section
set_option linter.unusedVariables false
set_option linter.unusedSimpArgs false
set_option linter.unusedSectionVars false
/- Warm: small functions of the document and of the statements. -/
set_option linter.unusedVariables false
set_option linter.unusedSimpArgs false
set_option maxRecDepth 10000
set_option maxHeartbeats 1000000
namespace Go.X.W
open Go Go.Proofs Go.X

/-! ### every -/
/-! ### far, fine -/
/-! ### inside, span, shows, reading -/
end Go.X.W
end

section
set_option linter.unusedVariables false
set_option linter.unusedSimpArgs false
set_option linter.unusedSectionVars false
/- Warm: open; functions of a block that is looked at. -/
set_option linter.unusedVariables false
set_option linter.unusedSimpArgs false
set_option maxRecDepth 10000
set_option maxHeartbeats 1000000
namespace Go.X.W
open Go Go.Proofs Go.X

/-- The error of a block, of so many offers, and of what else is asked; 0: none. -/
def errV (B : Blk) (offers : Int) (is : Bool) : Int := if blkOk B = true then (if offers ≤ 6 then (if is = true then 0 else 2) else 3) else 1
theorem errV_zero {B : Blk} {o : Int} {is : Bool} (h : errV B o is = 0) : blkOk B = true ∧ o ≤ 6 ∧ is = true := by
  unfold errV at h
  split at h
  · rename_i h1
    split at h
    · rename_i h2
      split at h
      · rename_i h3; exact ⟨h1, h2, h3⟩
      · cases h
    · cases h
  · cases h
def bC (mk l1 l2 c1 c2 : Int) (id : Nat) : List SV := [.si .i64 mk, .si .i64 l1, .si .i64 l2, .si .i64 c1, .si .i64 c2, .sl id]
def c57 : Ct := fun fr args H =>
  match args with
  | [.agg [.si .i64 mk, .si .i64 l1, .si .i64 l2, .si .i64 c1, .si .i64 c2, .sl id], .si .i64 o, .sb is] => (match sliceOf 4 H id with
    | some (n, get) => some ⟨some (Rds n get), some (!decide (errV ⟨mk, l1, l2, c1, c2, rdL n get⟩ o is = 0), refP (errV ⟨mk, l1, l2, c1, c2, rdL n get⟩ o is)), .sp fr 0,
        [(fr, .cells 138 (bC mk l1 l2 c1 c2 id))]⟩
    | none => none)
  | _ => none
theorem c57_mono : CtMono c57 := by
  intro fr args H H' out hH h
  unfold c57 at h ⊢
  split at h
  · split at h
    · rename_i e
      simp only [sliceOf_mono hH e]
      exact h
    · cases h
  · cases h
theorem k57 {l : List (Nat × Ct)} (g0 : Good P T l) : COk P 48 c57 := by
  have g := g95 (g99 (g66 g0))
  refine cok (C := tabC _) g.ok Tryd.func48 (c := code Tryd.f48) rfl fun fr args H out h hp => ?_
  unfold c57 at h
  split at h
  · rename_i mk l1 l2 c1 c2 id o is
    split at h
    · rename_i n get e
      cases h
      have hs : Rds n get := hp
      have hh : Hand H [(id, .ro 4 n fun i => rdC (rdAt get i))] := hand_one e (fun i => rfl) (fun i hi => (hs i hi).symm)
      refine ⟨[(id, .ro 4 n fun i => rdC (rdAt get i))], [wA mk l1 l2 c1 c2 0, .si .i64 o, .sb is], [(0, .ro 4 n fun i => rdC (rdAt get i))], 1, [2], rfl, rfl, Nat.le_of_ble_eq_true rfl, hh, rfl, rfl, fun G hG => ?_⟩
      have hE : errV ⟨mk, l1, l2, c1, c2, rdL n get⟩ o is = if headOk mk l1 l2 c1 c2 n = true then (if (List.range n).all (fun i => rdOk (rdAt get i)) = true then (if o ≤ 6 then (if is = true then 0 else 2) else 3) else 1) else 1 := by
        have := blkOk_eq mk l1 l2 c1 c2 n (rdAt get)
        unfold errV
        rw [show rdL n get = (List.range n).map (rdAt get) from rfl, this]
        cases headOk mk l1 l2 c1 c2 n <;> simp
      generalize errV ⟨mk, l1, l2, c1, c2, rdL n get⟩ o is = E at hE
      generalize rdAt get = rd at hE
      refine Chk.mk (fun _ => ⟨by decide, by decide⟩) (Chk.mk (fun _ => ⟨by decide, by decide⟩) ?_)
      refine Br.mk (fun h => ?_) (fun h => ?_)
      · have h : (!headOk mk l1 l2 c1 c2 n) = true := h
        have h : headOk mk l1 l2 c1 c2 n = false := by simpa only [Bool.not_eq_true'] using h
        rw [h] at hE
        simp at hE
        subst hE
        exact ⟨rfl, trivial, trivial⟩
      · have h : (!headOk mk l1 l2 c1 c2 n) = false := h
        have h : headOk mk l1 l2 c1 c2 n = true := by simpa only [Bool.not_eq_false'] using h
        rw [h] at hE
        simp only [if_true] at hE
        have h5 : n ≤ 5 := by
          simp only [headOk, Bool.and_eq_true, decide_eq_true_eq] at h
          omega
        refine loop_ok (g.ok _ _ _) (fun x : {i : Nat // i ≤ n ∧ ((List.range i).all fun i => rdOk (rd i)) = true} => ⟨[(1, ⟨[], .si .i64 o⟩), (2, ⟨[], .sb is⟩), (3, ⟨[], .sp 1 0⟩), (30, ⟨[], .sl 0⟩), (31, ⟨[], .si .i64 n⟩), (32, ⟨[], .si .i64 x.1⟩)], [],
          [(0, .ro 4 n fun i => rdC (rd i)), (1, .cells 84 (bC mk l1 l2 c1 c2 0))], 2, []⟩) (fun x => n - x.1) (fun _ j hj => hG j (by have : 2 ≤ j := hj; omega)) ⟨0, Nat.zero_le _, rfl⟩ ?_ ?_
        · refine ⟨?_, ?_, rfl, rfl, rfl⟩ <;> repeat' (first | exact trivial | exact rfl | (intro i hi; exact rfl) | refine And.intro ?_ ?_)
        · rintro ⟨i, hi, hall⟩
          refine Br.mk (fun h1 => ?_) (fun h1 => ?_)
          · have h1 : (i : Int) < (n : Int) := of_decide_eq_true h1
            refine Chk.mk (show (0 : Int) ≤ (i : Int) ∧ (i : Int) < (n : Int) from ⟨by omega, h1⟩) (Chk.mk ⟨by decide, by decide⟩ (Chk.mk (fun _ => ⟨by decide, by decide⟩) ?_))
            refine Br.mk (fun h2 => ?_) (fun h2 => ?_)
            · have h2 : (!rdOk (rd i)) = true := h2
              have h3 := all_false (q := fun i => rdOk (rd i)) (i := i) (n := n) (by omega) (by simpa using h2)
              rw [h3] at hE
              simp at hE
              subst hE
              exact ⟨rfl, trivial, trivial⟩
            · have h2 : (!rdOk (rd i)) = false := h2
              refine Chk.mk (show InK .i64 ((i : Int) + 1) from ⟨by omega, by omega⟩) ⟨⟨i + 1, by omega, by rw [all_succ, hall]; simpa using h2⟩, ?_, by show n - (i + 1) < n - i; omega⟩
              refine ⟨?_, ?_, rfl, rfl, rfl⟩ <;> repeat' (first | exact trivial | exact rfl | (intro i hi; exact rfl) | refine And.intro ?_ ?_)
          · have h1 : ¬ (i : Int) < (n : Int) := of_decide_eq_false h1
            have hin' : i = n := by omega
            subst hin'
            rw [hall] at hE
            simp only [if_true] at hE
            refine Br.mk (fun h2 => ?_) (fun h2 => ?_)
            · have h2 : (!decide (o ≤ 6)) = true := h2
              have h2 : ¬ o ≤ 6 := by simpa using h2
              rw [if_neg h2] at hE
              subst hE
              exact ⟨rfl, trivial, trivial⟩
            · have h2 : (!decide (o ≤ 6)) = false := h2
              have h2 : o ≤ 6 := by simpa using h2
              rw [if_pos h2] at hE
              refine Br.mk (fun h3 => ?_) (fun h3 => ?_)
              · have h3 : (!is) = true := h3
                have h3 : is = false := by simpa only [Bool.not_eq_true'] using h3
                subst h3
                simp at hE
                subst hE
                exact ⟨rfl, trivial, trivial⟩
              · have h3 : (!is) = false := h3
                have h3 : is = true := by simpa only [Bool.not_eq_false'] using h3
                subst h3
                simp at hE
                subst hE
                exact ⟨.inr ⟨_, rfl⟩, ⟨⟨rfl, rfl⟩, rfl, ⟨rfl, ⟨⟨rfl, ⟨rfl, rfl⟩, ⟨rfl, rfl⟩, ⟨rfl, rfl⟩, ⟨rfl, rfl⟩, ⟨rfl, rfl⟩, rfl, trivial⟩, rfl⟩, trivial⟩, ⟨trivial, trivial⟩, rfl, rfl⟩⟩
    · cases h
  · cases h
theorem g57 {l : List (Nat × Ct)} (g : Good P T l) : Good P T ((48, c57) :: l) := g.add (k57 g) c57_mono (body_of Tryd.func48 (c := code Tryd.f48) rfl (by decide))

/-! ### Functions of a block that is looked at -/
def bkP (bid id n : Nat) (mk l1 l2 c1 c2 : Int) (rd : Nat → Rd) : List (Nat × HB) := [(bid, .cells 138 (bC mk l1 l2 c1 c2 1)), (id, .ro 4 n fun i => rdC (rd i))]
def bkH (n : Nat) (mk l1 l2 c1 c2 : Int) (rd : Nat → Rd) : List (Nat × HB) := [(0, .cells 138 (bC mk l1 l2 c1 c2 1)), (1, .ro 4 n fun i => rdC (rd i))]
theorem bkHand {H : LH} {bid id n : Nat} {mk l1 l2 c1 c2 : Int} {get : Nat → List SV} (h1 : H bid = some (.cells 138 (bC mk l1 l2 c1 c2 id))) (h2 : sliceOf 4 H id = some (n, get)) (hs : Rds n get) :
    Hand H (bkP bid id n mk l1 l2 c1 c2 (rdAt get)) where
  ok j c hb h := by
    match j, h with
    | 0, h => simp [bkP] at h; obtain ⟨rfl, rfl⟩ := h; exact h1
    | 1, h =>
      simp [bkP] at h; obtain ⟨rfl, rfl⟩ := h
      exact sliceOf_piece h2 fun i hi => by rw [hs i hi]; rfl
    | j + 2, h => simp [bkP] at h
  ids j c hb h := by
    match j, h with
    | 0, h => simp [bkP] at h; obtain ⟨rfl, rfl⟩ := h; exact ⟨trivial, trivial, trivial, trivial, trivial, (by show 1 < 2; decide), trivial⟩
    | 1, h => simp [bkP] at h; obtain ⟨rfl, rfl⟩ := h; exact fun i hi => ⟨trivial, trivial, trivial, trivial, trivial⟩
    | j + 2, h => simp [bkP] at h
  inj i j c hb hb' h1 h2 o1 o2 := by
    match i, j, h1, h2 with
    | 0, 0, _, _ => rfl
    | 1, 1, _, _ => rfl
    | 0, 1, h1, h2 => simp [bkP] at h2; obtain ⟨_, rfl⟩ := h2; cases o2
    | 1, 0, h1, h2 => simp [bkP] at h1; obtain ⟨_, rfl⟩ := h1; cases o1
    | i + 2, _, h, _ => simp [bkP] at h
    | _, j + 2, _, h => simp [bkP] at h
end Go.X.W
end

section
set_option linter.unusedVariables false
set_option linter.unusedSimpArgs false
set_option linter.unusedSectionVars false
/- Warm: warmths that are gone through; can. -/
set_option linter.unusedVariables false
set_option linter.unusedSimpArgs false
set_option maxRecDepth 10000
set_option maxHeartbeats 1000000
namespace Go.X.W
open Go Go.Proofs Go.X

/-- The numbers from one to another one. -/
def iota (a b : Int) : List Int := (List.range (b + 1 - a).toNat).map fun i : Nat => a + (i : Int)
theorem mem_iota {a b t : Int} : t ∈ iota a b ↔ a ≤ t ∧ t ≤ b := by
  simp only [iota, List.mem_map, List.mem_range]
  constructor
  · rintro ⟨i, hi, rfl⟩; omega
  · rintro ⟨h1, h2⟩; exact ⟨(t - a).toNat, by omega, by omega⟩
theorem iota_nil {a b : Int} (h : b < a) : iota a b = [] := by
  simp only [iota]
  rw [show (b + 1 - a).toNat = 0 by omega]
  rfl
theorem iota_snoc {a b : Int} (h : a ≤ b) : iota a b = iota a (b - 1) ++ [b] := by
  simp only [iota]
  obtain ⟨k, hk⟩ : ∃ k : Nat, (b + 1 - a).toNat = k + 1 := ⟨(b - a).toNat, by omega⟩
  rw [hk, show (b - 1 + 1 - a).toNat = k by omega, List.range_succ, List.map_append]
  simp only [List.map_cons, List.map_nil]
  congr 2
  omega
def hitB (mk : Int) (p : Int × Int) (r : Rd) (t : Int) : Bool := inB (showV mk p t) r.2.2.1 r.2.2.2
def canV (mk : Int) (p : Int × Int) (r : Rd) : Bool := (iota r.1 r.2.1).any (hitB mk p r)

/-! ### (anywhere).warm, (reading).warm -/
def c101 : Ct := fun fr args _ => match args with
  | [.agg [.si .i64 a, .si .i64 b], .si .i64 m, .agg [.si .i64 n, .si .i64 x]] => some ⟨none, none, .fn (.func 95) [] [.sp fr 0], [(fr, .cells 154 [.si .i64 a, .si .i64 b])]⟩
  | _ => none
theorem c101_mono : CtMono c101 := by
  intro fr args H H' out hH h
  unfold c101 at h ⊢
  exact h
theorem k101 {l : List (Nat × Ct)} (g : Good P T l) : COk P 94 c101 := by
  refine cok (C := tabC _) g.ok Tryd.func94 (c := code Tryd.f94) rfl fun fr args H out h hp => ?_
  unfold c101 at h
  split at h
  · rename_i a b m n x
    cases h
    refine ⟨[], [.agg [.si .i64 a, .si .i64 b], .si .i64 m, .agg [.si .i64 n, .si .i64 x]], [], 0, [0], rfl, rfl, Nat.le_of_ble_eq_true rfl, hand_nil H, rfl, rfl, fun G hG => ?_⟩
    exact ⟨.inl rfl, ⟨rfl, rfl, ⟨rfl, ⟨⟨rfl, ⟨rfl, rfl⟩, ⟨rfl, rfl⟩, trivial⟩, rfl⟩, trivial⟩, trivial, rfl, rfl⟩⟩
  · cases h
theorem g101 {l : List (Nat × Ct)} (g : Good P T l) : Good P T ((94, c101) :: l) := g.add (k101 g) c101_mono (body_of Tryd.func94 (c := code Tryd.f94) rfl (by decide))
def c76 : Ct := fun fr args _ => match args with
  | [.agg [.si .i64 a, .si .i64 b, .si .i64 c, .si .i64 d], .si .i64 m, .agg [.si .i64 n, .si .i64 x]] => some ⟨none, none, .fn (.func 97) [] [.sp fr 0, .sp (fr + 1) 0, .sp (fr + 2) 0],
    [(fr, .cells 156 (rdC (a, b, c, d))), (fr + 1, .cells 3 [.si .i64 m]), (fr + 2, .cells 114 [.si .i64 n, .si .i64 x])]⟩
  | _ => none
theorem k76 {l : List (Nat × Ct)} (g : Good P T l) : COk P 96 c76 := by
  refine cok (C := tabC _) g.ok Tryd.func96 (c := code Tryd.f96) rfl fun fr args H out h hp => ?_
  unfold c76 at h
  split at h
  · rename_i a b c d m n x
    cases h
    refine ⟨[], [.agg [.si .i64 a, .si .i64 b, .si .i64 c, .si .i64 d], .si .i64 m, .agg [.si .i64 n, .si .i64 x]], [], 0, [0, 1, 2], rfl, rfl, Nat.le_of_ble_eq_true rfl, hand_nil H, rfl, rfl, fun G hG => ?_⟩
    exact ⟨.inl rfl, ⟨rfl, rfl, ⟨rfl, ⟨⟨rfl, ⟨rfl, rfl⟩, ⟨rfl, rfl⟩, ⟨rfl, rfl⟩, ⟨rfl, rfl⟩, trivial⟩, rfl⟩, rfl, ⟨⟨rfl, ⟨rfl, rfl⟩, trivial⟩, rfl⟩, rfl, ⟨⟨rfl, ⟨rfl, rfl⟩, ⟨rfl, rfl⟩, trivial⟩, rfl⟩, trivial⟩, trivial, rfl, rfl⟩⟩
  · cases h
/-! ### can -/
theorem m118 : MethOk P 156 "blockworks/warm.warm" 96 := meth_of' (by kernel_rfl)
theorem b76 : Body P 96 := body_of Tryd.func96 (c := code Tryd.f96) rfl (by decide)
theorem b105 : Body P 97 := body_of Tryd.func97 (c := code Tryd.f97) rfl (by decide)
theorem b114 : Body P 95 := body_of Tryd.func95 (c := code Tryd.f95) rfl (by decide)
def c109 : Ct := fun fr args H =>
  match args with
  | [.sp bid 0, .ifc 156 (.agg [.si .i64 a, .si .i64 b, .si .i64 c, .si .i64 d]), .agg [.si .i64 x, .si .i64 y]] => (match H bid with
    | some (.cells 138 [.si .i64 mk, .si .i64 l1, .si .i64 l2, .si .i64 c1, .si .i64 c2, .sl id]) => (match sliceOf 4 H id with
      | some (n, get) => some ⟨some (Rds n get ∧ smB 1000 mk ∧ smB 1000000 x ∧ smB 1000 y ∧ smB 1000 a ∧ smB 1000 b), none, .sb (canV mk (x, y) (a, b, c, d)), []⟩
      | none => none)
    | _ => none)
  | _ => none
theorem c109_mono : CtMono c109 := by
  intro fr args H H' out hH h
  unfold c109 at h ⊢
  split at h
  · split at h
    · rename_i e1
      rw [hH _ _ e1]
      split at h
      · rename_i e
        simp only [sliceOf_mono hH e]
        exact h
      · cases h
    · cases h
  · cases h
theorem k109 : COk P 73 c109 := by
  have g := g101 (g81 (g66 good0))
  refine cokM (C := tabC _) g.ok Tryd.func73 (c := code Tryd.f73) rfl fun fr args H out h hp => ?_
  unfold c109 at h
  split at h
  · rename_i bid a b c d x y
    split at h
    · rename_i mk l1 l2 c1 c2 id e1
      split at h
      · rename_i n get e
        cases h
        obtain ⟨hs, hmk, hx, hy, ha, hb⟩ : Rds n get ∧ smB 1000 mk ∧ smB 1000000 x ∧ smB 1000 y ∧ smB 1000 a ∧ smB 1000 b := hp
        have hh := bkHand e1 e hs
        refine ⟨bkP bid id n mk l1 l2 c1 c2 (rdAt get), [.sp 0 0, .ifc 156 (.agg [.si .i64 a, .si .i64 b, .si .i64 c, .si .i64 d]), .agg [.si .i64 x, .si .i64 y]], bkH n mk l1 l2 c1 c2 (rdAt get), 2, [], rfl, rfl, Nat.le_of_ble_eq_true rfl, hh, rfl, rfl, fun G hG => ?_⟩
        generalize rdAt get = rd
        refine drawn_ok (g.ok _ _ _) fol [0,0,2,6,14,30,0,1,129,385,1023] [] 10 (by kernel_rfl) ?_
        refine Chk.mk (by kernel_rfl) ?_
        refine fb_invoke 96 (g.ok _ _ _) cont_std rfl rfl rfl rfl rfl rfl rfl m118 b76 ?_
        refine callS_ct (k76 good0) (out := ⟨none, none, _, _⟩) rfl trivial (fun hz => ?_) (fun ch h => by cases h)
        clear hz
        refine rangeFunc_ok (g.ok _ _ _) rfl rfl rfl b105 ?_
        intro fn
        refine callS_execM g.ok Tryd.func97 (c := code Tryd.f97) rfl (Nat.le_of_ble_eq_true rfl) fun G2 hG2 => ?_
        refine rangeFunc_ok (g.ok _ _ _) rfl rfl rfl b114 ?_
        intro fn2
        refine callS_exec g.ok Tryd.func95 (c := code Tryd.f95) rfl (Nat.le_of_ble_eq_true rfl) fun G3 hG3 => ?_
        have hit : ∀ t, hitB mk (x, y) (a, b, c, d) t = inB (showV mk (x, y) t) c d := fun t => rfl
        unfold smB at ha hb
        have hab : a ≤ b + 1 ∨ b + 1 < a := by omega
        refine loop_okR (g.ok _ _ _) 57 (fun z : {t : Int // a ≤ t ∧ (t ≤ b + 1 ∨ t = a) ∧ ∀ u, a ≤ u → u < t → hitB mk (x, y) (a, b, c, d) u = false} => ⟨[(0, ⟨[], .fy 56⟩), (1, ⟨[], .sp 51 0⟩), (3, ⟨[], .si .i64 z.1⟩)], [],
          [(56, .loop [(1, .sp 44 0), (2, .sp 45 0), (3, .sp 46 0), (4, .sp 50 0)] Tryd.f97.ntmps fn2 [11] (rfA (code Tryd.f97)) (rfB (code Tryd.f97)) 55 .ready none), (55, .dfr), (51, .cells 154 [.si .i64 a, .si .i64 b]), (50, .cells 78 [.fy 49]),
           (49, .loop [(6, .sp 3 0)] Tryd.f73.ntmps fn [18] (rfA (code Tryd.f73)) (rfB (code Tryd.f73)) 48 .ready none), (48, .dfr), (44, .cells 156 (rdC (a, b, c, d))), (45, .cells 3 [.si .i64 mk]), (46, .cells 114 [.si .i64 x, .si .i64 y]), (3, .cells 4 [.sb false])] ++ bkH n mk l1 l2 c1 c2 rd, 57, []⟩)
          (fun z => (b + 1 - z.1).toNat) hG3 ⟨a, by omega, .inr rfl, fun u h1 h2 => by omega⟩ (fun j => j) ?_ ?_
        · refine ⟨?_, ?_, rfl, rfl, rfl, rfl, trivial⟩
          · repeat' (first | exact trivial | exact rfl | refine And.intro ?_ ?_)
          · repeat' (first | exact trivial | exact rfl | (intro i hi; exact ⟨rfl, rfl⟩) | refine allV_find ?_ | refine And.intro ?_ ?_)
        · rintro ⟨t, h1, h2, h3⟩
          refine Br.mk (fun h => ?_) (fun h => ?_)
          · replace h : t ≤ b := of_decide_eq_true h
            refine fb_yield 56 g.ok (g.ok _ _ _) cont_std rfl rfl rfl rfl rfl rfl rfl rfl rfl (by decide) ?_
            intro G4 r hG4
            refine drawn_ok (g.ok _ _ _) fol [0,0,0,7,0,16,48,0,128,384,1023,2047] [] 12 (by kernel_rfl) ?_
            refine Chk.mk ⟨hx, hmk, hy, ⟨(show -1000 ≤ t by omega), (show t ≤ 1000 by omega)⟩⟩ ?_
            refine Br.mk (fun hq => ?_) (fun hq => ?_)
            · have hq : (!hitB mk (x, y) (a, b, c, d) t) = true := hq
              refine Br.mk (fun h => by cases h) (fun _ => ?_)
              refine Chk.mk (show InK .i64 (t + 1) from ⟨by omega, by omega⟩) ⟨⟨t + 1, by omega, .inl (by omega), fun u hu1 hu2 => ?_⟩, (fun j => j), ?_, ?_⟩
              · rcases Int.lt_or_eq_of_le (show u ≤ t by omega) with h | h
                · exact h3 u hu1 h
                · subst h; simpa using hq
              · refine ⟨?_, ?_, rfl, rfl, rfl, rfl, trivial⟩
                · repeat' (first | exact trivial | exact rfl | refine And.intro ?_ ?_)
                · repeat' (first | exact trivial | exact rfl | (intro i hi; exact ⟨rfl, rfl⟩) | refine allV_find ?_ | refine And.intro ?_ ?_)
              · show (b + 1 - (t + 1)).toNat < (b + 1 - t).toNat
                omega
            · have hq : (!hitB mk (x, y) (a, b, c, d) t) = false := hq
              have hcan : canV mk (x, y) (a, b, c, d) = true := by
                rw [canV, List.any_eq_true]
                exact ⟨t, mem_iota.2 ⟨h1, h⟩, by simpa using hq⟩
              refine fb_yield 49 g.ok (g.ok _ _ _) cont_std rfl rfl rfl rfl rfl rfl rfl rfl rfl (by decide) ?_
              intro G5 r5 hG5
              refine Br.mk (fun _ => ?_) (fun h => by cases h)
              refine Br.mk (fun _ => ?_) (fun h => by cases h)
              rw [hcan]
              exact ⟨.inl rfl, end_noid rfl rfl rfl ⟨⟨rfl, ⟨rfl, rfl⟩, ⟨rfl, rfl⟩, ⟨rfl, rfl⟩, ⟨rfl, rfl⟩, ⟨rfl, rfl⟩, rfl, trivial⟩, trivial, trivial⟩⟩
          · replace h : ¬ t ≤ b := of_decide_eq_false h
            have hcan : canV mk (x, y) (a, b, c, d) = false := by
              rw [canV, List.any_eq_false]
              intro u hu
              obtain ⟨u1, u2⟩ := mem_iota.1 hu
              have u2 : u ≤ b := u2
              rw [h3 u u1 (by omega)]
              exact Bool.false_ne_true
            rw [hcan]
            exact ⟨.inl rfl, end_noid rfl rfl rfl ⟨⟨rfl, ⟨rfl, rfl⟩, ⟨rfl, rfl⟩, ⟨rfl, rfl⟩, ⟨rfl, rfl⟩, ⟨rfl, rfl⟩, rfl, trivial⟩, trivial, trivial⟩⟩
      · cases h
    · cases h
  · cases h
theorem g109 {l : List (Nat × Ct)} (g : Good P T l) : Good P T ((73, c109) :: l) := g.add k109 c109_mono (body_of Tryd.func73 (c := code Tryd.f73) rfl (by decide))
end Go.X.W
end

section
set_option linter.unusedVariables false
set_option linter.unusedSimpArgs false
set_option linter.unusedSectionVars false
/- Warm: readings that are looked at; whether none of them clashes with a pair. -/
set_option linter.unusedVariables false
set_option linter.unusedSimpArgs false
set_option maxRecDepth 10000
set_option maxHeartbeats 1000000
namespace Go.X.W
open Go Go.Proofs Go.X

/-! ### readings -/
def c74 : Ct := fun fr args H =>
  match args with
  | [.sp bid 0] => (match H bid with
    | some (.cells 138 [.si .i64 mk, .si .i64 l1, .si .i64 l2, .si .i64 c1, .si .i64 c2, .sl id]) => (match sliceOf 4 H id with
      | some (n, get) => some ⟨some (Rds n get ∧ n ≤ 40), none, .sl fr, [(fr, .ro 4 n fun i => rdC (rdAt get i))]⟩
      | none => none)
    | _ => none)
  | _ => none
theorem c74_mono : CtMono c74 := by
  intro fr args H H' out hH h
  unfold c74 at h ⊢
  split at h
  · split at h
    · rename_i e1
      rw [hH _ _ e1]
      split at h
      · rename_i e
        simp only [sliceOf_mono hH e]
        exact h
      · cases h
    · cases h
  · cases h
theorem k74 {l : List (Nat × Ct)} (g : Good P T l) : COk P 70 c74 := by
  refine cok (C := tabC _) g.ok Tryd.func70 (c := code Tryd.f70) rfl fun fr args H out h hp => ?_
  unfold c74 at h
  split at h
  · rename_i bid
    split at h
    · rename_i mk l1 l2 c1 c2 id e1
      split at h
      · rename_i n get e
        cases h
        obtain ⟨hs, hn⟩ : Rds n get ∧ n ≤ 40 := hp
        have hh := bkHand e1 e hs
        refine ⟨bkP bid id n mk l1 l2 c1 c2 (rdAt get), [.sp 0 0], bkH n mk l1 l2 c1 c2 (rdAt get), 2, [2], rfl, rfl, Nat.le_of_ble_eq_true rfl, hh, rfl, rfl, fun G hG => ?_⟩
        generalize rdAt get = rd
        refine nil_slot 2 156 4 (fun i => rdC (rd i)) rfl ?_
        refine loop_okR (g.ok _ _ _) 2 (fun x : {i : Nat // i ≤ n} => ⟨[(0, ⟨[], .sp 0 0⟩), (2, ⟨[], .sl 2⟩), (9, ⟨[], .sl 1⟩), (10, ⟨[], .si .i64 n⟩), (11, ⟨[], .si .i64 x.1⟩)], [],
          (2, .vec 156 4 x.1 (fun i => rdC (rd i))) :: bkH n mk l1 l2 c1 c2 rd, 3, []⟩) (fun x => n - x.1) hG ⟨0, Nat.zero_le _⟩ (fun j => j) ?_ ?_
        · refine ⟨?_, ?_, rfl, rfl, rfl, rfl, trivial⟩
          · repeat' (first | exact trivial | exact rfl | refine And.intro ?_ ?_)
          · repeat' (first | exact trivial | exact rfl | (intro i hi; exact ⟨rfl, rfl⟩) | refine And.intro ?_ ?_)
        · rintro ⟨i, hi⟩
          refine Br.mk (fun h => ?_) (fun h => ?_)
          · have h : (i : Int) < (n : Int) := of_decide_eq_true h
            refine Chk.mk (show (0 : Int) ≤ (i : Int) ∧ (i : Int) < (n : Int) from ⟨by omega, h⟩) ?_
            refine fb_append (Te := 0) 2 4 i 1 _ _ (fun i => rdC (rd i)) (g.ok _ _ _) cont_std rfl rfl rfl rfl rfl rfl rfl rfl rfl rfl rfl rfl (by decide) (by decide) rfl rfl rfl rfl ?_ ?_ ?_
            · omega
            · intro j hj
              split
              · rfl
              · have : j = i := by omega
                subst this
                rw [Nat.sub_self]
                rfl
            · refine Chk.mk (show InK .i64 ((i : Int) + 1) from ⟨by omega, by omega⟩) ⟨⟨i + 1, by omega⟩, (fun j => if j = 2 then 5 else j), ?_, by show n - (i + 1) < n - i; omega⟩
              refine ⟨?_, ?_, rfl, rfl, rfl, rfl, trivial⟩
              · repeat' (first | exact trivial | exact rfl | refine And.intro ?_ ?_)
              · repeat' (first | exact trivial | exact rfl | (intro i hi; exact ⟨rfl, rfl⟩) | refine And.intro ?_ ?_)
          · have h : ¬ (i : Int) < (n : Int) := of_decide_eq_false h
            have hin : i = n := by omega
            subst hin
            exact ⟨.inl rfl, ⟨rfl, rfl, ⟨rfl, ⟨rfl, rfl, fun i hi => ⟨rfl, rfl⟩⟩, trivial⟩, ⟨⟨rfl, ⟨rfl, rfl⟩, ⟨rfl, rfl⟩, ⟨rfl, rfl⟩, ⟨rfl, rfl⟩, ⟨rfl, rfl⟩, rfl, trivial⟩, trivial, trivial⟩, rfl, rfl⟩⟩
      · cases h
    · cases h
  · cases h
theorem g74 {l : List (Nat × Ct)} (g : Good P T l) : Good P T ((70, c74) :: l) := g.add (k74 g) c74_mono (body_of Tryd.func70 (c := code Tryd.f70) rfl (by decide))

/-! ### Does a reading clash with a pair? -/
/-- The pieces of the closure that asks. -/
def askP (bx bid id px n : Nat) (mk l1 l2 c1 c2 x y : Int) (rd : Nat → Rd) : List (Nat × HB) :=
  [(bx, .cells 109 [.sp 1 0]), (bid, .cells 138 (bC mk l1 l2 c1 c2 2)), (id, .ro 4 n fun i => rdC (rd i)), (px, .cells 114 [.si .i64 x, .si .i64 y])]
def askQ (n : Nat) (get : Nat → List SV) (mk x y : Int) (r : Rd) : Prop := Rds n get ∧ smB 1000 mk ∧ smB 1000000 x ∧ smB 1000 y ∧ smB 1000 r.1 ∧ smB 1000 r.2.1
def c108 : Ct := fun fr args H =>
  match args with
  | [.agg [.si .i64 a, .si .i64 b, .si .i64 c, .si .i64 d], .sp bx 0, .sp px 0] => (match H bx, H px with
    | some (.cells 109 [.sp bid 0]), some (.cells 114 [.si .i64 x, .si .i64 y]) => (match H bid with
      | some (.cells 138 [.si .i64 mk, .si .i64 l1, .si .i64 l2, .si .i64 c1, .si .i64 c2, .sl id]) => (match sliceOf 4 H id with
        | some (n, get) => some ⟨some (askQ n get mk x y (a, b, c, d)), none, .sb (!canV mk (x, y) (a, b, c, d)), []⟩
        | none => none)
      | _ => none)
    | _, _ => none)
  | _ => none
theorem c108_mono : CtMono c108 := by
  intro fr args H H' out hH h
  unfold c108 at h ⊢
  split at h
  · split at h
    · rename_i e1 e2
      split at h
      · rename_i e3
        split at h
        · rename_i e
          simp only [hH _ _ e1, hH _ _ e2, hH _ _ e3, sliceOf_mono hH e]
          exact h
        · cases h
      · cases h
    · cases h
  · cases h
theorem k108 {l : List (Nat × Ct)} (g0 : Good P T l) : COk P 72 c108 := by
  have g := g109 g0
  refine cok (C := tabC _) g.ok Tryd.func72 (c := code Tryd.f72) rfl fun fr args H out h hp => ?_
  unfold c108 at h
  split at h
  · rename_i a b c d bx px
    split at h
    · rename_i bid x y e1 e2
      split at h
      · rename_i mk l1 l2 c1 c2 id e3
        split at h
        · rename_i n get e
          cases h
          obtain ⟨hs, hmk, hx, hy, ha, hb⟩ : askQ n get mk x y (a, b, c, d) := hp
          have hh : Hand H (askP bx bid id px n mk l1 l2 c1 c2 x y (rdAt get)) := hand_mk ⟨e1, e3, sliceOf_piece e fun i hi => by rw [hs i hi]; rfl, e2, trivial⟩
            (by repeat' (first | exact trivial | (intro i hi; exact ⟨trivial, trivial, trivial, trivial, trivial⟩) | refine And.intro ?_ ?_ | exact (by decide : (1 : Nat) < 4) | exact (by decide : (2 : Nat) < 4))) rfl
          refine ⟨askP bx bid id px n mk l1 l2 c1 c2 x y (rdAt get), [.agg [.si .i64 a, .si .i64 b, .si .i64 c, .si .i64 d], .sp 0 0, .sp 3 0], _, 4, [], rfl, rfl, Nat.le_of_ble_eq_true rfl, hh, rfl, rfl, fun G hG => ?_⟩
          generalize rdAt get = rd
          refine Chk.mk ⟨rds_rd _ _, hmk, hx, hy, ha, hb⟩ ?_
          exact ⟨.inl rfl, end_noid rfl rfl rfl ⟨⟨rfl, ⟨rfl, rfl⟩, trivial⟩, ⟨rfl, ⟨rfl, rfl⟩, ⟨rfl, rfl⟩, ⟨rfl, rfl⟩, ⟨rfl, rfl⟩, ⟨rfl, rfl⟩, rfl, trivial⟩, trivial, ⟨rfl, ⟨rfl, rfl⟩, ⟨rfl, rfl⟩, trivial⟩, trivial⟩⟩
        · cases h
      · cases h
    · cases h
  · cases h
theorem g108 {l : List (Nat × Ct)} (g : Good P T l) : Good P T ((72, c108) :: l) := g.add (k108 g) c108_mono (body_of Tryd.func72 (c := code Tryd.f72) rfl (by decide))
end Go.X.W
end

section
set_option linter.unusedVariables false
set_option linter.unusedSimpArgs false
set_option linter.unusedSectionVars false
/- Warm: does any reading clash with a pair: the library's functions. -/
set_option linter.unusedVariables false
set_option linter.unusedSimpArgs false
set_option maxRecDepth 10000
set_option maxHeartbeats 1000000
namespace Go.X.W
open Go Go.Proofs Go.X

/-- The first number of which something is so; -1: of none. -/
def idxV (q : Nat → Bool) (n : Nat) : Int := match (List.range n).find? q with
  | some i => i
  | none => -1
theorem idxV_none {q : Nat → Bool} {n : Nat} (h : ∀ i, i < n → q i = false) : idxV q n = -1 := by
  unfold idxV
  rw [List.find?_eq_none.2]
  intro x hx
  rw [h x (List.mem_range.1 hx)]
  exact Bool.false_ne_true
theorem range_split {i n : Nat} (h : i ≤ n) : List.range n = List.range i ++ (List.range (n - i)).map (· + i) := by
  have : n = i + (n - i) := by omega
  rw [this, List.range_add]
  simp [Nat.add_comm]
theorem idxV_some {q : Nat → Bool} {n i : Nat} (hi : i < n) (hq : q i = true) (h : ∀ j, j < i → q j = false) : idxV q n = i := by
  unfold idxV
  have : (List.range n).find? q = some i := by
    rw [range_split (Nat.le_of_lt hi), List.find?_append]
    rw [List.find?_eq_none.2 (fun x hx => by rw [h x (List.mem_range.1 hx)]; exact Bool.false_ne_true)]
    obtain ⟨k, hk⟩ : ∃ k, n - i = k + 1 := ⟨n - i - 1, by omega⟩
    rw [hk, List.range_succ_eq_map]
    simp [List.find?_cons, hq]
  rw [this]
theorem idxV_any {q : Nat → Bool} {n : Nat} : decide (0 ≤ idxV q n) = (List.range n).any q := by
  cases h : (List.range n).any q with
  | false =>
    rw [List.any_eq_false] at h
    rw [idxV_none (fun i hi => by simpa using h i (List.mem_range.2 hi))]
    decide
  | true =>
    rw [List.any_eq_true] at h
    unfold idxV
    cases e : (List.range n).find? q with
    | some i => simp
    | none =>
      rw [List.find?_eq_none] at e
      obtain ⟨x, h1, h2⟩ := h
      exact absurd h2 (e x h1)

def allQ (m : Nat) (g2 : Nat → List SV) (n : Nat) (get : Nat → List SV) (mk x y : Int) : Prop := Rds m g2 ∧ Rds n get ∧ smB 1000 mk ∧ smB 1000000 x ∧ smB 1000 y ∧ m ≤ 40 ∧ ∀ i, i < m → smB 1000 (rdAt g2 i).1 ∧ smB 1000 (rdAt g2 i).2.1
def getCt (k : (Nat → Bool) → Nat → SV) : Ct := fun fr args H =>
  match args with
  | [.sl lid, .fn (.func 72) [] [.sp bx 0, .sp px 0]] => (match sliceOf 4 H lid, H bx, H px with
    | some (m, g2), some (.cells 109 [.sp bid 0]), some (.cells 114 [.si .i64 x, .si .i64 y]) => (match H bid with
      | some (.cells 138 [.si .i64 mk, .si .i64 l1, .si .i64 l2, .si .i64 c1, .si .i64 c2, .sl id]) => (match sliceOf 4 H id with
        | some (n, get) => some ⟨some (allQ m g2 n get mk x y), none, k (fun i => !canV mk (x, y) (rdAt g2 i)) m, []⟩
        | none => none)
      | _ => none)
    | _, _, _ => none)
  | _ => none
theorem getCt_mono (k : (Nat → Bool) → Nat → SV) : CtMono (getCt k) := by
  intro fr args H H' out hH h
  unfold getCt at h ⊢
  split at h
  · split at h
    · rename_i e0 e1 e2
      split at h
      · rename_i e3
        split at h
        · rename_i e
          simp only [sliceOf_mono hH e0, hH _ _ e1, hH _ _ e2, hH _ _ e3, sliceOf_mono hH e]
          exact h
        · cases h
      · cases h
    · cases h
  · cases h
def getP (lid m bx bid id px n : Nat) (mk l1 l2 c1 c2 x y : Int) (r2 rd : Nat → Rd) : List (Nat × HB) :=
  [(lid, .ro 4 m fun i => rdC (r2 i)), (bx, .cells 109 [.sp 2 0]), (bid, .cells 138 (bC mk l1 l2 c1 c2 3)), (id, .ro 4 n fun i => rdC (rd i)), (px, .cells 114 [.si .i64 x, .si .i64 y])]
def getH (m n : Nat) (mk l1 l2 c1 c2 x y : Int) (r2 rd : Nat → Rd) : List (Nat × HB) :=
  [(0, .ro 4 m fun i => rdC (r2 i)), (1, .cells 109 [.sp 2 0]), (2, .cells 138 (bC mk l1 l2 c1 c2 3)), (3, .ro 4 n fun i => rdC (rd i)), (4, .cells 114 [.si .i64 x, .si .i64 y])]
theorem getWalk {C : Nat → Option Ct} {fn : Func} {c : Code} {k : (Nat → Bool) → Nat → SV} {fr : Nat} {args : List SV} {H : LH} {out : COut} (hk : ∀ q m, knSV 0 [] (k q m) = true) (ho : getCt k fr args H = some out) (hp : PreH out.pre)
    (hl : 2 ≤ fn.ntmps)
    (h : ∀ (m n : Nat) (mk l1 l2 c1 c2 x y : Int) (r2 rd : Nat → Rd) (Rv : SV → St → Prop) (Rp : List PanicEntry → St → Prop), smB 1000 mk → smB 1000000 x → smB 1000 y → m ≤ 40 → (∀ i, i < m → smB 1000 (r2 i).1 ∧ smB 1000 (r2 i).2.1) →
      (∀ v' st, SVeq v' (k (fun i => !canV mk (x, y) (r2 i)) m) → keepP st.H (getH m n mk l1 l2 c1 c2 x y r2 rd) → knSV 0 [] v' = true → Rv v' st) →
      ∀ G : Base, (∀ j, 5 ≤ j → G.ρ j = none) → exec ⟨P, T, C, G, none, fn.ntmps⟩ c (start [.sl 0, .fn (.func 72) [] [.sp 1 0, .sp 4 0]] (getH m n mk l1 l2 c1 c2 x y r2 rd) 5) (Fin ⟨P, T, C, G, none, fn.ntmps⟩ fn.results.toList Rv Rp)) :
    Walk P T C fn c H args fr out := by
  unfold getCt at ho
  split at ho
  · rename_i lid bx px
    split at ho
    · rename_i m g2 bid x y e0 e1 e2
      split at ho
      · rename_i mk l1 l2 c1 c2 id e3
        split at ho
        · rename_i n get e
          cases ho
          obtain ⟨hs2, hs, hmk, hx, hy, hm, hr⟩ : allQ m g2 n get mk x y := hp
          have hh : Hand H (getP lid m bx bid id px n mk l1 l2 c1 c2 x y (rdAt g2) (rdAt get)) := hand_mk ⟨sliceOf_piece e0 fun i hi => by rw [hs2 i hi]; rfl, e1, e3, sliceOf_piece e fun i hi => by rw [hs i hi]; rfl, e2, trivial⟩
            (by repeat' (first | exact trivial | (intro i hi; exact ⟨trivial, trivial, trivial, trivial, trivial⟩) | refine And.intro ?_ ?_ | exact (by decide : (2 : Nat) < 5) | exact (by decide : (3 : Nat) < 5))) rfl
          refine ⟨getP lid m bx bid id px n mk l1 l2 c1 c2 x y (rdAt g2) (rdAt get), [.sl 0, .fn (.func 72) [] [.sp 1 0, .sp 4 0]], _, 5, [], rfl, rfl, hl, hh, rfl, rfl, ?_⟩
          exact h m n mk l1 l2 c1 c2 x y (rdAt g2) (rdAt get) _ _ hmk hx hy hm hr (fun v' st h1 h2 h3 => ⟨.inl rfl, end_noid h1 h3 rfl h2⟩)
        · cases ho
      · cases ho
    · cases ho
  · cases ho

def c118 : Ct := getCt fun q m => .si .i64 (idxV q m)
theorem k118 {l : List (Nat × Ct)} (g0 : Good P T l) : COk P 75 c118 := by
  have g := g108 g0
  refine cok (C := tabC _) g.ok Tryd.func75 (c := code Tryd.f75) rfl fun fr args H out h hp => getWalk (fun _ _ => rfl) h hp (Nat.le_of_ble_eq_true rfl) fun m n mk l1 l2 c1 c2 x y r2 rd Rv Rp hmk hx hy hm hr hR G hG => ?_
  refine loop_ok (g.ok _ _ _) (fun z : {i : Nat // i ≤ m ∧ ∀ j, j < i → (!canV mk (x, y) (r2 j)) = false} => ⟨[(0, ⟨[], .sl 0⟩), (1, ⟨[], .fn (.func 72) [] [.sp 1 0, .sp 4 0]⟩), (7, ⟨[], .si .i64 m⟩), (8, ⟨[], .si .i64 z.1⟩)], [], getH m n mk l1 l2 c1 c2 x y r2 rd, 5, []⟩)
    (fun z => m - z.1) (fun _ j hj => hG j hj) ⟨0, Nat.zero_le _, fun j hj => by omega⟩ ?_ ?_
  · refine ⟨?_, ?_, rfl, rfl, rfl⟩ <;> repeat' (first | exact trivial | exact rfl | (intro i hi; exact rfl) | refine And.intro ?_ ?_)
  · rintro ⟨i, hi, hall⟩
    refine Br.mk (fun h => ?_) (fun h => ?_)
    · have h : (i : Int) < (m : Int) := of_decide_eq_true h
      have hri := hr i (by omega)
      refine Chk.mk (show (0 : Int) ≤ (i : Int) ∧ (i : Int) < (m : Int) from ⟨by omega, h⟩) (Chk.mk ⟨rds_rd _ _, hmk, hx, hy, hri.1, hri.2⟩ ?_)
      refine Br.mk (fun h2 => ?_) (fun h2 => ?_)
      · have h2 : (!canV mk (x, y) (r2 i)) = true := h2
        have e := idxV_some (q := fun i => !canV mk (x, y) (r2 i)) (n := m) (by omega) h2 hall
        refine hR _ _ ⟨rfl, e.symm⟩ ?_ rfl
        repeat' (first | exact trivial | exact rfl | refine And.intro ?_ ?_)
      · have h2 : (!canV mk (x, y) (r2 i)) = false := h2
        refine Chk.mk (show InK .i64 ((i : Int) + 1) from ⟨by omega, by omega⟩) ⟨⟨i + 1, by omega, fun j hj => ?_⟩, ?_, by show m - (i + 1) < m - i; omega⟩
        · rcases Nat.lt_or_eq_of_le (show j ≤ i by omega) with h | h
          · exact hall j h
          · subst h; exact h2
        · refine ⟨?_, ?_, rfl, rfl, rfl⟩ <;> repeat' (first | exact trivial | exact rfl | (intro i hi; exact rfl) | refine And.intro ?_ ?_)
    · have h : ¬ (i : Int) < (m : Int) := of_decide_eq_false h
      have e := idxV_none (q := fun i => !canV mk (x, y) (r2 i)) (n := m) (fun j hj => hall j (by omega))
      refine hR _ _ ⟨rfl, e.symm⟩ ?_ rfl
      repeat' (first | exact trivial | exact rfl | refine And.intro ?_ ?_)
theorem g118 {l : List (Nat × Ct)} (g : Good P T l) : Good P T ((75, c118) :: l) := g.add (k118 g) (getCt_mono _) (body_of Tryd.func75 (c := code Tryd.f75) rfl (by decide))
def c107 : Ct := getCt fun q m => .sb ((List.range m).any q)
theorem k107 {l : List (Nat × Ct)} (g0 : Good P T l) : COk P 71 c107 := by
  have g := g118 g0
  refine cok (C := tabC _) g.ok Tryd.func71 (c := code Tryd.f71) rfl fun fr args H out h hp => getWalk (fun _ _ => rfl) h hp (Nat.le_of_ble_eq_true rfl) fun m n mk l1 l2 c1 c2 x y r2 rd Rv Rp hmk hx hy hm hr hR G hG => ?_
  refine Chk.mk ⟨rds_rd _ _, rds_rd _ _, hmk, hx, hy, hm, hr⟩ (hR _ _ idxV_any ?_ rfl)
  repeat' (first | exact trivial | exact rfl | refine And.intro ?_ ?_)
theorem g107 {l : List (Nat × Ct)} (g : Good P T l) : Good P T ((71, c107) :: l) := g.add (k107 g) (getCt_mono _) (body_of Tryd.func71 (c := code Tryd.f71) rfl (by decide))
end Go.X.W
end

section
set_option linter.unusedVariables false
set_option linter.unusedSimpArgs false
set_option linter.unusedSectionVars false
/- Warm: all pairs, plainly; pairs as keys of maps. -/
set_option linter.unusedVariables false
set_option linter.unusedSimpArgs false
set_option maxRecDepth 10000
set_option maxHeartbeats 1000000
namespace Go.X.W
open Go Go.Proofs Go.X

abbrev Pr := Int × Int
def row (q : Pr → Bool) (n c1 a : Int) : List Pr := ((iota c1 (a - 1)).map fun a => (n, a)).filter q
/-- The pairs that come before a row. -/
def rows (q : Pr → Bool) (l1 c1 c2 n : Int) : List Pr := (iota l1 (n - 1)).flatMap fun n => row q n c1 (c2 + 1)
def okP (mk : Int) (rs : List Rd) (p : Pr) : Bool := rs.all (canV mk p)
/-- All pairs. -/
def pairsV (B : Blk) : List Pr := rows (okP B.mark B.rs) B.l1 B.c1 B.c2 (B.l2 + 1)

theorem row_first (q : Pr → Bool) (n c1 : Int) : row q n c1 c1 = [] := by
  unfold row
  rw [iota_nil (by omega)]
  rfl
theorem row_next {q : Pr → Bool} {n c1 a : Int} (h : c1 ≤ a) : row q n c1 (a + 1) = row q n c1 a ++ (if q (n, a) = true then [(n, a)] else []) := by
  unfold row
  rw [show a + 1 - 1 = a by omega, iota_snoc h, List.map_append, List.filter_append]
  congr 1
  simp only [List.map_cons, List.map_nil, List.filter_cons, List.filter_nil]
theorem rows_first (q : Pr → Bool) (l1 c1 c2 : Int) : rows q l1 c1 c2 l1 = [] := by
  unfold rows
  rw [iota_nil (by omega)]
  rfl
theorem rows_next {q : Pr → Bool} {l1 c1 c2 n : Int} (h : l1 ≤ n) : rows q l1 c1 c2 (n + 1) = rows q l1 c1 c2 n ++ row q n c1 (c2 + 1) := by
  unfold rows
  rw [show n + 1 - 1 = n by omega, iota_snoc h, List.flatMap_append]
  simp
theorem row_mem {q : Pr → Bool} {n c1 a : Int} {p : Pr} : p ∈ row q n c1 a ↔ (p.1 = n ∧ c1 ≤ p.2 ∧ p.2 < a) ∧ q p = true := by
  unfold row
  rw [List.mem_filter, List.mem_map]
  constructor
  · rintro ⟨⟨x, hx, rfl⟩, h2⟩
    have := mem_iota.1 hx
    exact ⟨⟨rfl, this.1, by show x < a; omega⟩, h2⟩
  · rintro ⟨⟨h1, h2, h3⟩, h4⟩
    exact ⟨⟨p.2, mem_iota.2 ⟨h2, by omega⟩, by rw [← h1]⟩, h4⟩
theorem rows_mem {q : Pr → Bool} {l1 c1 c2 n : Int} {p : Pr} : p ∈ rows q l1 c1 c2 n ↔ (l1 ≤ p.1 ∧ p.1 < n ∧ c1 ≤ p.2 ∧ p.2 ≤ c2) ∧ q p = true := by
  unfold rows
  rw [List.mem_flatMap]
  constructor
  · rintro ⟨m, hm, h⟩
    have h1 := mem_iota.1 hm
    obtain ⟨⟨h2, h3, h4⟩, h5⟩ := row_mem.1 h
    exact ⟨⟨by omega, by omega, h3, by omega⟩, h5⟩
  · rintro ⟨⟨h1, h2, h3, h4⟩, h5⟩
    exact ⟨p.1, mem_iota.2 ⟨h1, by omega⟩, row_mem.2 ⟨⟨rfl, h3, by omega⟩, h5⟩⟩
theorem pairs_mem {B : Blk} {p : Pr} : p ∈ pairsV B ↔ (B.l1 ≤ p.1 ∧ p.1 ≤ B.l2 ∧ B.c1 ≤ p.2 ∧ p.2 ≤ B.c2) ∧ okP B.mark B.rs p = true := by
  unfold pairsV
  rw [rows_mem]
  constructor
  · rintro ⟨⟨h1, h2, h3, h4⟩, h5⟩; exact ⟨⟨h1, by omega, h3, h4⟩, h5⟩
  · rintro ⟨⟨h1, h2, h3, h4⟩, h5⟩; exact ⟨⟨h1, by omega, h3, h4⟩, h5⟩
theorem nodup_map {α β : Type} {f : α → β} {l : List α} (h : l.Nodup) (hf : ∀ x y, f x = f y → x = y) : (l.map f).Nodup := by
  unfold List.Nodup
  rw [List.pairwise_map]
  exact List.Pairwise.imp (fun hne e => hne (hf _ _ e)) h
theorem iota_nodup (a b : Int) : (iota a b).Nodup := by
  unfold iota
  refine nodup_map List.nodup_range fun x y h => ?_
  have h : a + (x : Int) = a + (y : Int) := h
  omega
theorem row_nodup (q : Pr → Bool) (n c1 a : Int) : (row q n c1 a).Nodup := by
  unfold row
  exact List.Pairwise.filter _ (nodup_map (iota_nodup _ _) fun x y h => (Prod.mk.inj h).2)
theorem rows_nodup (q : Pr → Bool) (l1 c1 c2 : Int) : ∀ (k : Nat), (rows q l1 c1 c2 (l1 + k)).Nodup
  | 0 => by rw [Int.natCast_zero, Int.add_zero, rows_first]; exact List.nodup_nil
  | k + 1 => by
    rw [show l1 + ((k + 1 : Nat) : Int) = l1 + k + 1 by push_cast; omega, rows_next (by omega), List.nodup_append]
    refine ⟨rows_nodup q l1 c1 c2 k, row_nodup _ _ _ _, fun x hx y hy h => ?_⟩
    subst h
    have h1 := (rows_mem.1 hx).1
    have h2 := (row_mem.1 hy).1
    omega
theorem pairs_nodup (B : Blk) : (pairsV B).Nodup := by
  unfold pairsV
  rcases Int.le_total B.l1 (B.l2 + 1) with h | h
  · obtain ⟨k, hk⟩ : ∃ k : Nat, B.l2 + 1 = B.l1 + k := ⟨(B.l2 + 1 - B.l1).toNat, by omega⟩
    rw [hk]
    exact rows_nodup _ _ _ _ _
  · unfold rows
    rw [iota_nil (by omega)]
    exact List.nodup_nil

/-! ### Pairs as keys -/
def encP (p : Pr) : SV := .agg [.si .i64 p.1, .si .i64 p.2]
def encB (b : Bool) : SV := .sb b
theorem encP_key : KeyT T 114 encP where
  ty := ⟨_, rfl⟩
  chk := fun a => by kernel_rfl
  eq := fun a b => by
    have h : eqC T 9 114 (encP a) (encP b) = some (decide (a.1 = b.1) && (decide (a.2 = b.2) && true)) := by kernel_rfl
    rw [h]
    congr 1
    rw [Bool.eq_iff_iff]
    obtain ⟨a1, a2⟩ := a
    obtain ⟨b1, b2⟩ := b
    simp
  cl := fun a => ⟨.agg #[.int .i64 a.1, .int .i64 a.2], rfl⟩
  same := fun a => by
    have : cv (encP a) = .agg #[.int .i64 a.1, .int .i64 a.2] := rfl
    rw [this]
    simp [Instr.sameBits]
theorem encB_cl : Closed encB := fun a => ⟨.bool a, rfl⟩
/-- What is told, entry by entry. -/
def tellM (l : List Pr) : List (Pr × Bool) := l.foldl (fun m p => updA m p true) []
theorem tellM_snoc (l : List Pr) (p : Pr) : tellM (l ++ [p]) = updA (tellM l) p true := by
  simp [tellM, List.foldl_append]
theorem updA_new {κ ν : Type} [DecidableEq κ] : ∀ {m : List (κ × ν)} {k : κ} {v : ν}, k ∉ m.map (·.1) → updA m k v = m ++ [(k, v)]
  | [], _, _, _ => rfl
  | p :: r, k, v, h => by
    simp only [List.map_cons, List.mem_cons, not_or] at h
    rw [updA, if_neg (Ne.symm h.1), updA_new h.2]
    rfl
theorem tellM_eq {l : List Pr} (h : l.Nodup) : tellM l = l.map fun p => (p, true) := by
  have key : ∀ (l : List Pr) (m : List (Pr × Bool)), (m.map (·.1) ++ l).Nodup → l.foldl (fun m p => updA m p true) m = m ++ l.map fun p => (p, true) := by
    intro l
    induction l with
    | nil => intro m _; simp
    | cons x r ih =>
      intro m hm
      have hx : x ∉ m.map (·.1) := by
        intro hx
        have := (List.nodup_append.1 hm).2.2 x hx x List.mem_cons_self
        exact this rfl
      rw [List.foldl_cons, updA_new hx, ih _ (by simpa [List.append_assoc] using hm)]
      simp
  have := key l [] (by simpa using h)
  simpa [tellM] using this
end Go.X.W
end

section
set_option linter.unusedVariables false
set_option linter.unusedSimpArgs false
set_option linter.unusedSectionVars false
/- Warm: all pairs, as the program tells them. -/
set_option linter.unusedVariables false
set_option linter.unusedSimpArgs false
set_option maxRecDepth 10000
set_option maxHeartbeats 2000000
namespace Go.X.W
open Go Go.Proofs Go.X

theorem rdOk_b {r : Rd} (h : rdOk r = true) : -100 ≤ r.1 ∧ r.1 ≤ r.2.1 ∧ r.2.1 ≤ 100 ∧ r.2.1 - r.1 ≤ 4 ∧ -30000 ≤ r.2.2.1 ∧ r.2.2.1 ≤ r.2.2.2 ∧ r.2.2.2 ≤ 30000 := by
  simp only [rdOk, spanB, Bool.and_eq_true, decide_eq_true_eq] at h
  omega
theorem blk_b {B : Blk} (h : blkOk B = true) : (1 ≤ B.mark ∧ B.mark ≤ 100) ∧ (-1000 ≤ B.l1 ∧ B.l1 ≤ B.l2 ∧ B.l2 ≤ 1000 ∧ B.l2 - B.l1 ≤ 24) ∧ (0 ≤ B.c1 ∧ B.c1 ≤ B.c2 ∧ B.c2 ≤ 20 ∧ B.c2 - B.c1 ≤ 3) ∧ B.rs.length ≤ 5 ∧ ∀ r ∈ B.rs, rdOk r = true := by
  simp only [blkOk, headOk, inB, spanB, Bool.and_eq_true, decide_eq_true_eq, List.all_eq_true] at h
  obtain ⟨⟨⟨⟨h1, h2⟩, h3⟩, h4⟩, h5⟩ := h
  exact ⟨h1, by omega, by omega, by omega, h5⟩
theorem okP_any {n : Nat} {mk x y : Int} {rd : Nat → Rd} : (List.range n).any (fun i => !canV mk (x, y) (rd i)) = !okP mk ((List.range n).map rd) (x, y) := by
  unfold okP
  rw [List.all_map, List.not_all_eq_any_not]
  rfl

/-! ### pairs -/
def c85 : Ct := fun fr args H => match args with
  | [.sp bid 0] => (match H bid with
    | some (.cells 138 [.si .i64 mk, .si .i64 l1, .si .i64 l2, .si .i64 c1, .si .i64 c2, .sl id]) => (match sliceOf 4 H id with
      | some (n, get) => some ⟨some (Rds n get), none, .fn (.func 69) [] [.sp fr 0], [(fr, .cells 109 [.sp bid 0])]⟩
      | none => none)
    | _ => none)
  | _ => none
theorem c85_mono : CtMono c85 := by
  intro fr args H H' out hH h
  unfold c85 at h ⊢
  split at h
  · split at h
    · rename_i e1
      rw [hH _ _ e1]
      split at h
      · rename_i e
        simp only [sliceOf_mono hH e]
        exact h
      · cases h
    · cases h
  · cases h
theorem k85 {l : List (Nat × Ct)} (g : Good P T l) : COk P 62 c85 := by
  refine cok (C := tabC _) g.ok Tryd.func62 (c := code Tryd.f62) rfl fun fr args H out h hp => ?_
  unfold c85 at h
  split at h
  · rename_i bid
    split at h
    · rename_i mk l1 l2 c1 c2 id e1
      split at h
      · rename_i n get e
        cases h
        have hh := bkHand e1 e hp
        refine ⟨bkP bid id n mk l1 l2 c1 c2 (rdAt get), [.sp 0 0], bkH n mk l1 l2 c1 c2 (rdAt get), 2, [2], rfl, rfl, Nat.le_of_ble_eq_true rfl, hh, rfl, rfl, fun G hG => ?_⟩
        exact ⟨.inl rfl, ⟨rfl, rfl, ⟨rfl, ⟨⟨rfl, ⟨rfl, rfl⟩, trivial⟩, rfl⟩, trivial⟩, ⟨⟨rfl, ⟨rfl, rfl⟩, ⟨rfl, rfl⟩, ⟨rfl, rfl⟩, ⟨rfl, rfl⟩, ⟨rfl, rfl⟩, rfl, trivial⟩, trivial, trivial⟩, rfl, rfl⟩⟩
      · cases h
    · cases h
  · cases h
theorem g85 {l : List (Nat × Ct)} (g : Good P T l) : Good P T ((62, c85) :: l) := g.add (k85 g) c85_mono (body_of Tryd.func62 (c := code Tryd.f62) rfl (by decide))
theorem b106 : Body P 69 := body_of Tryd.func69 (c := code Tryd.f69) rfl (by decide)
theorem tellM_len (B : Blk) : (tellM (pairsV B)).length = (pairsV B).length := by rw [tellM_eq (pairs_nodup B), List.length_map]

/-! ### told -/
def c67 : Ct := fun fr args H =>
  match args with
  | [.sp bid 0] => (match H bid with
    | some (.cells 138 [.si .i64 mk, .si .i64 l1, .si .i64 l2, .si .i64 c1, .si .i64 c2, .sl id]) => (match sliceOf 4 H id with
      | some (n, get) => some ⟨some (Rds n get ∧ blkOk ⟨mk, l1, l2, c1, c2, rdL n get⟩ = true), some (!decide ((0 : Int) < ((pairsV ⟨mk, l1, l2, c1, c2, rdL n get⟩).length : Int)), refP 10), .sm fr,
          [(fr, .mp (encM encP encB (tellM (pairsV ⟨mk, l1, l2, c1, c2, rdL n get⟩))))]⟩
      | none => none)
    | _ => none)
  | _ => none
theorem c67_mono : CtMono c67 := by
  intro fr args H H' out hH h
  unfold c67 at h ⊢
  split at h
  · split at h
    · rename_i e1
      rw [hH _ _ e1]
      split at h
      · rename_i e
        simp only [sliceOf_mono hH e]
        exact h
      · cases h
    · cases h
  · cases h
theorem k67 : COk P 50 c67 := by
  have g := g85 (g74 (g107 (g95 good0)))
  refine cokM (C := tabC _) g.ok Tryd.func50 (c := code Tryd.f50) rfl fun fr args H out h hp => ?_
  unfold c67 at h
  split at h
  · rename_i bid
    split at h
    · rename_i mk l1 l2 c1 c2 id e1
      split at h
      · rename_i n get e
        cases h
        obtain ⟨hs, hok⟩ : Rds n get ∧ blkOk ⟨mk, l1, l2, c1, c2, rdL n get⟩ = true := hp
        have hh := bkHand e1 e hs
        refine ⟨bkP bid id n mk l1 l2 c1 c2 (rdAt get), [.sp 0 0], bkH n mk l1 l2 c1 c2 (rdAt get), 2, [2], rfl, rfl, Nat.le_of_ble_eq_true rfl, hh, rfl, rfl, fun G hG => ?_⟩
        rw [show rdL n get = (List.range n).map (rdAt get) from rfl] at hok ⊢
        generalize rdAt get = rd at hok ⊢
        obtain ⟨hmk, hl, hc, hn, hr⟩ := blk_b hok
        simp only at hmk hl hc
        have hn : n ≤ 5 := by simpa using hn
        have hr : ∀ i, i < n → rdOk (rd i) = true := fun i hi => hr _ (List.mem_map.2 ⟨i, List.mem_range.2 hi, rfl⟩)
        have hr' : ∀ i, i < n → smB 1000 (rd i).1 ∧ smB 1000 (rd i).2.1 := fun i hi => by have := rdOk_b (hr i hi); unfold smB; omega
        refine fb_makeMap (g.ok _ _ _) cont_std rfl rfl rfl rfl rfl ?_
        refine Chk.mk (rds_rd _ _) ?_
        refine rangeFunc_ok (g.ok _ _ _) rfl rfl rfl b106 ?_
        intro fn
        refine callS_exec g.ok Tryd.func69 (c := code Tryd.f69) rfl (Nat.le_of_ble_eq_true rfl) fun G2 hG2 => ?_
        refine Chk.mk ⟨rds_rd _ _, by omega⟩ ?_
        obtain ⟨q, hq⟩ : ∃ q : Pr → Bool, okP mk ((List.range n).map rd) = q := ⟨_, rfl⟩
        refine loop_okR (g.ok _ _ _) 10 (fun z : {t : Int // l1 ≤ t ∧ t ≤ l2 + 1} => ⟨[(0, ⟨[], .fy 9⟩), (1, ⟨[], .sp 4 0⟩), (3, ⟨[], .sl 10⟩), (4, ⟨[], .si .i64 z.1⟩)], [],
          [(9, .loop [(3, .sp 3 0)] Tryd.f50.ntmps fn [8] (rfA (code Tryd.f50)) (rfB (code Tryd.f50)) 8 .ready none), (8, .dfr), (10, .ro 4 n fun i => rdC (rd i)), (4, .cells 109 [.sp 0 0]), (3, .cells 111 [.sm 2]), (2, .mp (encM encP encB (tellM (rows q l1 c1 c2 z.1))))] ++ bkH n mk l1 l2 c1 c2 rd, 14, []⟩)
          (fun z => (l2 + 1 - z.1).toNat) hG2 ⟨l1, by omega, by omega⟩ (fun j => j) ?_ ?_
        · refine ⟨?_, ?_, rfl, rfl, rfl, rfl, trivial⟩
          · repeat' (first | exact trivial | exact rfl | refine And.intro ?_ ?_)
          · repeat' (first | exact trivial | exact rfl | (intro i hi; exact ⟨rfl, rfl⟩) | refine allV_find ?_ | refine And.intro ?_ ?_)
            · show List.Perm [] (encM encP encB (tellM (rows q l1 c1 c2 l1)))
              rw [rows_first]
              exact List.Perm.refl _
        · rintro ⟨t, ht1, ht2⟩
          refine Br.mk (fun h => ?_) (fun h => ?_)
          · replace h : t ≤ l2 := of_decide_eq_true h
            refine loop_okR (g.ok _ _ _) 10 (fun z : {a : Int // c1 ≤ a ∧ a ≤ c2 + 1} => ⟨[(0, ⟨[], .fy 9⟩), (1, ⟨[], .sp 4 0⟩), (3, ⟨[], .sl 10⟩), (4, ⟨[], .si .i64 t⟩), (5, ⟨[], .si .i64 z.1⟩)], [],
              [(9, .loop [(3, .sp 3 0)] Tryd.f50.ntmps fn [8] (rfA (code Tryd.f50)) (rfB (code Tryd.f50)) 8 .ready none), (8, .dfr), (10, .ro 4 n fun i => rdC (rd i)), (4, .cells 109 [.sp 0 0]), (3, .cells 111 [.sm 2]), (2, .mp (encM encP encB (tellM (rows q l1 c1 c2 t ++ row q t c1 z.1))))] ++ bkH n mk l1 l2 c1 c2 rd, 14, []⟩)
              (fun z => (c2 + 1 - z.1).toNat) hG2 ⟨c1, by omega, by omega⟩ (fun j => j) ?_ ?_
            · refine ⟨?_, ?_, rfl, rfl, rfl, rfl, trivial⟩
              · repeat' (first | exact trivial | exact rfl | refine And.intro ?_ ?_)
              · repeat' (first | exact trivial | exact rfl | (intro i hi; exact ⟨rfl, rfl⟩) | refine allV_find ?_ | refine And.intro ?_ ?_)
                · show List.Perm (encM encP encB (tellM (rows q l1 c1 c2 t))) (encM encP encB (tellM (rows q l1 c1 c2 t ++ row q t c1 c1)))
                  rw [row_first, List.append_nil]
            · rintro ⟨a, ha1, ha2⟩
              refine Br.mk (fun h2 => ?_) (fun h2 => ?_)
              · replace h2 : a ≤ c2 := of_decide_eq_true h2
                refine Chk.mk ⟨rds_rd _ _, rds_rd _ _, ⟨by omega, by omega⟩, ⟨(show -1000000 ≤ t by omega), (show t ≤ 1000000 by omega)⟩, ⟨(show -1000 ≤ a by omega), (show a ≤ 1000 by omega)⟩, by omega, hr'⟩ ?_
                have hany := okP_any (n := n) (mk := mk) (x := t) (y := a) (rd := rd)
                rw [hq] at hany
                have hrn := row_next (q := q) (n := t) (c1 := c1) (a := a) ha1
                cases hqa : q (t, a) with
                | false =>
                  rw [hqa] at hany hrn
                  refine fb_skip 48 true (g.ok _ _ _) cont_std rfl rfl rfl rfl rfl rfl rfl trivial (by show (!(List.range n).any (fun i => !canV mk (t, a) (rd i))) = !true; rw [hany]; rfl) ?_
                  refine Br.mk (fun h3 => ?_) (fun _ => ?_)
                  · exfalso
                    have h3 : ((!(List.range n).any (fun i => !canV mk (t, a) (rd i))) && _) = true := h3
                    rw [hany] at h3
                    simp at h3
                  refine Chk.mk (show InK .i64 (a + 1) from ⟨by omega, by omega⟩) ⟨⟨a + 1, by omega, by omega⟩, (fun j => j), ?_, (by show (c2 + 1 - (a + 1)).toNat < (c2 + 1 - a).toNat; omega)⟩
                  refine ⟨?_, ?_, rfl, rfl, rfl, rfl, trivial⟩
                  · repeat' (first | exact trivial | exact rfl | refine And.intro ?_ ?_)
                  · repeat' (first | exact trivial | exact rfl | (intro i hi; exact ⟨rfl, rfl⟩) | refine allV_find ?_ | refine And.intro ?_ ?_)
                    · show List.Perm (encM encP encB (tellM (rows q l1 c1 c2 t ++ row q t c1 a))) (encM encP encB (tellM (rows q l1 c1 c2 t ++ row q t c1 (a + 1))))
                      rw [hrn]
                      simp
                | true =>
                  rw [hqa] at hany hrn
                  refine fb_run rfl rfl ⟨trivial, rfl, (by show (!(List.range n).any (fun i => !canV mk (t, a) (rd i))) = true; rw [hany]; rfl)⟩ ?_
                  refine fb_yield 9 g.ok (g.ok _ _ _) cont_std rfl rfl rfl rfl rfl rfl rfl rfl rfl (by decide) ?_
                  intro G4 r hG4
                  refine fb_update encP encB (tellM (rows q l1 c1 c2 t ++ row q t c1 a)) (t, a) true (tellM (rows q l1 c1 c2 t ++ row q t c1 (a + 1))) (by rw [hrn, if_pos rfl, ← List.append_assoc, tellM_snoc]) 2 (g.ok _ _ _) cont_std rfl (.inl rfl) rfl rfl rfl rfl encP_key encB_cl rfl rfl rfl rfl ?_
                  intro _
                  refine Br.mk (fun h3 => ?_) (fun _ => ?_)
                  · exfalso
                    have h3 : ((!(List.range n).any (fun i => !canV mk (t, a) (rd i))) && false) = true := h3
                    simp at h3
                  refine Chk.mk (show InK .i64 (a + 1) from ⟨by omega, by omega⟩) ⟨⟨a + 1, by omega, by omega⟩, (fun j => j), ?_, (by show (c2 + 1 - (a + 1)).toNat < (c2 + 1 - a).toNat; omega)⟩
                  refine ⟨?_, ?_, rfl, rfl, rfl, rfl, trivial⟩
                  · repeat' (first | exact trivial | exact rfl | refine And.intro ?_ ?_)
                  · repeat' (first | exact trivial | exact rfl | (intro i hi; exact ⟨rfl, rfl⟩) | refine allV_find ?_ | refine And.intro ?_ ?_)
                    · exact List.Perm.refl _
              · replace h2 : ¬ a ≤ c2 := of_decide_eq_false h2
                obtain rfl : a = c2 + 1 := by omega
                refine Chk.mk (show InK .i64 (t + 1) from ⟨by omega, by omega⟩) ⟨⟨t + 1, by omega, by omega⟩, (fun j => j), ?_, (by show (l2 + 1 - (t + 1)).toNat < (l2 + 1 - t).toNat; omega)⟩
                refine ⟨?_, ?_, rfl, rfl, rfl, rfl, trivial⟩
                · repeat' (first | exact trivial | exact rfl | refine And.intro ?_ ?_)
                · repeat' (first | exact trivial | exact rfl | (intro i hi; exact ⟨rfl, rfl⟩) | refine allV_find ?_ | refine And.intro ?_ ?_)
                  · show List.Perm (encM encP encB (tellM (rows q l1 c1 c2 t ++ row q t c1 (c2 + 1)))) (encM encP encB (tellM (rows q l1 c1 c2 (t + 1))))
                    rw [rows_next ht1]
          · replace h : ¬ t ≤ l2 := of_decide_eq_false h
            obtain rfl : t = l2 + 1 := by omega
            have hpv : pairsV ⟨mk, l1, l2, c1, c2, (List.range n).map rd⟩ = rows q l1 c1 c2 (l2 + 1) := by rw [← hq]; rfl
            have hlen := tellM_len ⟨mk, l1, l2, c1, c2, (List.range n).map rd⟩
            rw [hpv] at hlen ⊢
            refine fb_mapLen encP encB (tellM (rows q l1 c1 c2 (l2 + 1))) 2 (g.ok _ _ _) cont_std rfl rfl rfl rfl rfl rfl rfl rfl rfl rfl encP_key encB_cl rfl rfl ?_
            rw [hlen]
            refine Br.mk (fun h => ?_) (fun h => ?_)
            · have h : (!decide ((0 : Int) < ((rows q l1 c1 c2 (l2 + 1)).length : Int))) = true := h
              exact ⟨by rw [h], ⟨rfl, ⟨rfl, rfl⟩, ⟨rfl, rfl⟩, ⟨rfl, rfl⟩, ⟨rfl, rfl⟩, ⟨rfl, rfl⟩, rfl, trivial⟩, trivial, trivial⟩
            · have h : (!decide ((0 : Int) < ((rows q l1 c1 c2 (l2 + 1)).length : Int))) = false := h
              exact ⟨.inr ⟨_, by rw [h]⟩, ⟨rfl, rfl, ⟨rfl, List.Perm.refl _, trivial⟩, ⟨⟨rfl, ⟨rfl, rfl⟩, ⟨rfl, rfl⟩, ⟨rfl, rfl⟩, ⟨rfl, rfl⟩, ⟨rfl, rfl⟩, rfl, trivial⟩, trivial, trivial⟩, rfl, rfl⟩⟩
      · cases h
    · cases h
  · cases h
theorem g67 {l : List (Nat × Ct)} (g : Good P T l) : Good P T ((50, c67) :: l) := g.add k67 c67_mono (body_of Tryd.func50 (c := code Tryd.f50) rfl (by decide))
end Go.X.W
end

section
set_option linter.unusedVariables false
set_option linter.unusedSimpArgs false
set_option linter.unusedSectionVars false
/- Warm: the ends of numbers; closures that are asked for numbers. -/
set_option linter.unusedVariables false
set_option linter.unusedSimpArgs false
set_option maxRecDepth 10000
set_option maxHeartbeats 2000000
namespace Go.X.W
open Go Go.Proofs Go.X

/-! ### with, one -/
end Go.X.W
end

section
set_option linter.unusedVariables false
set_option linter.unusedSimpArgs false
set_option linter.unusedSectionVars false
/- Warm: the span of the numbers that a closure yields of all pairs: lengths, coefficients. -/
set_option linter.unusedVariables false
set_option linter.unusedSimpArgs false
set_option maxRecDepth 10000
set_option maxHeartbeats 4000000
namespace Go.X.W
open Go Go.Proofs Go.X

end Go.X.W
end

section
set_option linter.unusedVariables false
set_option linter.unusedSimpArgs false
set_option linter.unusedSectionVars false
/- Warm: the span of coefficients. -/
set_option linter.unusedVariables false
set_option linter.unusedSimpArgs false
set_option maxRecDepth 10000
set_option maxHeartbeats 4000000
namespace Go.X.W
open Go Go.Proofs Go.X

end Go.X.W
end

section
set_option linter.unusedVariables false
set_option linter.unusedSimpArgs false
set_option linter.unusedSectionVars false
/- Warm: the span of how warm a block was at a reading. -/
set_option linter.unusedVariables false
set_option linter.unusedSimpArgs false
set_option maxRecDepth 10000
set_option maxHeartbeats 4000000
namespace Go.X.W
open Go Go.Proofs Go.X

end Go.X.W
end

section
set_option linter.unusedVariables false
set_option linter.unusedSimpArgs false
set_option linter.unusedSectionVars false
/- Warm: the span of what a block will show. -/
set_option linter.unusedVariables false
set_option linter.unusedSimpArgs false
set_option maxRecDepth 10000
set_option maxHeartbeats 4000000
namespace Go.X.W
open Go Go.Proofs Go.X

end Go.X.W
end

section
set_option linter.unusedVariables false
set_option linter.unusedSimpArgs false
set_option linter.unusedSectionVars false
/- Warm: Length, Coeff. -/
set_option linter.unusedVariables false
set_option linter.unusedSimpArgs false
set_option maxRecDepth 10000
set_option maxHeartbeats 4000000
namespace Go.X.W
open Go Go.Proofs Go.X

/-- The error of what is told of all pairs; 0: none. -/
def tellE (B : Blk) (o : Int) (is : Bool) : Int := if errV B o is = 0 then (if (pairsV B).length = 0 then 10 else 0) else errV B o is
end Go.X.W
end

section
set_option linter.unusedVariables false
set_option linter.unusedSimpArgs false
set_option linter.unusedSectionVars false
/- Warm: Count. -/
set_option linter.unusedVariables false
set_option linter.unusedSimpArgs false
set_option maxRecDepth 10000
set_option maxHeartbeats 4000000
namespace Go.X.W
open Go Go.Proofs Go.X

end Go.X.W
end

section
set_option linter.unusedVariables false
set_option linter.unusedSimpArgs false
set_option linter.unusedSectionVars false
/- Warm: Room. -/
set_option linter.unusedVariables false
set_option linter.unusedSimpArgs false
set_option maxRecDepth 10000
set_option maxHeartbeats 4000000
namespace Go.X.W
open Go Go.Proofs Go.X

/-- Colder by so much no pair is shorter by more than is allowed. -/
def coldB (mk off : Int) (l : List Pr) (m : Nat) : Bool := l.all fun p => decide (-off ≤ growV mk p.2 (-(m : Int)))
def downTo (q : Nat → Bool) : Nat → Nat
  | 0 => 0
  | n + 1 => if q (n + 1) = true then n + 1 else downTo q n
theorem downTo_eq {q : Nat → Bool} {m : Nat} : ∀ {n : Nat}, m ≤ n → (m = 0 ∨ q m = true) → (∀ k, m < k → k ≤ n → q k = false) → downTo q n = m
  | 0, h, _, _ => by simp only [downTo]; omega
  | n + 1, h, h1, h2 => by
    simp only [downTo]
    by_cases e : m = n + 1
    · subst e
      rcases h1 with h1 | h1
      · omega
      · rw [if_pos h1]
    · rw [h2 (n + 1) (by omega) (Nat.le_refl _), if_neg Bool.false_ne_true]
      exact downTo_eq (by omega) h1 fun k k1 k2 => h2 k k1 (by omega)
def roomV (B : Blk) (off : Int) : Int := (downTo (coldB B.mark off (pairsV B)) 100 : Nat)
theorem growV_anti {mk a : Int} (h1 : 0 ≤ mk) (h2 : 0 ≤ a) {s t : Int} (h : s ≤ t) : growV mk a s ≤ growV mk a t := by
  unfold growV
  have : mk * a * s ≤ mk * a * t := Int.mul_le_mul_of_nonneg_left h (Int.mul_nonneg h1 h2)
  omega
theorem coldB_less {mk off : Int} {l : List Pr} (h1 : 0 ≤ mk) (h2 : ∀ p ∈ l, 0 ≤ p.2) {m k : Nat} (h : m ≤ k) (hc : coldB mk off l k = true) : coldB mk off l m = true := by
  unfold coldB at *
  rw [List.all_eq_true] at *
  intro p hp
  have := hc p hp
  simp only [decide_eq_true_eq] at *
  have := growV_anti h1 (h2 p hp) (show -(k : Int) ≤ -(m : Int) by omega)
  omega
theorem coldB_zero {mk off : Int} {l : List Pr} (h : 0 ≤ off) : coldB mk off l 0 = true := by
  unfold coldB
  rw [List.all_eq_true]
  intro p hp
  simp only [decide_eq_true_eq, growV]
  simp
  omega
theorem coldB_snoc {mk off : Int} {l : List Pr} {p : Pr} {m : Nat} : coldB mk off (l ++ [p]) m = (coldB mk off l m && decide (-off ≤ growV mk p.2 (-(m : Int)))) := by
  simp [coldB, List.all_append]
theorem coldB_perm {mk off : Int} {l l' : List Pr} (h : l.Perm l') (m : Nat) : coldB mk off l m = coldB mk off l' m := by
  unfold coldB
  rw [Bool.eq_iff_iff, List.all_eq_true, List.all_eq_true]
  exact ⟨fun hl p hp => hl p (h.mem_iff.2 hp), fun hl p hp => hl p (h.mem_iff.1 hp)⟩

def roomE (B : Blk) (off : Int) : Int × Int := if tellE B 0 (inB off 0 30000) = 0 then (roomV B off, 0) else (0, tellE B 0 (inB off 0 30000))
def c22 : Ct := wmCt fun B r => match r with
  | [.si .i64 off] => some (none, .tup [.si .i64 (roomE B off).1, .si .i64 (roomE B off).2])
  | _ => none
theorem k22 {l : List (Nat × Ct)} (g0 : Good P T l) : COk P 33 c22 := by
  have g := g67 (g68 (g66 (g57 g0)))
  refine cokDM (C := tabC _) g.ok answer_ok Tryd.func33 (c := code Tryd.f33) rfl fun fr args H out h hp => wmWalkD h hp fun mk l1 l2 c1 c2 n rd r p v Rv hk hp hR => ?_
  split at hk
  · rename_i off
    cases hk
    refine ⟨Nat.le_of_ble_eq_true rfl, fun G hG => ?_⟩
    refine fb_defer (g.ok _ _ _) rfl cont_std rfl rfl rfl rfl ?_
    refine drawn_ok (g.ok _ _ _) fol [0,0,2,7,15] [] 5 (by kernel_rfl) ?_
    refine Chk.mk (rds_rd _ _) ?_
    obtain ⟨is, his⟩ : ∃ is : Bool, inB off 0 30000 = is := ⟨_, rfl⟩
    obtain ⟨B, hB⟩ : ∃ B : Blk, (⟨mk, l1, l2, c1, c2, (List.range n).map rd⟩ : Blk) = B := ⟨_, rfl⟩
    have hmkB : B.mark = mk := by rw [← hB]
    have hB' : (⟨mk, l1, l2, c1, c2, rdL n fun i => rdC (rd i)⟩ : Blk) = B := hB
    rw [hB] at hR
    refine Br.mk (fun h => ?_) (fun h => ?_)
    · have h : (!decide (errV ⟨mk, l1, l2, c1, c2, rdL n fun i => rdC (rd i)⟩ 0 (inB off 0 30000) = 0)) = true := h
      rw [hB', his] at h
      have h : ¬ errV B 0 is = 0 := by simpa using h
      have hw : roomE B off = (0, errV B 0 is) := by rw [roomE, his, tellE, if_neg h, if_neg h]
      rw [hw] at hR
      exact hR _ _ ⟨⟨rfl, rfl⟩, ⟨rfl, (by show errV ⟨mk, l1, l2, c1, c2, rdL n fun i => rdC (rd i)⟩ 0 (inB off 0 30000) = errV B 0 is; rw [hB', his])⟩, trivial⟩ rfl
    · have h : (!decide (errV ⟨mk, l1, l2, c1, c2, rdL n fun i => rdC (rd i)⟩ 0 (inB off 0 30000) = 0)) = false := h
      rw [hB', his] at h
      have h : errV B 0 is = 0 := by simpa using h
      obtain ⟨q1, q2, q3⟩ := errV_zero h
      have hoff : 0 ≤ off ∧ off ≤ 30000 := by
        rw [q3] at his
        simpa only [inB, Bool.and_eq_true, decide_eq_true_eq] using his
      have hbb := blk_b q1
      have hm1 : 0 ≤ mk ∧ smB 1000 mk := by rw [← hmkB]; unfold smB; omega
      refine Chk.mk ⟨rds_rd _ _, by rw [hB']; exact q1⟩ ?_
      refine Br.mk (fun h2 => ?_) (fun h2 => ?_)
      · have h2 : (!decide ((0 : Int) < ((pairsV ⟨mk, l1, l2, c1, c2, rdL n fun i => rdC (rd i)⟩).length : Int))) = true := h2
        rw [hB'] at h2
        have h2 : (pairsV B).length = 0 := by
          have : ¬ (0 : Int) < ((pairsV B).length : Int) := by simpa using h2
          omega
        have hw : roomE B off = (0, 10) := by rw [roomE, his, tellE, if_pos h, if_pos h2, if_neg (by decide)]
        rw [hw] at hR
        exact hR _ _ ⟨⟨rfl, rfl⟩, ⟨rfl, rfl⟩, trivial⟩ rfl
      · have h2 : (!decide ((0 : Int) < ((pairsV ⟨mk, l1, l2, c1, c2, rdL n fun i => rdC (rd i)⟩).length : Int))) = false := h2
        rw [hB'] at h2
        have h2 : ¬ (pairsV B).length = 0 := by
          have : (0 : Int) < ((pairsV B).length : Int) := by simpa using h2
          omega
        have hw : roomE B off = (roomV B off, 0) := by rw [roomE, his, tellE, if_pos h, if_neg h2, if_pos rfl]
        rw [hw] at hR
        have hcf : ∀ p ∈ pairsV B, 0 ≤ p.2 ∧ smB 1000 p.2 := fun p hp => by
          have := (pairs_mem.1 hp).1
          unfold smB; omega
        refine fb_range encP encB (tellM (pairsV B)) 23 (g.ok _ _ _) cont_std rfl rfl rfl rfl rfl rfl rfl encP_key encB_cl rfl (by rw [← hB']; rfl) ?_
        intro hnd ts clock hts
        have hvp : ∀ {vis rest : List ((Pr × Bool) × Nat)}, ts.Perm (vis ++ rest) → ∀ x ∈ vis, x.1.1 ∈ pairsV B := fun hp x hx => by
          have h1 := hts.mem_iff.1 (List.mem_map_of_mem (f := fun x => x.1) (hp.mem_iff.2 (List.mem_append_left _ hx)))
          rw [tellM_eq (pairs_nodup B)] at h1
          obtain ⟨p, h2, h3⟩ := List.mem_map.1 h1
          rw [← h3]; exact h2
        refine loop_okR (g.ok _ _ _) 28 (fun x : {z : (List ((Pr × Bool) × Nat) × List ((Pr × Bool) × Nat)) × Nat // ts.Perm (z.1.1 ++ z.1.2) ∧ z.2 ≤ 100 ∧ coldB mk off (z.1.1.map (·.1.1)) z.2 = true ∧ ∀ k, z.2 < k → k ≤ 100 → coldB mk off (z.1.1.map (·.1.1)) k = false} =>
          ⟨[(1, ⟨[], .si .i64 off⟩), (2, ⟨[], .sp 1 0⟩), (5, ⟨[], .sp 2 0⟩), (7, ⟨[], .si .i64 x.1.2⟩), (15, ⟨[], .sp 27 0⟩)], [],
            [(27, .it 23 clock (x.1.1.1.map (·.2)) clock), (23, .map (encS encP encB ts) clock), (2, .cells 35 [.si .i64 0]), (1, .cells 84 (bC mk l1 l2 c1 c2 0)), (0, .ro 4 n fun i => rdC (rd i))], 28, [(47, [.sp 2 0])]⟩)
          (fun x => x.1.1.2.length) (fun j hj => hG j (by omega)) ⟨(([], ts), 100), by simp, by simp, by simp [coldB], fun k k1 k2 => by simp only at k1; omega⟩ (fun j => j) ?_ ?_
        · refine ⟨?_, ?_, rfl, rfl, rfl, rfl, ⟨rfl, ⟨⟨rfl, rfl⟩, trivial⟩, rfl, trivial⟩⟩
          · repeat' (first | exact trivial | exact rfl | refine And.intro ?_ ?_)
          · repeat' (first | exact trivial | exact rfl | (intro i hi; exact ⟨rfl, rfl⟩) | refine And.intro ?_ ?_)
        · rintro ⟨⟨⟨vis, rest⟩, m⟩, hp, hm, hgood, hbad⟩
          simp only at hp hm hgood hbad
          refine fb_next encP encB 23 27 clock ts vis rest (g.ok _ _ _) cont_std rfl rfl rfl rfl rfl encP_key encB_cl rfl rfl rfl hp ⟨fun hr => ?_, ?_⟩
          · replace hr : rest = [] := hr
            subst hr
            have hv : ts.Perm vis := by simpa using hp
            have hpv : (vis.map fun x => x.1.1).Perm (pairsV B) := by
              have h3 := (((hv.map fun x => x.1).symm.trans hts).map fun x : Pr × Bool => x.1)
              rw [tellM_eq (pairs_nodup B), List.map_map, List.map_map] at h3
              simpa [Function.comp_def] using h3
            have hroom : roomV B off = (m : Int) := by
              unfold roomV
              rw [hmkB, downTo_eq hm (.inr (by rw [← coldB_perm hpv]; exact hgood)) fun k k1 k2 => by rw [← coldB_perm hpv]; exact hbad k k1 k2]
            refine Br.mk (fun h => by cases h) (fun _ => ?_)
            rw [hroom] at hR
            exact hR _ _ ⟨⟨rfl, rfl⟩, ⟨rfl, rfl⟩, trivial⟩ rfl
          · rintro ⟨⟨⟨x, y⟩, bb⟩, b⟩ rest' hrest
            refine Br.mk (fun _ => ?_) (fun h => by cases h)
            have hpts : (((x, y), bb), b) ∈ ts := hp.mem_iff.2 (List.mem_append_right _ (hrest.mem_iff.2 List.mem_cons_self))
            have hpm : ts.Perm ((vis ++ [(((x, y), bb), b)]) ++ rest') := by
              rw [List.append_assoc]
              exact hp.trans (List.Perm.append_left _ hrest)
            have hy := hcf (x, y) (hvp hpm (((x, y), bb), b) (by simp))
            have hvn : ∀ p ∈ (vis ++ [(((x, y), bb), b)]).map (·.1.1), 0 ≤ p.2 := fun p hp' => by
              obtain ⟨z, hz, rfl⟩ := List.mem_map.1 hp'
              exact (hcf _ (hvp hpm z hz)).1
            have hvm : (vis ++ [(((x, y), bb), b)]).map (·.1.1) = vis.map (·.1.1) ++ [(x, y)] := by simp
            refine fb_entry encP encB 23 27 clock ts vis (((x, y), bb), b) (g.ok _ _ _) cont_std rfl rfl rfl rfl rfl encP_key encB_cl rfl rfl rfl hpts ?_
            refine loop_okR (g.ok _ _ _) 28 (fun z : {k : Nat // k ≤ m ∧ ∀ j, k < j → j ≤ 100 → coldB mk off (vis.map (·.1.1) ++ [(x, y)]) j = false} =>
              ⟨[(1, ⟨[], .si .i64 off⟩), (2, ⟨[], .sp 1 0⟩), (5, ⟨[], .sp 2 0⟩), (7, ⟨[], .si .i64 z.1⟩), (8, ⟨[], .sp 28 0⟩), (15, ⟨[], .sp 27 0⟩)], [],
                [(28, .cells 114 [.si .i64 x, .si .i64 y]), (27, .it 23 clock ((vis ++ [(((x, y), bb), b)]).map (·.2)) clock), (23, .map (encS encP encB ts) clock), (2, .cells 35 [.si .i64 0]), (1, .cells 84 (bC mk l1 l2 c1 c2 0)), (0, .ro 4 n fun i => rdC (rd i))], 29, [(47, [.sp 2 0])]⟩)
              (fun z => z.1) (fun j hj => hG j (by omega)) ⟨m, Nat.le_refl _, fun j j1 j2 => by rw [coldB_snoc, hbad j j1 j2]; rfl⟩ (fun j => j) ?_ ?_
            · refine ⟨?_, ?_, rfl, rfl, rfl, rfl, ⟨rfl, ⟨⟨rfl, rfl⟩, trivial⟩, rfl, trivial⟩⟩
              · repeat' (first | exact trivial | exact rfl | refine And.intro ?_ ?_)
              · repeat' (first | exact trivial | exact rfl | (intro i hi; exact ⟨rfl, rfl⟩) | refine And.intro ?_ ?_)
            · rintro ⟨k, hk1, hk2⟩
              refine Chk.mk (fun _ => (show InK .i64 (0 - (k : Int)) from ⟨by omega, by omega⟩)) ?_
              refine Chk.mk (fun _ => ⟨hm1.2, hy.2, (by show -1000 ≤ 0 - (k : Int) ∧ 0 - (k : Int) ≤ 1000; omega)⟩) ?_
              refine Chk.mk (fun _ => (show InK .i64 (0 - off) from ⟨by omega, by omega⟩)) ?_
              have hz : (0 : Int) - (k : Int) = -(k : Int) := by omega
              have hz2 : (0 : Int) - off = -off := by omega
              refine Br.mk (fun h3 => ?_) (fun h3 => ?_)
              · have h3 : (decide ((0 : Int) < (k : Int)) && decide (growV mk y (0 - (k : Int)) < 0 - off)) = true := h3
                rw [hz, hz2] at h3
                simp only [Bool.and_eq_true, decide_eq_true_eq] at h3
                refine Chk.mk (show InK .i64 ((k : Int) - 1) from ⟨by omega, by omega⟩) ⟨⟨k - 1, by omega, fun j j1 j2 => ?_⟩, (fun j => j), ?_, (by show k - 1 < k; omega)⟩
                · rcases Nat.lt_or_ge k j with h4 | h4
                  · exact hk2 j h4 j2
                  · obtain rfl : j = k := by omega
                    rw [coldB_snoc, decide_eq_false (by show ¬ -off ≤ growV mk y (-(j : Int)); omega), Bool.and_false]
                · refine ⟨?_, ?_, rfl, rfl, rfl, rfl, ⟨rfl, ⟨⟨rfl, rfl⟩, trivial⟩, rfl, trivial⟩⟩
                  · repeat' (first | exact trivial | exact rfl | refine And.intro ?_ ?_)
                    show (k : Int) - 1 = ((k - 1 : Nat) : Int)
                    omega
                  · repeat' (first | exact trivial | exact rfl | (intro i hi; exact ⟨rfl, rfl⟩) | refine And.intro ?_ ?_)
              · have h3 : (decide ((0 : Int) < (k : Int)) && decide (growV mk y (0 - (k : Int)) < 0 - off)) = false := h3
                rw [hz, hz2] at h3
                have hgk : coldB mk off (vis.map (·.1.1) ++ [(x, y)]) k = true := by
                  rcases Nat.eq_zero_or_pos k with rfl | hpos
                  · exact coldB_zero hoff.1
                  · rw [decide_eq_true (by omega), Bool.true_and, decide_eq_false_iff_not] at h3
                    rw [coldB_snoc, decide_eq_true (by show -off ≤ growV mk y (-(k : Int)); omega), Bool.and_true]
                    exact coldB_less hm1.1 (fun p hp' => hvn p (by rw [hvm]; exact List.mem_append_left _ hp')) hk1 hgood
                refine ⟨⟨((vis ++ [(((x, y), bb), b)], rest'), k), hpm, by simp only; omega, by simp only; rw [hvm]; exact hgk, fun j j1 j2 => by simp only; rw [hvm]; exact hk2 j j1 j2⟩, (fun j => j), ?_, (by show rest'.length < rest.length; rw [hrest.length_eq]; simp)⟩
                refine ⟨?_, ?_, rfl, rfl, rfl, rfl, ⟨rfl, ⟨⟨rfl, rfl⟩, trivial⟩, rfl, trivial⟩⟩
                · repeat' (first | exact trivial | exact rfl | refine And.intro ?_ ?_)
                · repeat' (first | exact trivial | exact rfl | (intro i hi; exact ⟨rfl, rfl⟩) | refine And.intro ?_ ?_)
  · cases hk
theorem g22 {l : List (Nat × Ct)} (g : Good P T l) : Good P T ((33, c22) :: l) := g.add (k22 g) (wmCt_mono _) (body_of Tryd.func33 (c := code Tryd.f33) rfl (by decide))
end Go.X.W
end

section
set_option linter.unusedVariables false
set_option linter.unusedSimpArgs false
set_option linter.unusedSectionVars false
/- TopWarmed: the samples, awake04. -/
set_option linter.unusedVariables false
set_option linter.unusedSimpArgs false
set_option maxRecDepth 10000
set_option maxHeartbeats 4000000
namespace Go.X.W
open Go Go.Proofs Go.X

def smpS (i : Nat) : Span := [((10 : Int), (10 : Int)), (12, 13), (20, 20), (31, 32)].getD i (0, 0)
def smpSL : List Span := [(10, 10), (12, 13), (20, 20), (31, 32)]
theorem e_few4 : S.fewW smpSL 1 2 42 45 = (9, 0) := by decide +kernel
def smpW : Blk := ⟨50, -3, 3, 10, 12, [(1, 2, 52, 58)]⟩
theorem e_room4 : roomE smpW 60 = (1, 0) := by decide +kernel
theorem e_smp : (spanL 4 fun i => spanC (smpS i)) = smpSL := by decide
def c51 : Ct := fun fr args H =>
  match args with
  | [] => some ⟨none, none, .agg [.sl fr, .si .i64 1, .si .i64 2], [(fr, .ro 2 4 fun i => spanC (smpS i))]⟩
  | _ => none
theorem c51_mono : CtMono c51 := by
  intro fr args H H' out hH h
  unfold c51 at h ⊢
  exact h
theorem hand_nil (H : LH) : Hand H [] where
  ok j c hb h := by simp at h
  ids j c hb h := by simp at h
  inj i j c hb hb' h _ _ _ := by simp at h
theorem k51 {l : List (Nat × Ct)} (g0 : Good P T l) : COk P 32 c51 := by
  have g := g18t g0
  refine cok (C := tabC _) g.ok Tryd.func32 (c := code Tryd.f32) rfl fun fr args H out h hp => ?_
  unfold c51 at h
  split at h
  · cases h
    refine ⟨[], [], [], 0, [1], rfl, rfl, Nat.le_of_ble_eq_true rfl, hand_nil H, rfl, rfl, fun G hG => ?_⟩
    refine ⟨.inl rfl, ⟨⟨rfl, ⟨rfl, rfl⟩, ⟨rfl, rfl⟩, trivial⟩, rfl, ⟨rfl, ⟨rfl, rfl, fun i hi => ?_⟩, trivial⟩, trivial, rfl, rfl⟩⟩
    have hi : i < 4 := hi
    rcases (show i = 0 ∨ i = 1 ∨ i = 2 ∨ i = 3 by omega) with rfl | rfl | rfl | rfl <;> exact ⟨rfl, rfl⟩
  · cases h
theorem g51 {l : List (Nat × Ct)} (g : Good P T l) : Good P T ((32, c51) :: l) := g.add (k51 g) c51_mono (body_of Tryd.func32 (c := code Tryd.f32) rfl (by decide))
def c52 : Ct := fun fr args H =>
  match args with
  | [] => some ⟨none, none, .agg [.si .i64 50, .si .i64 (-3), .si .i64 3, .si .i64 10, .si .i64 12, .sl fr], [(fr, .ro 4 1 fun i => rdC (1, 2, 52, 58))]⟩
  | _ => none
theorem c52_mono : CtMono c52 := by
  intro fr args H H' out hH h
  unfold c52 at h ⊢
  exact h
theorem k52 {l : List (Nat × Ct)} (g0 : Good P T l) : COk P 34 c52 := by
  have g := g18t g0
  refine cok (C := tabC _) g.ok Tryd.func34 (c := code Tryd.f34) rfl fun fr args H out h hp => ?_
  unfold c52 at h
  split at h
  · cases h
    refine ⟨[], [], [], 0, [1], rfl, rfl, Nat.le_of_ble_eq_true rfl, hand_nil H, rfl, rfl, fun G hG => ?_⟩
    refine ⟨.inl rfl, ⟨⟨⟨rfl, rfl⟩, ⟨rfl, rfl⟩, ⟨rfl, rfl⟩, ⟨rfl, rfl⟩, ⟨rfl, rfl⟩, rfl, trivial⟩, rfl, ⟨rfl, ⟨rfl, rfl, fun i hi => ?_⟩, trivial⟩, trivial, rfl, rfl⟩⟩
    have hi : i < 1 := hi
    obtain rfl : i = 0 := by omega
    exact ⟨rfl, rfl⟩
  · cases h
theorem g52 {l : List (Nat × Ct)} (g : Good P T l) : Good P T ((34, c52) :: l) := g.add (k52 g) c52_mono (body_of Tryd.func34 (c := code Tryd.f34) rfl (by decide))
theorem g21s {l : List (Nat × Ct)} (g : Good P T l) : Good P T ((9, S.c21) :: l) := g.add (S.k21 S.good0) (S.stCt_mono _) (body_of Tryd.func9 (c := code Tryd.f9) rfl (by decide))
def c14 : Ct := plainCt fun
  | [] => some ⟨none, none, .sb true, []⟩
  | _ => none
theorem k14 {l : List (Nat × Ct)} (g0 : Good P T l) : COk P 14 c14 := by
  have g := g22 (g21s (g52 (g51 (g18t good0))))
  refine cok (C := tabC _) g.ok Tryd.func14 (c := code Tryd.f14) rfl fun fr args H out h hp => ?_
  simp only [c14, plainCt] at h
  split at h
  · cases h
    refine walk_plain rfl (Nat.le_of_ble_eq_true rfl) fun G hG => ?_
    refine Chk.mk ⟨fun i hi => ?_, rfl, (show (spanL 4 fun i => spanC (smpS i)).length ≤ 40 by rw [e_smp]; decide)⟩ ?_
    · rcases (show i = 0 ∨ i = 1 ∨ i = 2 ∨ i = 3 by omega) with rfl | rfl | rfl | rfl <;> rfl
    refine Chk.mk ⟨fun i hi => ?_, rfl, ?_⟩ ?_
    · obtain rfl : i = 0 := by omega
      rfl
    · trivial
    refine ⟨.inl rfl, end_plain ?_ rfl rfl⟩
    show (_ : Bool) = true
    rw [e_smp, e_few4, show (⟨50, -3, 3, 10, 12, rdL 1 fun i => rdC (1, 2, 52, 58)⟩ : Blk) = smpW from rfl, e_room4]
    rfl
  · cases h
end Go.X.W
end

section
set_option linter.unusedVariables false
set_option linter.unusedSimpArgs false
set_option linter.unusedSectionVars false
/- Regions of any order: which operations are ready, said by what each one waits for alone; no set is looked at. -/
set_option linter.unusedVariables false
set_option linter.unusedSimpArgs false
set_option maxRecDepth 10000
set_option maxHeartbeats 4000000
namespace Go.X
open Go

def arrZ (N : Nat) (ix : Nat → Option Nat) (z : Nat → Bool) (l : List Bool) : Array Bool := ((List.range N).map fun j => match ix j with
  | some i => l.getD i false
  | none => z j).toArray
def edgesOf (ops : Array Oper) (j : Nat) : List Nat := match ops[j]? with
  | some o => (o.after.toList.filter bindsAny).map (·.on)
  | none => []
def clA (anc : Nat → List Nat) : Nat → Nat → List Nat
  | 0, d => [d]
  | f + 1, d => d :: (anc d).flatMap (clA anc f)
def neverB (ops : Array Oper) (ix : Nat → Option Nat) (z : Nat → Bool) (j : Nat) : Bool := (edgesOf ops j).any fun k => match ix k with
  | none => !z k
  | some _ => false
def symOp (ops : Array Oper) (ix : Nat → Option Nat) (anc : Nat → List Nat) (z : Nat → Bool) (j : Nat) (need : List Nat) : Bool :=
  neverB ops ix z j || need.all fun q => (edgesOf ops j).any fun k => match ix k with
    | some d => (clA anc 6 d).contains q
    | none => false
def readyAt (ops : Array Oper) (N : Nat) (ix : Nat → Option Nat) (z : Nat → Bool) (i j : Nat) : Bool := (edgesOf ops j).all fun k => Nat.blt k N && match ix k with
  | some d => Nat.blt d i
  | none => z k
def symX (ops : Array Oper) (N m : Nat) (ix : Nat → Option Nat) (opi : Nat → Nat) (anc : Nat → List Nat) (z : Nat → Bool) : Bool :=
  Nat.beq ops.size N && ((List.range N).all (fun j => match ix j with
    | some i => Nat.blt i m && (Nat.beq (opi i) j && symOp ops ix anc z j (anc i))
    | none => z j || symOp ops ix anc z j (List.range m))
  && (List.range m).all fun i => ix (opi i) == some i && (Nat.blt (opi i) N && readyAt ops N ix z i (opi i)))
def exM (m : Nat) (l : List Bool) : Bool := (List.range m).all fun j => l.getD j false
theorem blt_lt {a b : Nat} (h : Nat.blt a b = true) : a < b := Nat.le_of_ble_eq_true h
theorem arrZ_get {N : Nat} {ix : Nat → Option Nat} {z : Nat → Bool} {l : List Bool} {j : Nat} (d : Bool) (h : j < N) : (arrZ N ix z l).getD j d = (match ix j with
  | some i => l.getD i false
  | none => z j) := by
  unfold arrZ
  simp [Array.getD, h]
theorem arrZ_getF {N : Nat} {ix : Nat → Option Nat} {z : Nat → Bool} {l : List Bool} {j : Nat} (h : (arrZ N ix z l).getD j false = true) : j < N ∧ (match ix j with
  | some i => l.getD i false
  | none => z j) = true := by
  by_cases hj : j < N
  · rw [arrZ_get false hj] at h; exact ⟨hj, h⟩
  · unfold arrZ at h
    simp [Array.getD, hj] at h
theorem mem_edges {ops : Array Oper} {listed : Array Bool} {j : Nat} : j ∈ Region.ready .any ops listed ↔ listed.getD j true = false ∧ j < ops.size ∧ ∀ k ∈ edgesOf ops j, listed.getD k false = true := by
  rw [mem_ready]
  constructor
  · rintro ⟨h0, o, ho, h⟩
    refine ⟨h0, (Array.getElem?_eq_some_iff.1 ho).1, fun k hk => ?_⟩
    unfold edgesOf at hk
    rw [ho] at hk
    obtain ⟨e, he, rfl⟩ := List.mem_map.1 hk
    obtain ⟨he, hb⟩ := List.mem_filter.1 he
    exact h e (Array.mem_toList_iff.1 he) (by rw [bindsAny_eq]; exact hb)
  · rintro ⟨h0, hj, h⟩
    refine ⟨h0, ops[j], Array.getElem?_eq_getElem hj, fun e he hb => h e.on ?_⟩
    unfold edgesOf
    rw [Array.getElem?_eq_getElem hj]
    exact List.mem_map.2 ⟨e, List.mem_filter.2 ⟨Array.mem_toList_iff.2 he, by rw [← bindsAny_eq]; exact hb⟩, rfl⟩
theorem clA_ok {anc : Nat → List Nat} {l : List Bool} (hcl : clB2 anc l = true) : ∀ (f d q : Nat), l.getD d false = true → q ∈ clA anc f d → l.getD q false = true
  | 0, d, q, h, hq => by rw [List.mem_singleton.1 hq]; exact h
  | f + 1, d, q, h, hq => by
    rcases List.mem_cons.1 hq with rfl | hq
    · exact h
    obtain ⟨e, he, hq⟩ := List.mem_flatMap.1 hq
    refine clA_ok hcl f e q ?_ hq
    have hd : d < l.length := by
      by_cases hd : d < l.length
      · exact hd
      · rw [List.getD, List.getElem?_eq_none (by omega)] at h; cases h
    have := List.all_eq_true.1 hcl d (List.mem_range.2 hd)
    rw [h, Bool.not_true, Bool.false_or, List.all_eq_true] at this
    exact this e he
theorem never_ok {ops : Array Oper} {N : Nat} {ix : Nat → Option Nat} {z : Nat → Bool} {l : List Bool} {j : Nat} (h : neverB ops ix z j = true) (hr : ∀ k ∈ edgesOf ops j, (arrZ N ix z l).getD k false = true) : False := by
  obtain ⟨k, hk, h⟩ := List.any_eq_true.1 h
  have h2 := (arrZ_getF (hr k hk)).2
  cases e : ix k with
  | some i => rw [e] at h; cases h
  | none => rw [e] at h h2; simp only at h h2; rw [h2] at h; cases h
theorem symOp_ok {ops : Array Oper} {N : Nat} {ix : Nat → Option Nat} {anc : Nat → List Nat} {z : Nat → Bool} {l : List Bool} {j : Nat} {need : List Nat} (hcl : clB2 anc l = true) (h : symOp ops ix anc z j need = true) (hr : ∀ k ∈ edgesOf ops j, (arrZ N ix z l).getD k false = true) : (need.all fun q => l.getD q false) = true := by
  rcases Bool.or_eq_true_iff.1 h with h | h
  · exact (never_ok h hr).elim
  rw [List.all_eq_true] at h ⊢
  intro q hq
  obtain ⟨k, hk, h⟩ := List.any_eq_true.1 (h q hq)
  have h2 := (arrZ_getF (hr k hk)).2
  cases e : ix k with
  | none => rw [e] at h; cases h
  | some d =>
    rw [e] at h h2
    exact clA_ok hcl 6 d q h2 (List.contains_iff_mem.1 h)
theorem arrZ_q {N : Nat} {ix : Nat → Option Nat} {z : Nat → Bool} {l : List Bool} (k : Nat) : (arrZ N ix z l)[k]? = if k < N then some (match ix k with
  | some i => l.getD i false
  | none => z k) else none := by
  unfold arrZ
  by_cases h : k < N <;> simp [h]
theorem arrZ_size {N : Nat} {ix : Nat → Option Nat} {z : Nat → Bool} {l : List Bool} : (arrZ N ix z l).size = N := by simp [arrZ]
theorem arrZ_set {N : Nat} {ix : Nat → Option Nat} {z : Nat → Bool} {l : List Bool} {i j : Nat} (hl : i < l.length) (hi : ix j = some i) (h1 : ∀ k, k < N → ix k = some i → k = j) : (arrZ N ix z l).setIfInBounds j true = arrZ N ix z (l.set i true) := by
  apply Array.ext_getElem?
  intro k
  rw [Array.getElem?_setIfInBounds, arrZ_q, arrZ_q, arrZ_size]
  by_cases e : j = k
  · subst e
    rw [if_pos rfl]
    by_cases hN : j < N
    · rw [if_pos hN, if_pos hN, hi]
      simp [List.getD, hl]
    · rw [if_neg hN, if_neg hN]
  · rw [if_neg e]
    by_cases hN : k < N
    · rw [if_pos hN, if_pos hN]
      cases ek : ix k with
      | none => rfl
      | some d =>
        have hd : i ≠ d := fun h => e (h1 k hN (h ▸ ek)).symm
        simp only [List.getD, List.getElem?_set_ne hd]
    · rw [if_neg hN, if_neg hN]
theorem first_un {l : List Bool} : ∀ m, ∃ i, i ≤ m ∧ (∀ d, d < i → l.getD d false = true) ∧ (i < m → l.getD i false = false)
  | 0 => ⟨0, Nat.le_refl _, fun d h => absurd h (Nat.not_lt_zero d), fun h => absurd h (Nat.lt_irrefl 0)⟩
  | m + 1 => by
    obtain ⟨i, h1, h2, h3⟩ := first_un (l := l) m
    by_cases him : i < m
    · exact ⟨i, by omega, h2, fun _ => h3 him⟩
    obtain rfl : i = m := by omega
    cases e : l.getD i false with
    | false => exact ⟨i, by omega, h2, fun _ => e⟩
    | true => exact ⟨i + 1, Nat.le_refl _, fun d hd => by
        rcases Nat.lt_succ_iff_lt_or_eq.1 hd with h | rfl
        · exact h2 d h
        · exact e, fun h => absurd h (Nat.lt_irrefl _)⟩
theorem readyAt_ok {ops : Array Oper} {N : Nat} {ix : Nat → Option Nat} {z : Nat → Bool} {l : List Bool} {i j : Nat} (h : readyAt ops N ix z i j = true) (h2 : ∀ d, d < i → l.getD d false = true) : ∀ k ∈ edgesOf ops j, (arrZ N ix z l).getD k false = true := by
  intro k hk
  have h := List.all_eq_true.1 h k hk
  rw [Bool.and_eq_true] at h
  rw [arrZ_get false (blt_lt h.1)]
  cases e : ix k with
  | none => rw [e] at h; exact h.2
  | some d => rw [e] at h; exact h2 d (blt_lt h.2)
def symXP (ops : Array Oper) (N m : Nat) (ix : Nat → Option Nat) (opi : Nat → Nat) (anc : Nat → List Nat) (z : Nat → Bool) (pre : List Nat) : Bool :=
  Nat.beq ops.size N && ((List.range N).all (fun j => match ix j with
    | some i => Nat.blt i m && (Nat.beq (opi i) j && symOp ops ix anc z j (anc i))
    | none => z j || symOp ops ix anc z j ((List.range m).filter fun q => !pre.contains q))
  && (List.range m).all fun i => ix (opi i) == some i && (Nat.blt (opi i) N && readyAt ops N ix z i (opi i)))
theorem latX_symP {ops : Array Oper} {N m : Nat} {ix : Nat → Option Nat} {opi : Nat → Nat} {anc : Nat → List Nat} {z : Nat → Bool} {pre : List Nat} (h : symXP ops N m ix opi anc z pre = true) : ∀ l ∈ allB m, (∀ q ∈ pre, l.getD q false = true) → latX ops m (arrZ N ix z) opi (exM m) anc l = true := by
  intro l hl hpre
  have hlen := allB_len hl
  unfold latX
  cases hcl : clB2 anc l with
  | false => rfl
  | true =>
  unfold symXP at h
  simp only [Bool.and_eq_true] at h
  obtain ⟨hN, hA, hR⟩ := h
  have hN := Nat.eq_of_beq_eq_true hN
  rw [Bool.not_true, Bool.false_or]
  cases hex : exM m l with
  | true => rfl
  | false =>
  rw [Bool.false_or]
  simp only [Bool.and_eq_true]
  refine ⟨?_, ?_⟩
  · obtain ⟨i, hi, hdn, hun⟩ := first_un (l := l) m
    have him : i < m := by
      rcases Nat.lt_or_eq_of_le hi with h | rfl
      · exact h
      · have : exM i l = true := List.all_eq_true.2 fun d hd => hdn d (List.mem_range.1 hd)
        rw [this] at hex; cases hex
    have hne : ∀ {j}, j ∈ Region.ready .any ops (arrZ N ix z l) → (!(Region.ready .any ops (arrZ N ix z l)).isEmpty) = true := by
      intro j hj
      cases e : Region.ready .any ops (arrZ N ix z l) with
      | nil => rw [e] at hj; cases hj
      | cons a b => rfl
    have h := List.all_eq_true.1 hR i (List.mem_range.2 him)
    simp only [Bool.and_eq_true] at h
    obtain ⟨h2, h3, h4⟩ := h
    refine hne (j := opi i) (mem_edges.2 ⟨?_, by rw [hN]; exact blt_lt h3, readyAt_ok h4 hdn⟩)
    rw [arrZ_get true (blt_lt h3), show ix (opi i) = some i by simpa using h2]
    exact hun him
  · rw [List.all_eq_true]
    intro j hj
    obtain ⟨h0, hjs, hed⟩ := mem_edges.1 hj
    rw [hN] at hjs
    rw [arrZ_get true hjs] at h0
    have hA1 := List.all_eq_true.1 hA j (List.mem_range.2 hjs)
    cases e : ix j with
    | none =>
      rw [e] at hA1 h0
      simp only at h0
      rw [h0, Bool.false_or] at hA1
      have h8 := symOp_ok hcl hA1 hed
      have h9 : exM m l = true := by
        refine List.all_eq_true.2 fun q hq => ?_
        cases hp : pre.contains q with
        | true => exact hpre q (List.contains_iff_mem.1 hp)
        | false => exact List.all_eq_true.1 h8 q (List.mem_filter.2 ⟨hq, by rw [hp]; rfl⟩)
      rw [h9] at hex
      cases hex
    | some i =>
      rw [e] at hA1 h0
      simp only [Bool.and_eq_true] at hA1 h0
      obtain ⟨h1, h2, h3⟩ := hA1
      have h1 := blt_lt h1
      rw [List.any_eq_true]
      refine ⟨i, List.mem_range.2 h1, ?_⟩
      rw [arrZ_set (i := i) (by omega) e (fun k hk hki => by
        have := List.all_eq_true.1 hA k (List.mem_range.2 hk)
        rw [hki] at this
        simp only [Bool.and_eq_true] at this
        exact (Nat.eq_of_beq_eq_true this.2.1).symm.trans (Nat.eq_of_beq_eq_true h2)), symOp_ok hcl h3 hed]
      have : l.getD i true = false := by
        have hil : i < l.length := by omega
        rw [List.getD, List.getElem?_eq_getElem hil] at h0 ⊢
        simpa using h0
      rw [this, Nat.eq_of_beq_eq_true h2]
      simp
theorem latX_sym {ops : Array Oper} {N m : Nat} {ix : Nat → Option Nat} {opi : Nat → Nat} {anc : Nat → List Nat} {z : Nat → Bool} (h : symX ops N m ix opi anc z = true) : ∀ l ∈ allB m, latX ops m (arrZ N ix z) opi (exM m) anc l = true := fun l hl => latX_symP (pre := []) (by
  have e : (List.range m).filter (fun q => !([] : List Nat).contains q) = List.range m := by simp
  unfold symX at h
  unfold symXP
  rw [e]
  exact h) l hl (fun q hq => by cases hq)
end Go.X
end

section
set_option linter.unusedVariables false
set_option linter.unusedSimpArgs false
set_option linter.unusedSectionVars false
/- TopWarmed: blocks as arguments; Show of a block by its value; region 12 in whatever order. -/
set_option linter.unusedVariables false
set_option linter.unusedSimpArgs false
set_option maxRecDepth 10000
set_option maxHeartbeats 4000000
namespace Go.X.W
open Go Go.Proofs Go.X

theorem exM_all' {m : Nat} {l : List Bool} (hl : l.length = m) (he : exM m l = true) : l = List.replicate m true := by
  refine List.eq_replicate_iff.2 ⟨hl, fun b hb => ?_⟩
  obtain ⟨i, hi, rfl⟩ := List.mem_iff_getElem.1 hb
  have h := List.all_eq_true.1 he i (List.mem_range.2 (by omega))
  rwa [List.getD, List.getElem?_eq_getElem hi] at h
theorem getN {l : List Bool} {i j : Nat} (hi : i ≠ j) : (l.set i true).getD j false = l.getD j false := by
  simp [List.getD, List.getElem?_set, hi]
theorem getS {l : List Bool} {i : Nat} (hl : i < l.length) : (l.set i true).getD i false = true := by
  simp [List.getD, List.getElem?_set, hl]
theorem getF {l : List Bool} {i : Nat} (hl : i < l.length) (h : l.getD i true = false) : l.getD i false = false := by
  rw [List.getD, List.getElem?_eq_getElem hl] at h ⊢
  exact h
theorem clB_at {anc : Nat → List Nat} {l : List Bool} (hcl : clB2 anc l = true) {i j : Nat} (hi : l.getD i false = true) (hj : j ∈ anc i) : l.getD j false = true := by
  have hl : i < l.length := by
    rcases Nat.lt_or_ge i l.length with h | h
    · exact h
    · rw [List.getD, List.getElem?_eq_none h] at hi; cases hi
  have h := List.all_eq_true.1 hcl i (List.mem_range.2 hl)
  rw [hi, Bool.not_true, Bool.false_or, List.all_eq_true] at h
  exact h j hj

/-- The operations of a region. -/
def regF (n : Nat) : Code → Option (Array Oper)
  | .region id ops _ => match Nat.beq id n with
    | true => some ops
    | false => none
  | .seq a b => match regF n a with
    | some x => some x
    | none => regF n b
  | .cond _ a b => match regF n a with
    | some x => some x
    | none => regF n b
  | .block _ a => regF n a
  | .loop a => regF n a
  | .scope a => regF n a
  | .rangeFunc _ _ a b => match regF n a with
    | some x => some x
    | none => regF n b
  | _ => none
def regO (n : Nat) (c : Code) : Array Oper := match regF n c with
  | some a => a
  | none => #[]

/-! ### Show, of a block by its value -/
end Go.X.W
end

section
set_option linter.unusedVariables false
set_option linter.unusedSimpArgs false
set_option linter.unusedSectionVars false
/- Wear: follow: what is kept is looked up, in whatever order. -/
set_option linter.unusedVariables false
set_option linter.unusedSimpArgs false
set_option maxRecDepth 10000
set_option maxHeartbeats 4000000
namespace Go.X.Wr
open Go Go.Proofs Go.X
open Go.X.W (regO getS getF exM_all' clB_at)

noncomputable abbrev X42 (G : Base) : Cx := ⟨P, T, tabC [], G, none, Tryd.f42.ntmps⟩
theorem ok42 (G : Base) : (X42 G).Ok := good0.ok _ _ _
noncomputable def o1 : Array Oper := regO 1 (code Tryd.f42)
def ix1 (j : Nat) : Option Nat := if j < 11 then some j else none
def z1 : Nat → Bool := fun _ => false
def an1 : Nat → List Nat
  | 1 => [0]
  | 2 => [1]
  | 3 => [2]
  | 5 => [3, 4]
  | 6 => [5]
  | 7 => [6]
  | 8 => [6]
  | 10 => [7, 9]
  | _ => []
theorem an1_lt : ∀ i, ∀ j ∈ an1 i, j < i := by
  intro i j hj
  unfold an1 at hj
  split at hj <;> simp at hj <;> omega
theorem lat1 : symX o1 12 11 ix1 (fun i => i) an1 z1 = true := by kernel_rfl
noncomputable def ar1 : List Bool → Array Bool := arrZ 12 ix1 z1
def zl : Nat → Sp := fun _ => (0, 0)
def sl1 (q : Qn) (lv : Nat → Sp) (f : Bool) : Nat → List (Nat × FE)
  | 0 => [(14, ⟨[], .sp 3 0⟩)]
  | 1 => [(15, ⟨[], .sp 3 0⟩)]
  | 2 => [(16, ⟨[], .sp 3 5⟩)]
  | 3 => [(17, ⟨[], .sm 2⟩)]
  | 4 => [(18, ⟨[], qnS q⟩)]
  | 5 => [(19, ⟨[], .tup [encL lv, .sb f]⟩)]
  | 6 => [(13, ⟨[], .tup [encL lv, .sb f]⟩)]
  | 7 => [(20, ⟨[], encL lv⟩)]
  | 8 => [(21, ⟨[], .sb f⟩)]
  | 9 => [(5, ⟨[], .sp 6 0⟩)]
  | _ => []
def b1 : List (Nat × FE) := [(0, ⟨[], .sp 3 0⟩), (3, ⟨[], .sp 4 0⟩), (4, ⟨[], .sp 5 0⟩)]
def enM (es : List (Qn × (Nat → Sp))) : List (SV × SV) := encM qnS encL es
def H1 (w : Wd) (q : Qn) (es : List (Qn × (Nat → Sp))) : List (Nat × HB) := (5, .cells 57 (lgS zl)) :: (4, .cells 94 [.si .u64 (q.reads : Int), .si .i64 q.lo, .si .i64 q.hi]) :: bkS w (enM es)
def hh1 (w : Wd) (q : Qn) (es : List (Qn × (Nat → Sp))) (lv : Nat → Sp) : Bool → Bool → List (Nat × HB)
  | false, _ => H1 w q es
  | true, false => (6, .cells 57 (lgS zl)) :: H1 w q es
  | true, true => (6, .cells 57 (lgS lv)) :: H1 w q es
def nn1 : Bool → Nat
  | false => 6
  | true => 7
section
variable {G : Base} {w : Wd} {q : Qn} {es : List (Qn × (Nat → Sp))} {lv : Nat → Sp} {f : Bool} {K : Ex → St → Prop}
theorem no1 {l : List Bool} (hcl : clB2 an1 l = true) {a b : Nat} (hb : b ∈ an1 a) (h : l.getD b false = false) : l.getD a false = false := by
  cases h7 : l.getD a false with
  | false => rfl
  | true => have := clB_at (anc := an1) hcl h7 hb; rw [this] at h; cases h
def St1 (G : Base) (w : Wd) (q : Qn) (es : List (Qn × (Nat → Sp))) (lv : Nat → Sp) (f : Bool) (j : Nat) (H H' : List (Nat × HB)) (n n' : Nat) : Prop := ∃ o, o1[j]? = some o ∧ o.guard = none ∧ ∀ (tail : List (Nat × FE)) (Q : Exit → Act → World → Prop) (Kn : St → Prop), Cont (X42 G) Q Kn (fun _ _ => False) → Kn ⟨sl1 q lv f j ++ ((an1 j).flatMap (sl1 q lv f) ++ (b1 ++ tail)), [], H', n', []⟩ →
  execL (X42 G) [o] Q Kn (fun _ _ => False) 0 [o] ⟨(an1 j).flatMap (sl1 q lv f) ++ (b1 ++ tail), [], H, n, []⟩
theorem st1_5 (hl : (f = true ∧ lookA es q = some lv) ∨ (f = false ∧ lookA es q = none ∧ lv = zl)) (b9 : Bool) : St1 G w q es lv f 5 (hh1 w q es lv b9 false) (hh1 w q es lv b9 false) (nn1 b9) (nn1 b9) := by
  refine ⟨_, rfl, rfl, fun tail Q Kn hC hK => ?_⟩
  rcases hl with ⟨rfl, h⟩ | ⟨rfl, h, rfl⟩
  · cases b9 <;> exact fb_lookup qnS encL es q 2 (ok42 G) hC rfl rfl rfl rfl rfl rfl rfl rfl rfl qnS_key encL_cl rfl rfl rfl (fun _ => ⟨fun v hv => (by rw [h] at hv; cases hv; exact hK), fun hv => (by rw [h] at hv; cases hv)⟩)
  · cases b9 <;> exact fb_lookup qnS encL es q 2 (ok42 G) hC rfl rfl rfl rfl rfl rfl rfl rfl rfl qnS_key encL_cl rfl rfl rfl (fun _ => ⟨fun v hv => (by rw [h] at hv; cases hv), fun hv => hK⟩)
theorem st1_9 : St1 G w q es lv f 9 (hh1 w q es lv false false) (hh1 w q es lv true false) 6 7 := ⟨_, rfl, rfl, fun tail Q Kn hC hK => hK⟩
theorem st1_10 : St1 G w q es lv f 10 (hh1 w q es lv true false) ((6, .cells 57 (lgS lv)) :: hh1 w q es lv true false) 7 7 := ⟨_, rfl, rfl, fun tail Q Kn hC hK => hK⟩
theorem st1_0 (j : Nat) (hj : j < 11) (h : ¬ (j = 5 ∨ j = 9 ∨ j = 10)) (b9 b10 : Bool) : St1 G w q es lv f j (hh1 w q es lv b9 b10) (hh1 w q es lv b9 b10) (nn1 b9) (nn1 b9) := by
  rcases (show j = 0 ∨ j = 1 ∨ j = 2 ∨ j = 3 ∨ j = 4 ∨ j = 6 ∨ j = 7 ∨ j = 8 by omega) with rfl | rfl | rfl | rfl | rfl | rfl | rfl | rfl
  all_goals
    refine ⟨_, rfl, rfl, fun tail Q Kn hC hK => ?_⟩
    cases b9 <;> cases b10 <;> exact hK
theorem keep1 : keepN (fun j => j) 7 b1 ∧ ∀ j, j < 11 → keepN (fun j => j) 7 (sl1 q lv f j) := by
  refine ⟨?_, fun j hj => ?_⟩
  · repeat' (first | exact trivial | exact rfl | refine And.intro ?_ ?_)
  · rcases (show j = 0 ∨ j = 1 ∨ j = 2 ∨ j = 3 ∨ j = 4 ∨ j = 5 ∨ j = 6 ∨ j = 7 ∨ j = 8 ∨ j = 9 ∨ j = 10 by omega) with rfl | rfl | rfl | rfl | rfl | rfl | rfl | rfl | rfl | rfl | rfl <;> repeat' (first | exact trivial | exact rfl | refine And.intro ?_ ?_)
theorem reg1w (hG : ∀ j, 4 ≤ j → G.ρ j = none) (hl : (f = true ∧ lookA es q = some lv) ∨ (f = false ∧ lookA es q = none ∧ lv = zl))
    (hK : K .normal ⟨(3, ⟨[], .sp 4 0⟩) :: (4, ⟨[], .sp 5 0⟩) :: (5, ⟨[], .sp 6 0⟩) :: (6, ⟨[], .sb f⟩) :: (0, ⟨[], .sp 3 0⟩) :: [], [], (6, .cells 57 (lgS lv)) :: H1 w q es, 7, []⟩) :
    AnyS (X42 G) o1 12 (Array.replicate 12 false) ⟨b1, [], H1 w q es, 6, []⟩ K := by
  refine any_latN (D := []) (ok42 G) 11 ar1 (fun i => i) (exM 11) (sl1 q lv f) b1 (fun l => hh1 w q es lv (l.getD 9 false) (l.getD 10 false)) (fun l => nn1 (l.getD 9 false)) an1 1 4 hG (fun a ha j hj => by have := an1_lt a j hj; omega) (latX_sym lat1) ?_ ?_ ?_ (List.replicate 11 false) rfl (by decide)
  · repeat' (first | exact trivial | exact ⟨rfl, rfl⟩ | refine And.intro ?_ ?_)
  · intro j hj l hl' hf ha hcl
    have n9 : j ≠ 9 → (l.set j true).getD 9 false = l.getD 9 false := Go.X.W.getN
    have n10 : j ≠ 10 → (l.set j true).getD 10 false = l.getD 10 false := Go.X.W.getN
    have e := getS (l := l) (i := j) (by omega)
    have fj := getF (l := l) (i := j) (by omega) hf
    by_cases h5 : j = 5
    · subst h5
      have f6 := no1 hcl (show 5 ∈ an1 6 by decide) fj
      have f7 := no1 hcl (show 6 ∈ an1 7 by decide) f6
      have f10 := no1 hcl (show 7 ∈ an1 10 by decide) f7
      rw [n9 (by decide), n10 (by decide), f10]
      obtain ⟨o, q1, q2, q3⟩ := st1_5 (G := G) (w := w) hl (l.getD 9 false)
      exact ⟨o, q1, q2, .inl q3⟩
    by_cases h9 : j = 9
    · subst h9
      have f10 := no1 hcl (show 9 ∈ an1 10 by decide) fj
      rw [e, fj, n10 (by decide), f10]
      obtain ⟨o, q1, q2, q3⟩ := st1_9 (G := G) (w := w) (q := q) (es := es) (lv := lv) (f := f)
      exact ⟨o, q1, q2, .inl q3⟩
    by_cases h10 : j = 10
    · subst h10
      have f9 : l.getD 9 false = true := ha 9 (by decide)
      rw [e, fj, n9 (by decide), f9]
      obtain ⟨o, q1, q2, q3⟩ := st1_10 (G := G) (w := w) (q := q) (es := es) (lv := lv) (f := f)
      refine ⟨o, q1, q2, .inr ⟨fun j => j, [], (6, .cells 57 (lgS lv)) :: hh1 w q es lv true false, 7, ?_, (keep1 (q := q) (lv := lv) (f := f)).1, fun k hk _ => keep1.2 k hk, q3⟩⟩
      refine ⟨trivial, rfl, ?_, rfl, rfl, rfl, trivial⟩
      repeat' (first | exact trivial | exact rfl | exact List.Perm.refl _ | (intro i hi; exact ⟨rfl, rfl⟩) | (intro v m g h; exact h) | refine And.intro ?_ ?_)
    rw [n9 h9, n10 h10]
    obtain ⟨o, q1, q2, q3⟩ := st1_0 (G := G) (w := w) (q := q) (es := es) (lv := lv) (f := f) j hj (by omega) (l.getD 9 false) (l.getD 10 false)
    exact ⟨o, q1, q2, .inl q3⟩
  · intro l hl he
    obtain rfl := exM_all' hl he
    refine any_step [11] (ok42 G) (by kernel_rfl) (by decide) ⟨?_, trivial⟩
    refine any_weaken 4 (fun j => j) hG ?_ (any_done (by kernel_rfl) hK)
    refine ⟨?_, ?_, rfl, rfl, rfl, rfl, trivial⟩ <;> repeat' (first | exact trivial | exact rfl | exact List.Perm.refl _ | (intro i hi; exact ⟨rfl, rfl⟩) | (intro v m g h; exact h) | refine And.intro ?_ ?_)
end
end Go.X.Wr
end

section
set_option linter.unusedVariables false
set_option linter.unusedSimpArgs false
set_option linter.unusedSectionVars false
/- Wear: follow: forward: what a round does, in whatever order. -/
set_option linter.unusedVariables false
set_option linter.unusedSimpArgs false
set_option maxRecDepth 10000
set_option maxHeartbeats 4000000
namespace Go.X.Wr
open Go Go.Proofs Go.X
open Go.X.W (regO getS getF exM_all' clB_at)

/-- The body of a block of code. -/
def lpB (n : Nat) : Code → Code
  | .block m a => if Nat.beq m n then a else lpB n a
  | .seq a b => match lpB n a with
    | .skip => lpB n b
    | c => c
  | .cond _ a b => match lpB n a with
    | .skip => lpB n b
    | c => c
  | .loop a => lpB n a
  | .scope a => lpB n a
  | _ => .skip
theorem b64 : Body P 64 := body_of Tryd.func64 (c := code Tryd.f64) rfl (by decide)
theorem b55 : Body P 55 := body_of Tryd.func55 (c := code Tryd.f55) rfl (by decide)
def rfa : Code → Code
  | .rangeFunc _ _ a _ => a
  | _ => .skip
def rfb : Code → Code
  | .rangeFunc _ _ _ b => b
  | _ => .skip
/-- Slots before events are gone through. -/
def V2 : List (Nat × SV) := [(0, .sp 3 0), (3, .sp 4 0), (4, .sp 5 0), (7, .se 7 0 0)]
def F2 : List (Nat × FE) := [(0, ⟨[], .sp 3 0⟩), (3, ⟨[], .sp 4 0⟩), (4, ⟨[], .sp 5 0⟩), (7, ⟨[], .se 7 0 0⟩)]
/-- Cells that events look at. -/
def E2 (q : Qn) (bk : Bool) : List (Nat × HB) := [(10, .cells 4 [.sb bk]), (9, .cells 62 [.si .u64 (q.reads : Int)]), (8, .cells 58 [.sp 3 0])]
def fnE : SV := .fn (.func 64) [] [.sp 8 0, .sp 10 0, .sp 9 0]
def A2 (w : Wd) (q : Qn) (es : List (Qn × (Nat → Sp))) (ar : Nat → Sp) : List (Nat × HB) := (7, .vec 57 2 9 fun j => spC (ar j)) :: H1 w q es
noncomputable def cF : Code := lpB 0 (code Tryd.f42)
/-- A round of events. -/
noncomputable def L2 (fn : Nat) (bk : Bool) (w : Wd) (q : Qn) (es : List (Qn × (Nat → Sp))) (ar : Nat → Sp) : List (Nat × HB) := (12, .loop V2 Tryd.f42.ntmps fn [31, 32] (rfa cF) (rfb cF) 11 .ready none) :: (11, .dfr) :: (E2 q bk ++ A2 w q es ar)
def P2 (w : Wd) (i : Nat) : List (Nat × FE) := [(0, ⟨[], .fy 12⟩), (1, ⟨[], .sp 8 0⟩), (2, ⟨[], .sp 10 0⟩), (3, ⟨[], .sp 9 0⟩), (10, ⟨[], .sl 1⟩), (11, ⟨[], .si .i64 (w.n : Int)⟩), (12, ⟨[], .si .i64 (i : Int)⟩)]
section
variable {G : Base} {w : Wd} {q : Qn} {es : List (Qn × (Nat → Sp))} {K : Ex → St → Prop}
theorem findV_sub {l l' : List (Nat × SV)} {s : Nat → Nat} {n : Nat} (h : ∀ p ∈ l', findV l p.1 = some (renSV s p.2) ∧ idsSV n p.2 = true) (hu : ∀ t v, findV l' t = some v → (t, v) ∈ l') : ∀ t v, findV l' t = some v → findV l t = some (renSV s v) ∧ idsSV n v = true :=
  fun t v hv => h (t, v) (hu t v hv)
theorem findV_mem : ∀ {l : List (Nat × SV)} {t : Nat} {v : SV}, findV l t = some v → (t, v) ∈ l
  | [], t, v, h => by cases h
  | (a, x) :: r, t, v, h => by
    simp only [findV] at h
    split at h
    · rename_i e
      have e : a = t := by simpa using e
      subst e; cases h
      exact List.mem_cons_self
    · exact List.mem_cons_of_mem _ (findV_mem h)
end
noncomputable def L9 (fn : Nat) (bk : Bool) (w : Wd) (q : Qn) (es : List (Qn × (Nat → Sp))) (ar : Nat → Sp) : List (Nat × HB) := (12, .loop V2 Tryd.f42.ntmps fn [31, 32] (rfa cF) (rfb cF) 11 .busy none) :: (11, .dfr) :: (E2 q bk ++ A2 w q es ar)
noncomputable abbrev X9 (G : Base) (r : Option Nat) : Cx := ⟨P, T, tabC [], G, r, Tryd.f42.ntmps⟩
theorem ok9 (G : Base) (r : Option Nat) : (X9 G r).Ok := good0.ok _ _ _
noncomputable def o9 : Array Oper := regO 9 (code Tryd.f42)
def ix9 (j : Nat) : Option Nat := if j < 10 then some j else none
def an9 : Nat → List Nat
  | 1 => [0]
  | 4 => [3]
  | 5 => [4]
  | 6 => [2]
  | 7 => [6]
  | 8 => [2, 7]
  | 9 => [5, 8]
  | _ => []
theorem an9_lt : ∀ i, ∀ j ∈ an9 i, j < i := by
  intro i j hj
  unfold an9 at hj
  split at hj <;> simp at hj <;> omega
theorem lat9 : symX o9 12 10 ix9 (fun i => i) an9 z1 = true := by kernel_rfl
noncomputable def ar9 : List Bool → Array Bool := arrZ 12 ix9 z1
def sl9 (i : Nat) (e : Ef) (ar : Nat → Sp) : Nat → List (Nat × FE)
  | 0 => [(33, ⟨[], .si .i64 (i : Int)⟩)]
  | 1 => [(34, ⟨[], .si .i64 ((i : Int) + 1)⟩)]
  | 2 => [(35, ⟨[], efS e⟩)]
  | 3 => [(36, ⟨[], .si .i64 (i : Int)⟩)]
  | 4 => [(37, ⟨[], .se 7 (i : Int) 0⟩)]
  | 5 => [(38, ⟨[], .agg (spC (ar i))⟩)]
  | 6 => [(39, ⟨[], .fn (.method "blockworks/wear.after") [efS e] []⟩)]
  | 7 => [(40, ⟨[], .fn (.method "blockworks/wear.after") [efS e] []⟩)]
  | 8 => [(41, ⟨[], efS e⟩)]
  | 9 => [(42, ⟨[], .agg (spC (aftV e (ar i)))⟩)]
  | _ => []
def b9 (i : Nat) (e : Ef) : List (Nat × FE) := (8, ⟨[], .si .i64 (i : Int)⟩) :: (9, ⟨[], efS e⟩) :: F2
section
variable {G : Base} {r : Option Nat} {fn : Nat} {bk : Bool} {w : Wd} {q : Qn} {es : List (Qn × (Nat → Sp))} {ar ar' : Nat → Sp} {i : Nat} {e : Ef} {K : Ex → St → Prop}
def St9 (G : Base) (r : Option Nat) (i : Nat) (e : Ef) (ar : Nat → Sp) (j : Nat) (H H' : List (Nat × HB)) : Prop := ∃ o, o9[j]? = some o ∧ o.guard = none ∧ ∀ (tail : List (Nat × FE)) (Q : Exit → Act → World → Prop) (Kn : St → Prop), Cont (X9 G r) Q Kn (fun _ _ => False) → Kn ⟨sl9 i e ar j ++ ((an9 j).flatMap (sl9 i e ar) ++ (b9 i e ++ tail)), [], H', 13, []⟩ →
  execL (X9 G r) [o] Q Kn (fun _ _ => False) 0 [o] ⟨(an9 j).flatMap (sl9 i e ar) ++ (b9 i e ++ tail), [], H, 13, []⟩
theorem st9_0 (hi : i < 8) (j : Nat) (hj : j < 9) : St9 G r i e ar j (L9 fn bk w q es ar) (L9 fn bk w q es ar) := by
  rcases (show j = 1 ∨ j = 4 ∨ j = 7 ∨ j = 0 ∨ j = 2 ∨ j = 3 ∨ j = 5 ∨ j = 6 ∨ j = 8 by omega) with rfl | rfl | rfl | rfl | rfl | rfl | rfl | rfl | rfl
  · exact ⟨_, rfl, rfl, fun tail Q Kn hC hK => Chk.mk (show InK .i64 ((i : Int) + 1) from ⟨by omega, by omega⟩) hK⟩
  · exact ⟨_, rfl, rfl, fun tail Q Kn hC hK => fb_indexA 7 9 2 (i : Int) (ok9 G r) hC rfl rfl rfl rfl rfl rfl rfl rfl rfl rfl rfl rfl ⟨by omega, by omega⟩ hK⟩
  · cases e <;> exact ⟨_, rfl, rfl, fun tail Q Kn hC hK => Chk.mk (by kernel_rfl) hK⟩
  all_goals first | exact ⟨_, rfl, rfl, fun tail Q Kn hC hK => hK⟩ | (cases e <;> exact ⟨_, rfl, rfl, fun tail Q Kn hC hK => hK⟩)
theorem st9_9 (he : efOk e) (hk : kbS (ar i)) : St9 G r i e ar 9 (L9 fn bk w q es ar) ((0, .fam 2 gF) :: L9 fn bk w q es ar) := by
  refine ⟨_, rfl, rfl, fun tail Q Kn hC hK => ?_⟩
  refine fb_invoke (afF e) (ok9 G r) hC rfl rfl rfl rfl rfl rfl rfl (me_af e) (bd_af e) ?_
  refine callS_at [efV e, .agg (spC (ar i))] hG0 1 (fun j => j) (by cases e <;> repeat' (first | exact trivial | exact rfl | refine And.intro ?_ ?_)) (by cases e <;> rfl) (by repeat' (first | exact trivial | exact rfl | (intro v m g h; exact h) | refine And.intro ?_ ?_)) rfl rfl ?_
  exact s_af e he hk ⟨rfl, (by repeat' (first | exact trivial | exact rfl | refine And.intro ?_ ?_)), (by repeat' (first | exact trivial | exact rfl | refine And.intro ?_ ?_)), hK⟩
theorem keep9 : keepN (fun j => j) 13 (b9 i e) ∧ ∀ j, j < 10 → keepN (fun j => j) 13 (sl9 i e ar j) := by
  refine ⟨?_, fun j hj => ?_⟩
  · cases e <;> repeat' (first | exact trivial | exact rfl | refine And.intro ?_ ?_)
  · rcases (show j = 0 ∨ j = 1 ∨ j = 2 ∨ j = 3 ∨ j = 4 ∨ j = 5 ∨ j = 6 ∨ j = 7 ∨ j = 8 ∨ j = 9 by omega) with rfl | rfl | rfl | rfl | rfl | rfl | rfl | rfl | rfl | rfl <;> cases e <;> repeat' (first | exact trivial | exact rfl | refine And.intro ?_ ?_)
theorem weak9 : NewR 13 (fun j => j) 13 (sl9 i e ar 9) (sl9 i e ar 9) ((0, .fam 2 gF) :: L9 fn bk w q es ar) (L9 fn bk w q es ar) [] := by
  refine ⟨?_, rfl, ?_, rfl, rfl, rfl, trivial⟩ <;> repeat' (first | exact trivial | exact rfl | exact List.Perm.refl _ | (intro i hi; exact ⟨rfl, rfl⟩) | (intro v m g h; exact h) | refine findV_sub (List.forall_mem_cons.2 ⟨⟨rfl, rfl⟩, List.forall_mem_cons.2 ⟨⟨rfl, rfl⟩, List.forall_mem_cons.2 ⟨⟨rfl, rfl⟩, List.forall_mem_cons.2 ⟨⟨rfl, rfl⟩, fun p hp => by cases hp⟩⟩⟩⟩) (fun t v h => findV_mem h) | refine And.intro ?_ ?_)
theorem reg9 (hG : ∀ j, 13 ≤ j → G.ρ j = none) (hi : i < 8) (he : efOk e) (hk : kbS (ar i)) (har : ∀ j, j < 9 → ar' j = if j = i + 1 then aftV e (ar i) else ar j)
    (hK : K .normal ⟨b9 i e, [], L9 fn bk w q es ar', 13, []⟩) : AnyS (X9 G r) o9 12 (Array.replicate 12 false) ⟨b9 i e, [], L9 fn bk w q es ar, 13, []⟩ K := by
  refine any_latN (D := []) (ok9 G r) 10 ar9 (fun i => i) (exM 10) (sl9 i e ar) (b9 i e) (fun _ => L9 fn bk w q es ar) (fun _ => 13) an9 2 13 hG (fun a ha j hj => by have := an9_lt a j hj; omega) (latX_sym lat9) ?_ ?_ ?_ (List.replicate 10 false) rfl (by decide)
  · repeat' (first | exact trivial | exact ⟨rfl, rfl⟩ | refine And.intro ?_ ?_)
  · intro j hj l hl' hf ha hcl
    by_cases h9 : j = 9
    · subst h9
      obtain ⟨o, q1, q2, q3⟩ := st9_9 (G := G) (r := r) (fn := fn) (bk := bk) (w := w) (q := q) (es := es) he hk
      exact ⟨o, q1, q2, .inr ⟨fun j => j, _, _, 13, weak9, (keep9 (ar := ar)).1, fun k hk _ => keep9.2 k hk, q3⟩⟩
    obtain ⟨o, q1, q2, q3⟩ := st9_0 (G := G) (r := r) (fn := fn) (bk := bk) (w := w) (q := q) (es := es) (e := e) (ar := ar) hi j (by omega)
    exact ⟨o, q1, q2, .inl q3⟩
  · intro l hl he
    obtain rfl := exM_all' hl he
    refine any_step [10] (ok9 G r) (by kernel_rfl) (by decide) ⟨?_, trivial⟩
    refine fb_indexA 7 9 2 ((i : Int) + 1) (ok9 G r) cont_any rfl rfl rfl rfl rfl rfl rfl rfl rfl rfl rfl rfl ⟨by omega, by omega⟩ ?_
    refine any_step [11] (ok9 G r) (by kernel_rfl) (by decide) ⟨?_, trivial⟩
    refine fb_storeV 7 57 2 9 ((i : Int) + 1) 0 (fun j => spC (ar j)) (fun j => spC (ar' j)) (spC (aftV e (ar i))) (ok9 G r) cont_any rfl rfl rfl rfl rfl rfl rfl rfl rfl rfl ⟨by omega, by omega⟩ (Nat.le_refl 2) (fun j hj => ?_) ?_
    · show spC (ar' j) = _
      rw [har j hj, show ((i : Int) + 1).toNat = i + 1 by omega]
      split
      · rfl
      · rfl
    refine any_weaken 13 (fun j => j) hG ?_ (any_done (by kernel_rfl) hK)
    refine ⟨?_, ?_, rfl, rfl, rfl, rfl, trivial⟩
    · cases e <;> repeat' (first | exact trivial | exact rfl | refine And.intro ?_ ?_)
    · repeat' (first | exact trivial | exact rfl | exact List.Perm.refl _ | (intro i hi; exact ⟨rfl, rfl⟩) | (intro v m g h; exact h) | refine findV_sub (List.forall_mem_cons.2 ⟨⟨rfl, rfl⟩, List.forall_mem_cons.2 ⟨⟨rfl, rfl⟩, List.forall_mem_cons.2 ⟨⟨rfl, rfl⟩, List.forall_mem_cons.2 ⟨⟨rfl, rfl⟩, fun p hp => by cases hp⟩⟩⟩⟩) (fun t v h => findV_mem h) | refine And.intro ?_ ?_)
end
end Go.X.Wr
end

section
set_option linter.unusedVariables false
set_option linter.unusedSimpArgs false
set_option linter.unusedSectionVars false
/- Wear: follow: forward. -/
set_option linter.unusedVariables false
set_option linter.unusedSimpArgs false
set_option maxRecDepth 10000
set_option maxHeartbeats 4000000
namespace Go.X.Wr
open Go Go.Proofs Go.X
open Go.X.W (regO getS getF exM_all' clB_at)
section
variable {G : Base} {w : Wd} {q : Qn} {es : List (Qn × (Nat → Sp))} {K : Ex → St → Prop}
theorem fwd (hG : ∀ j, 4 ≤ j → G.ρ j = none) (hw : wdOk w = true) (hq : kc 0 (q.lo, q.hi)) (hr : q.reads < 256)
    (hK : ∀ fn, K .normal ⟨(30, ⟨[], fnE⟩) :: F2, [], (12, .dead) :: L2 fn false w q es (arF w q w.n), 13, [(MARK, [.sp 11 0])]⟩) :
    SemC (X42 G) cF ⟨(30, ⟨[], fnE⟩) :: F2, [], E2 q false ++ A2 w q es (arF w q 0), 11, []⟩ K := by
  obtain ⟨_, hu, hn, hev⟩ := wdOk_b hw
  refine rangeFunc_ok (ok42 G) rfl rfl rfl b64 ?_
  intro fn
  refine callS_exec good0.ok Tryd.func64 (c := code Tryd.f64) rfl (Nat.le_of_ble_eq_true rfl) fun G2 hG2 => ?_
  refine loop_okR (good0.ok _ _ _) 13 (fun x : {i : Nat // i ≤ w.n} => ⟨P2 w x.1, [], L2 fn false w q es (arF w q x.1), 13, []⟩) (fun x => w.n - x.1) hG2 ⟨0, Nat.zero_le _⟩ (fun j => j) ?_ ?_
  · refine ⟨?_, ?_, rfl, rfl, rfl, rfl, trivial⟩ <;> repeat' (first | exact trivial | exact rfl | exact List.Perm.refl _ | (intro i hi; exact ⟨rfl, rfl⟩) | (intro v m g h; exact h) | refine findV_sub (List.forall_mem_cons.2 ⟨⟨rfl, rfl⟩, List.forall_mem_cons.2 ⟨⟨rfl, rfl⟩, List.forall_mem_cons.2 ⟨⟨rfl, rfl⟩, List.forall_mem_cons.2 ⟨⟨rfl, rfl⟩, fun p hp => by cases hp⟩⟩⟩⟩) (fun t v h => findV_mem h) | refine And.intro ?_ ?_)
  rintro ⟨i, hi⟩
  have hi : i ≤ w.n := hi
  refine Br.mk (fun h => ?_) (fun h => ?_)
  · have h : (i : Int) < (w.n : Int) := of_decide_eq_true h
    refine Br.mk (fun h => by cases h) (fun _ => ?_)
    refine fb_call (good0.ok _ _ _) cont_std rfl rfl rfl rfl ⟨b65, ?_⟩
    refine callS_at [.sp 3 0, .si .i64 (i : Int), .si .u64 (q.reads : Int)] (bkS w (enM es)) 4 (fun j => j) (by repeat' (first | exact trivial | exact rfl | refine And.intro ?_ ?_)) rfl (by repeat' (first | exact trivial | exact rfl | exact List.Perm.refl _ | (intro i hi; exact ⟨rfl, rfl⟩) | (intro v m g h; exact h) | refine And.intro ?_ ?_)) rfl rfl ?_
    refine s65 hw (by omega) hr fun e he => ?_
    have heb : efB e := by rw [he]; exact efA_b hw q (by omega)
    have hkb : kbS (arF w q i i) := by unfold arF; rw [if_pos (Nat.le_refl i)]; exact (fwV_c hw hq i hi).kbS (by omega)
    have har : ∀ j, j < 9 → arF w q (i + 1) j = if j = i + 1 then aftV e (arF w q i i) else arF w q i j := fun j _ => by
      unfold arF
      by_cases h1 : j = i + 1
      · subst h1; rw [if_pos (Nat.le_refl _), if_pos rfl, if_pos (Nat.le_refl _), he]; rfl
      · rw [if_neg h1]
        by_cases h2 : j ≤ i
        · rw [if_pos h2, if_pos (by omega)]
        · rw [if_neg h2, if_neg (by omega)]
    have heo := heb.ok
    clear he heb
    cases e
    all_goals
      refine ⟨rfl, (by repeat' (first | exact trivial | exact rfl | (intro i hi; exact ⟨rfl, rfl⟩) | refine And.intro ?_ ?_)), (by repeat' (first | exact trivial | exact rfl | (intro i hi; exact rfl) | refine And.intro ?_ ?_)), ?_⟩
      refine fb_yield 12 good0.ok (good0.ok _ _ _) cont_std rfl rfl rfl rfl rfl rfl rfl rfl rfl (by decide) ?_
      intro G3 r hG3
      refine any_region fol ?_
      refine any_weaken (st' := ⟨b9 i _, [], L9 fn false w q es (arF w q i), 13, []⟩) 13 (fun j => j) hG3 ?_ (reg9 (r := r) hG3 (by omega) heo hkb har ?_)
      · refine ⟨?_, ?_, rfl, rfl, rfl, rfl, trivial⟩ <;> repeat' (first | exact trivial | exact rfl | exact List.Perm.refl _ | (intro i hi; exact ⟨rfl, rfl⟩) | (intro v m g h; exact h) | refine findV_sub (List.forall_mem_cons.2 ⟨⟨rfl, rfl⟩, List.forall_mem_cons.2 ⟨⟨rfl, rfl⟩, List.forall_mem_cons.2 ⟨⟨rfl, rfl⟩, List.forall_mem_cons.2 ⟨⟨rfl, rfl⟩, fun p hp => by cases hp⟩⟩⟩⟩) (fun t v h => findV_mem h) | refine And.intro ?_ ?_)
      refine Br.mk (fun h => by cases h) (fun _ => ?_)
      refine Chk.mk (show InK .i64 ((i : Int) + 1) from ⟨by omega, by omega⟩) ⟨⟨i + 1, by omega⟩, (fun j => j), ?_, by show w.n - (i + 1) < w.n - i; omega⟩
      refine ⟨?_, ?_, rfl, rfl, rfl, rfl, trivial⟩ <;> repeat' (first | exact trivial | exact rfl | exact List.Perm.refl _ | (intro i hi; exact ⟨rfl, rfl⟩) | (intro v m g h; exact h) | refine findV_sub (List.forall_mem_cons.2 ⟨⟨rfl, rfl⟩, List.forall_mem_cons.2 ⟨⟨rfl, rfl⟩, List.forall_mem_cons.2 ⟨⟨rfl, rfl⟩, List.forall_mem_cons.2 ⟨⟨rfl, rfl⟩, fun p hp => by cases hp⟩⟩⟩⟩) (fun t v h => findV_mem h) | refine And.intro ?_ ?_)
  · have h : ¬ (i : Int) < (w.n : Int) := of_decide_eq_false h
    obtain rfl : i = w.n := by omega
    exact hK fn
end
end Go.X.Wr
end

section
set_option linter.unusedVariables false
set_option linter.unusedSimpArgs false
set_option linter.unusedSectionVars false
/- Wear: follow: back: what a round does, in whatever order. -/
set_option linter.unusedVariables false
set_option linter.unusedSimpArgs false
set_option maxRecDepth 10000
set_option maxHeartbeats 4000000
namespace Go.X.Wr
open Go Go.Proofs Go.X
open Go.X.W (regO getS getF exM_all' clB_at)

noncomputable def cB : Code := lpB 2 (code Tryd.f42)
def fnM : SV := .fn (.methodOf 125 "blockworks/wear.before") [] []
def V3 : List (Nat × SV) := [(0, .sp 3 0), (3, .sp 4 0), (4, .sp 5 0), (7, .se 7 0 0), (10, .sp 12 0)]
def F3 : List (Nat × FE) := [(0, ⟨[], .sp 3 0⟩), (3, ⟨[], .sp 4 0⟩), (4, ⟨[], .sp 5 0⟩), (7, ⟨[], .se 7 0 0⟩), (10, ⟨[], .sp 12 0⟩)]
def E3 (q : Qn) : List (Nat × HB) := (12, .cells 127 [fnM]) :: (11, .dfr) :: E2 q true
noncomputable def L3 (s : LoopState) (fn : Nat) (w : Wd) (q : Qn) (es : List (Qn × (Nat → Sp))) (ar : Nat → Sp) : List (Nat × HB) := (14, .loop V3 Tryd.f42.ntmps fn [49, 50] (rfa cB) (rfb cB) 13 s none) :: (13, .dfr) :: (E3 q ++ A2 w q es ar)
noncomputable def o14 : Array Oper := regO 14 (code Tryd.f42)
def ix14 (j : Nat) : Option Nat := if j < 13 then some j else none
def an14 : Nat → List Nat
  | 2 => [1]
  | 3 => [2]
  | 7 => [6]
  | 8 => [7]
  | 9 => [8]
  | 10 => [4, 5, 9]
  | 11 => [3, 10]
  | 12 => [11]
  | _ => []
theorem an14_lt : ∀ i, ∀ j ∈ an14 i, j < i := by
  intro i j hj
  unfold an14 at hj
  split at hj <;> simp at hj <;> omega
theorem lat14 : symX o14 15 13 ix14 (fun i => i) an14 z1 = true := by kernel_rfl
noncomputable def ar14 : List Bool → Array Bool := arrZ 15 ix14 z1
def sl14 (k : Nat) (e : Ef) (ar : Nat → Sp) : Nat → List (Nat × FE)
  | 0 => [(51, ⟨[], .si .i64 (k : Int)⟩)]
  | 1 => [(52, ⟨[], .si .i64 (k : Int)⟩)]
  | 2 => [(53, ⟨[], .se 7 (k : Int) 0⟩)]
  | 3 => [(54, ⟨[], .agg (spC (ar k))⟩)]
  | 4 => [(55, ⟨[], fnM⟩)]
  | 5 => [(56, ⟨[], efS e⟩)]
  | 6 => [(57, ⟨[], .si .i64 (k : Int)⟩)]
  | 7 => [(58, ⟨[], .si .i64 ((k : Int) + 1)⟩)]
  | 8 => [(59, ⟨[], .se 7 ((k : Int) + 1) 0⟩)]
  | 9 => [(60, ⟨[], .agg (spC (ar (k + 1)))⟩)]
  | 10 => [(61, ⟨[], .agg (spC (befV e (ar (k + 1))))⟩)]
  | 11 => [(62, ⟨[], .sl 15⟩)]
  | 12 => [(63, ⟨[], .agg (spC (bothV (ar k) (befV e (ar (k + 1)))))⟩)]
  | _ => []
def b14 (k : Nat) (e : Ef) : List (Nat × FE) := (11, ⟨[], .si .i64 (k : Int)⟩) :: (12, ⟨[], efS e⟩) :: F3
def rw14 (k : Nat) (e : Ef) (ar : Nat → Sp) : HB := .row 55 2 2 [.si .i64 (ar k).1, .si .i64 (ar k).2, .si .i64 (befV e (ar (k + 1))).1, .si .i64 (befV e (ar (k + 1))).2]
noncomputable def hh14 (fn : Nat) (w : Wd) (q : Qn) (es : List (Qn × (Nat → Sp))) (ar : Nat → Sp) (k : Nat) (e : Ef) : Bool → List (Nat × HB)
  | false => L3 .busy fn w q es ar
  | true => (15, rw14 k e ar) :: L3 .busy fn w q es ar
/-- The piece 15 has the number 16. -/
def sw14 (j : Nat) : Nat := if Nat.beq j 15 then 16 else j
section
variable {G : Base} {r : Option Nat} {fn : Nat} {w : Wd} {q : Qn} {es : List (Qn × (Nat → Sp))} {ar ar' : Nat → Sp} {k : Nat} {e : Ef} {K : Ex → St → Prop}
def St14 (G : Base) (r : Option Nat) (k : Nat) (e : Ef) (ar : Nat → Sp) (j : Nat) (H H' : List (Nat × HB)) (n n' : Nat) : Prop := ∃ o, o14[j]? = some o ∧ o.guard = none ∧ ∀ (tail : List (Nat × FE)) (Q : Exit → Act → World → Prop) (Kn : St → Prop), Cont (X9 G r) Q Kn (fun _ _ => False) → Kn ⟨sl14 k e ar j ++ ((an14 j).flatMap (sl14 k e ar) ++ (b14 k e ++ tail)), [], H', n', []⟩ →
  execL (X9 G r) [o] Q Kn (fun _ _ => False) 0 [o] ⟨(an14 j).flatMap (sl14 k e ar) ++ (b14 k e ++ tail), [], H, n, []⟩
theorem st14_0 (hi : k < 8) (j : Nat) (hj : j < 10) (b : Bool) : St14 G r k e ar j (hh14 fn w q es ar k e b) (hh14 fn w q es ar k e b) 16 16 := by
  rcases (show j = 7 ∨ j = 2 ∨ j = 8 ∨ j = 0 ∨ j = 1 ∨ j = 3 ∨ j = 4 ∨ j = 5 ∨ j = 6 ∨ j = 9 by omega) with rfl | rfl | rfl | rfl | rfl | rfl | rfl | rfl | rfl | rfl
  · cases b <;> exact ⟨_, rfl, rfl, fun tail Q Kn hC hK => Chk.mk (show InK .i64 ((k : Int) + 1) from ⟨by omega, by omega⟩) hK⟩
  · cases b <;> exact ⟨_, rfl, rfl, fun tail Q Kn hC hK => fb_indexA 7 9 2 (k : Int) (ok9 G r) hC rfl rfl rfl rfl rfl rfl rfl rfl rfl rfl rfl rfl ⟨by omega, by omega⟩ hK⟩
  · cases b <;> exact ⟨_, rfl, rfl, fun tail Q Kn hC hK => fb_indexA 7 9 2 ((k : Int) + 1) (ok9 G r) hC rfl rfl rfl rfl rfl rfl rfl rfl rfl rfl rfl rfl ⟨by omega, by omega⟩ hK⟩
  all_goals cases b <;> first | exact ⟨_, rfl, rfl, fun tail Q Kn hC hK => hK⟩ | (cases e <;> exact ⟨_, rfl, rfl, fun tail Q Kn hC hK => hK⟩)
theorem st14_10 (he : efOk e) (hk : kbS (ar (k + 1))) : St14 G r k e ar 10 (hh14 fn w q es ar k e false) ((0, .fam 2 gF) :: hh14 fn w q es ar k e false) 16 16 := by
  refine ⟨_, rfl, rfl, fun tail Q Kn hC hK => ?_⟩
  refine fb_callMO (beF e) (ok9 G r) hC rfl rfl rfl rfl rfl rfl rfl rfl rfl (me_be e) (bd_be e) ?_
  refine callS_at [efV e, .agg (spC (ar (k + 1)))] hG0 1 (fun j => j) (by cases e <;> repeat' (first | exact trivial | exact rfl | refine And.intro ?_ ?_)) (by cases e <;> rfl) (by repeat' (first | exact trivial | exact rfl | (intro v m g h; exact h) | refine And.intro ?_ ?_)) rfl rfl ?_
  exact s_be e he hk ⟨rfl, (by repeat' (first | exact trivial | exact rfl | refine And.intro ?_ ?_)), (by repeat' (first | exact trivial | exact rfl | refine And.intro ?_ ?_)), hK⟩
theorem st14_11 : ∃ o, o14[11]? = some o ∧ o.guard = none ∧ ∀ (tail : List (Nat × FE)) (Q : Exit → Act → World → Prop) (Kn : St → Prop), Cont (X9 G r) Q Kn (fun _ _ => False) → Kn ⟨[(62, ⟨[], .sl 16⟩)] ++ ((an14 11).flatMap (sl14 k e ar) ++ (b14 k e ++ tail)), [], (16, rw14 k e ar) :: hh14 fn w q es ar k e false, 17, []⟩ →
  execL (X9 G r) [o] Q Kn (fun _ _ => False) 0 [o] ⟨(an14 11).flatMap (sl14 k e ar) ++ (b14 k e ++ tail), [], hh14 fn w q es ar k e false, 16, []⟩ := ⟨_, rfl, rfl, fun tail Q Kn hC hK => hK⟩
theorem st14_12 (h1 : kbS (ar k)) (h2 : kbS (befV e (ar (k + 1)))) : St14 G r k e ar 12 (hh14 fn w q es ar k e true) ((0, .fam 2 gF) :: (15, rw14 k e ar) :: hh14 fn w q es ar k e true) 16 16 := by
  refine ⟨_, rfl, rfl, fun tail Q Kn hC hK => ?_⟩
  refine fb_call (ok9 G r) hC rfl rfl rfl rfl ⟨b56, ?_⟩
  refine callS_at [.sl 1] (bH (ar k) (befV e (ar (k + 1)))) 2 (fun j => match j with | 0 => 0 | _ => 15) (by repeat' (first | exact trivial | exact rfl | refine And.intro ?_ ?_)) rfl (by repeat' (first | exact trivial | exact rfl | (intro v m g h; exact h) | refine And.intro ?_ ?_)) rfl rfl ?_
  exact s56 h1 h2 ⟨rfl, (by repeat' (first | exact trivial | exact rfl | refine And.intro ?_ ?_)), (by repeat' (first | exact trivial | exact rfl | refine And.intro ?_ ?_)), hK⟩
theorem keep14 : keepN (fun j => j) 16 (b14 k e) ∧ ∀ j, j < 13 → keepN (fun j => j) 16 (sl14 k e ar j) := by
  refine ⟨?_, fun j hj => ?_⟩
  · cases e <;> repeat' (first | exact trivial | exact rfl | refine And.intro ?_ ?_)
  · rcases (show j = 0 ∨ j = 1 ∨ j = 2 ∨ j = 3 ∨ j = 4 ∨ j = 5 ∨ j = 6 ∨ j = 7 ∨ j = 8 ∨ j = 9 ∨ j = 10 ∨ j = 11 ∨ j = 12 by omega) with rfl | rfl | rfl | rfl | rfl | rfl | rfl | rfl | rfl | rfl | rfl | rfl | rfl <;> cases e <;> repeat' (first | exact trivial | exact rfl | refine And.intro ?_ ?_)
theorem keep14s : keepN sw14 16 (b14 k e) ∧ ∀ j, j < 13 → j ≠ 11 → keepN sw14 16 (sl14 k e ar j) := by
  refine ⟨?_, fun j hj hj2 => ?_⟩
  · cases e <;> repeat' (first | exact trivial | exact rfl | refine And.intro ?_ ?_)
  · rcases (show j = 0 ∨ j = 1 ∨ j = 2 ∨ j = 3 ∨ j = 4 ∨ j = 5 ∨ j = 6 ∨ j = 7 ∨ j = 8 ∨ j = 9 ∨ j = 10 ∨ j = 12 by omega) with rfl | rfl | rfl | rfl | rfl | rfl | rfl | rfl | rfl | rfl | rfl | rfl <;> cases e <;> repeat' (first | exact trivial | exact rfl | refine And.intro ?_ ?_)
theorem weak14a : NewR 15 (fun j => j) 16 (sl14 k e ar 10) (sl14 k e ar 10) ((0, .fam 2 gF) :: hh14 fn w q es ar k e false) (hh14 fn w q es ar k e false) [] := by
  refine ⟨?_, rfl, ?_, rfl, rfl, rfl, trivial⟩ <;> repeat' (first | exact trivial | exact rfl | exact List.Perm.refl _ | (intro i hi; exact ⟨rfl, rfl⟩) | (intro v m g h; exact h) | refine findV_sub (List.forall_mem_cons.2 ⟨⟨rfl, rfl⟩, List.forall_mem_cons.2 ⟨⟨rfl, rfl⟩, List.forall_mem_cons.2 ⟨⟨rfl, rfl⟩, List.forall_mem_cons.2 ⟨⟨rfl, rfl⟩, List.forall_mem_cons.2 ⟨⟨rfl, rfl⟩, fun p hp => by cases hp⟩⟩⟩⟩⟩) (fun t v h => findV_mem h) | refine And.intro ?_ ?_)
theorem weak14b : NewR 15 (fun j => j) 16 (sl14 k e ar 12) (sl14 k e ar 12) ((0, .fam 2 gF) :: (15, rw14 k e ar) :: hh14 fn w q es ar k e true) (hh14 fn w q es ar k e true) [] := by
  refine ⟨?_, rfl, ?_, rfl, rfl, rfl, trivial⟩ <;> repeat' (first | exact trivial | exact rfl | exact List.Perm.refl _ | (intro i hi; exact ⟨rfl, rfl⟩) | (intro v m g h; exact h) | refine findV_sub (List.forall_mem_cons.2 ⟨⟨rfl, rfl⟩, List.forall_mem_cons.2 ⟨⟨rfl, rfl⟩, List.forall_mem_cons.2 ⟨⟨rfl, rfl⟩, List.forall_mem_cons.2 ⟨⟨rfl, rfl⟩, List.forall_mem_cons.2 ⟨⟨rfl, rfl⟩, fun p hp => by cases hp⟩⟩⟩⟩⟩) (fun t v h => findV_mem h) | refine And.intro ?_ ?_)
theorem weak14c : NewR 15 sw14 16 [(62, ⟨[], .sl 16⟩)] (sl14 k e ar 11) ((16, rw14 k e ar) :: hh14 fn w q es ar k e false) (hh14 fn w q es ar k e true) [] := by
  refine ⟨?_, rfl, ?_, rfl, rfl, rfl, trivial⟩ <;> repeat' (first | exact trivial | exact rfl | exact List.Perm.refl _ | (intro i hi; exact ⟨rfl, rfl⟩) | (intro v m g h; exact h) | refine findV_sub (List.forall_mem_cons.2 ⟨⟨rfl, rfl⟩, List.forall_mem_cons.2 ⟨⟨rfl, rfl⟩, List.forall_mem_cons.2 ⟨⟨rfl, rfl⟩, List.forall_mem_cons.2 ⟨⟨rfl, rfl⟩, List.forall_mem_cons.2 ⟨⟨rfl, rfl⟩, fun p hp => by cases hp⟩⟩⟩⟩⟩) (fun t v h => findV_mem h) | refine And.intro ?_ ?_)
theorem no14 {l : List Bool} (hcl : clB2 an14 l = true) {a b : Nat} (hb : b ∈ an14 a) (h : l.getD b false = false) : l.getD a false = false := by
  cases h7 : l.getD a false with
  | false => rfl
  | true => have := clB_at (anc := an14) hcl h7 hb; rw [this] at h; cases h
theorem reg14 (hG : ∀ j, 15 ≤ j → G.ρ j = none) (hi : k < 8) (he : efOk e) (h0 : kbS (ar k)) (h1 : kbS (ar (k + 1))) (h2 : kbS (befV e (ar (k + 1)))) (har : ∀ j, j < 9 → ar' j = if j = k then bothV (ar k) (befV e (ar (k + 1))) else ar j)
    (hK : K .normal ⟨b14 k e, [], L3 .busy fn w q es ar', 16, []⟩) : AnyS (X9 G r) o14 15 (Array.replicate 15 false) ⟨b14 k e, [], L3 .busy fn w q es ar, 16, []⟩ K := by
  refine any_latN (D := []) (ok9 G r) 13 ar14 (fun i => i) (exM 13) (sl14 k e ar) (b14 k e) (fun l => hh14 fn w q es ar k e (l.getD 11 false)) (fun _ => 16) an14 2 15 hG (fun a ha j hj => by have := an14_lt a j hj; omega) (latX_sym lat14) ?_ ?_ ?_ (List.replicate 13 false) rfl (by decide)
  · repeat' (first | exact trivial | exact ⟨rfl, rfl⟩ | refine And.intro ?_ ?_)
  · intro j hj l hl' hf ha hcl
    have n11 : j ≠ 11 → (l.set j true).getD 11 false = l.getD 11 false := Go.X.W.getN
    have ee := getS (l := l) (i := j) (by omega)
    have fj := getF (l := l) (i := j) (by omega) hf
    by_cases h10 : j = 10
    · subst h10
      have f11 := no14 hcl (show 10 ∈ an14 11 by decide) fj
      rw [n11 (by decide), f11]
      obtain ⟨o, q1, q2, q3⟩ := st14_10 (G := G) (r := r) (fn := fn) (w := w) (q := q) (es := es) he h1
      exact ⟨o, q1, q2, .inr ⟨fun j => j, _, _, 16, weak14a, (keep14 (ar := ar)).1, fun k hk _ => keep14.2 k hk, q3⟩⟩
    by_cases h11 : j = 11
    · subst h11
      rw [ee, fj]
      obtain ⟨o, q1, q2, q3⟩ := st14_11 (G := G) (r := r) (fn := fn) (w := w) (q := q) (es := es) (e := e) (ar := ar) (k := k)
      exact ⟨o, q1, q2, .inr ⟨sw14, _, _, 17, weak14c, (keep14s (ar := ar)).1, fun k hk hk2 => keep14s.2 k hk hk2, q3⟩⟩
    by_cases h12 : j = 12
    · subst h12
      have f11 : l.getD 11 false = true := ha 11 (by decide)
      rw [n11 (by decide), f11]
      obtain ⟨o, q1, q2, q3⟩ := st14_12 (G := G) (r := r) (fn := fn) (w := w) (q := q) (es := es) h0 h2
      exact ⟨o, q1, q2, .inr ⟨fun j => j, _, _, 16, weak14b, (keep14 (ar := ar)).1, fun k hk _ => keep14.2 k hk, q3⟩⟩
    rw [n11 h11]
    obtain ⟨o, q1, q2, q3⟩ := st14_0 (G := G) (r := r) (fn := fn) (w := w) (q := q) (es := es) (e := e) (ar := ar) hi j (by omega) (l.getD 11 false)
    exact ⟨o, q1, q2, .inl q3⟩
  · intro l hl he
    obtain rfl := exM_all' hl he
    refine any_step [13] (ok9 G r) (by kernel_rfl) (by decide) ⟨?_, trivial⟩
    refine fb_indexA 7 9 2 (k : Int) (ok9 G r) cont_any rfl rfl rfl rfl rfl rfl rfl rfl rfl rfl rfl rfl ⟨by omega, by omega⟩ ?_
    refine any_step [14] (ok9 G r) (by kernel_rfl) (by decide) ⟨?_, trivial⟩
    refine fb_storeV 7 57 2 9 (k : Int) 0 (fun j => spC (ar j)) (fun j => spC (ar' j)) (spC (bothV (ar k) (befV e (ar (k + 1))))) (ok9 G r) cont_any rfl rfl rfl rfl rfl rfl rfl rfl rfl rfl ⟨by omega, by omega⟩ (Nat.le_refl 2) (fun j hj => ?_) ?_
    · show spC (ar' j) = _
      rw [har j hj, show (k : Int).toNat = k by omega]
      split
      · rfl
      · rfl
    refine any_weaken 15 (fun j => j) hG ?_ (any_done (by kernel_rfl) hK)
    refine ⟨?_, ?_, rfl, rfl, rfl, rfl, trivial⟩
    · cases e <;> repeat' (first | exact trivial | exact rfl | refine And.intro ?_ ?_)
    · repeat' (first | exact trivial | exact rfl | exact List.Perm.refl _ | (intro i hi; exact ⟨rfl, rfl⟩) | (intro v m g h; exact h) | refine findV_sub (List.forall_mem_cons.2 ⟨⟨rfl, rfl⟩, List.forall_mem_cons.2 ⟨⟨rfl, rfl⟩, List.forall_mem_cons.2 ⟨⟨rfl, rfl⟩, List.forall_mem_cons.2 ⟨⟨rfl, rfl⟩, List.forall_mem_cons.2 ⟨⟨rfl, rfl⟩, fun p hp => by cases hp⟩⟩⟩⟩⟩) (fun t v h => findV_mem h) | refine And.intro ?_ ?_)
end
end Go.X.Wr
end
