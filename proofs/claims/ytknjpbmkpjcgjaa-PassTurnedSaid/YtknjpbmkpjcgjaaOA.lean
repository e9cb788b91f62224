/- Contracts of functions of the package pass: small ones, chains compared, and the ways. -/
import Derived.Test.YtknjpbmkpjcgjaaMI
import Derived.Test.YtknjpbmkpjcgjaaMJ
import Derived.Test.YtknjpbmkpjcgjaaMG
import Derived.Test.YtknjpbmkpjcgjaaMF

section
set_option linter.unusedVariables false
set_option linter.unusedSimpArgs false
set_option linter.unusedSectionVars false
/- Pass: the small functions of the package. -/
set_option linter.unusedVariables false
set_option linter.unusedSimpArgs false
set_option maxRecDepth 10000
set_option maxHeartbeats 1000000
namespace Go.X.Ps
open Go Go.Proofs Go.X

noncomputable abbrev P : Program := Try.prog
def pl : List Nat := [49, 80, 112]
theorem pl_ok : PlainOk P pl := by
  intro t ht
  simp only [pl, List.mem_cons, List.not_mem_nil, or_false] at ht
  rcases ht with rfl | rfl | rfl
  · exact ⟨by kernel_rfl, by kernel_rfl, by decide⟩
  · exact ⟨by kernel_rfl, by kernel_rfl, by decide⟩
  · exact ⟨by kernel_rfl, by kernel_rfl, by decide⟩
noncomputable abbrev T : Tab := tabP P pl
theorem fol : P.follows .mixedOrders = true := by kernel_rfl
theorem good0 : Good P T [] := ⟨tabP_ok pl_ok, fun p h => by cases h⟩

def code (f : Func) : Code := match f.body with
  | some c => c
  | none => .skip
theorem under_of {F : Nat → Option FE} {p : Prop} (h : p) : ∀ {π : GP}, underGP F π p
  | [] => h
  | (a, b) :: r => by
    simp only [underGP]
    split
    · exact fun _ => under_of h
    · exact under_of h

/-! ### within, in -/
def inB (n lo hi : Int) : Bool := decide (lo ≤ n) && decide (n ≤ hi)
def c60 : Ct := plainCt fun
  | [.si .i64 a, .si .i64 b, .si .i64 c] => some ⟨none, none, .sb (inB a b c), []⟩
  | _ => none
theorem k60 {l : List (Nat × Ct)} (g : Good P T l) : COk P 60 c60 := cok (C := tabC l) g.ok Try.func60 (c := code Try.f60) rfl fun fr args H out h hp => by
  simp only [c60, plainCt] at h
  split at h
  · cases h
    refine walk_plain rfl (Nat.le_of_ble_eq_true rfl) fun G hG => ?_
    refine ⟨.inl rfl, end_plain rfl rfl rfl⟩
  · cases h
theorem g60 {l : List (Nat × Ct)} (g : Good P T l) : Good P T ((60, c60) :: l) := g.add (k60 g) (plainCt_mono _) (body_of Try.func60 (c := code Try.f60) rfl (by decide))
theorem k65 {l : List (Nat × Ct)} (g : Good P T l) : COk P 65 c60 := cok (C := tabC l) g.ok Try.func65 (c := code Try.f65) rfl fun fr args H out h hp => by
  simp only [c60, plainCt] at h
  split at h
  · cases h
    refine walk_plain rfl (Nat.le_of_ble_eq_true rfl) fun G hG => ?_
    refine ⟨.inl rfl, end_plain rfl rfl rfl⟩
  · cases h
theorem g65 {l : List (Nat × Ct)} (g : Good P T l) : Good P T ((65, c60) :: l) := g.add (k65 g) (plainCt_mono _) (body_of Try.func65 (c := code Try.f65) rfl (by decide))

/-! ### ask, answer -/
def refP (e : Int) : List PanicEntry := [{ v := .iface 99 (.int .i64 e), recovered := false }]
def c47 : Ct := plainCt fun
  | [.sb b, .si .i64 e] => some ⟨none, some (!b, refP e), .tup [], []⟩
  | _ => none
theorem k47 {l : List (Nat × Ct)} (g : Good P T l) : COk P 47 c47 := by
  refine cok (C := tabC _) g.ok Try.func47 (c := code Try.f47) rfl fun fr args H out h hp => ?_
  simp only [c47, plainCt] at h
  split at h
  · rename_i b e
    cases h
    refine walk_plain rfl (Nat.le_of_ble_eq_true rfl) fun G hG => ?_
    refine Br.mk (fun h => ?_) (fun h => ?_)
    · refine fb_panic cont_std rfl rfl rfl ?_
      exact ⟨by rw [h]; rfl, trivial⟩
    · exact ⟨.inr ⟨_, by rw [h]⟩, end_plain trivial rfl rfl⟩
  · cases h
theorem g47 {l : List (Nat × Ct)} (g : Good P T l) : Good P T ((47, c47) :: l) := g.add (k47 g) (plainCt_mono _) (body_of Try.func47 (c := code Try.f47) rfl (by decide))
theorem answer_ok : AnswerOk P 42 99 27 := by
  refine answer_of (T := T) (tabP_ok pl_ok) Try.func42 rfl (by decide) rfl rfl rfl rfl rfl rfl rfl rfl (by decide) (by decide) (by decide) (by decide) (by decide) ?_ ?_
  · intro x G hG
    refine Br.mk (fun h => by cases h) (fun _ => rfl)
  · intro x k m G hG
    refine Br.mk (fun _ => ?_) (fun h => by cases h)
    refine Br.mk (fun h => by cases h) (fun _ => rfl)

/-! ### isYear, isLimit -/
def c45 : Ct := plainCt fun
  | [.si .i64 a] => some ⟨none, none, .sb (inB a 0 20), []⟩
  | _ => none
theorem k45 {l : List (Nat × Ct)} (g0 : Good P T l) : COk P 45 c45 := by
  have g := g60 good0
  refine cok (C := tabC _) g.ok Try.func45 (c := code Try.f45) rfl fun fr args H out h hp => ?_
  simp only [c45, plainCt] at h
  split at h
  · cases h
    refine walk_plain rfl (Nat.le_of_ble_eq_true rfl) fun G hG => ?_
    exact ⟨.inl rfl, end_plain rfl rfl rfl⟩
  · cases h
theorem g45 {l : List (Nat × Ct)} (g : Good P T l) : Good P T ((45, c45) :: l) := g.add (k45 g) (plainCt_mono _) (body_of Try.func45 (c := code Try.f45) rfl (by decide))
def c56 : Ct := plainCt fun
  | [.si .i64 a] => some ⟨none, none, .sb (inB a 0 2000), []⟩
  | _ => none
theorem k56 {l : List (Nat × Ct)} (g0 : Good P T l) : COk P 56 c56 := by
  have g := g60 good0
  refine cok (C := tabC _) g.ok Try.func56 (c := code Try.f56) rfl fun fr args H out h hp => ?_
  simp only [c56, plainCt] at h
  split at h
  · cases h
    refine walk_plain rfl (Nat.le_of_ble_eq_true rfl) fun G hG => ?_
    exact ⟨.inl rfl, end_plain rfl rfl rfl⟩
  · cases h
theorem g56 {l : List (Nat × Ct)} (g : Good P T l) : Good P T ((56, c56) :: l) := g.add (k56 g) (plainCt_mono _) (body_of Try.func56 (c := code Try.f56) rfl (by decide))

/-! ### certificates: by, holds, adds -/
structure Pp where
  of : Int
  by_ : Int
  wr : Int
  yr : Int
  dr : Int
def ppC (x : Pp) : List SV := [.si .i64 x.of, .si .i64 x.by_, .si .i64 x.wr, .si .i64 x.yr, .si .i64 x.dr]
def ppAt (get : Nat → List SV) (i : Nat) : Pp := match get i with
  | [.si .i64 a, .si .i64 b, .si .i64 c, .si .i64 d, .si .i64 e] => ⟨a, b, c, d, e⟩
  | _ => ⟨0, 0, 0, 0, 0⟩
def Pps (n : Nat) (get : Nat → List SV) : Prop := ∀ i, i < n → get i = ppC (ppAt get i)
def c76 : Ct := plainCt fun
  | [.agg [.si .i64 it, .si .i64 y], .agg [.si .i64 a, .si .i64 b, .si .i64 c, .si .i64 d, .si .i64 e]] => some ⟨none, none, .agg [.si .i64 b, .si .i64 d], []⟩
  | _ => none
theorem k76 {l : List (Nat × Ct)} (g0 : Good P T l) : COk P 76 c76 := by
  have g := good0
  refine cok (C := tabC _) g.ok Try.func76 (c := code Try.f76) rfl fun fr args H out h hp => ?_
  simp only [c76, plainCt] at h
  split at h
  · cases h
    refine walk_plain rfl (Nat.le_of_ble_eq_true rfl) fun G hG => ?_
    exact ⟨.inl rfl, end_plain ⟨⟨rfl, rfl⟩, ⟨rfl, rfl⟩, trivial⟩ rfl rfl⟩
  · cases h
theorem g76 {l : List (Nat × Ct)} (g : Good P T l) : Good P T ((76, c76) :: l) := g.add (k76 g) (plainCt_mono _) (body_of Try.func76 (c := code Try.f76) rfl (by decide))
def holdsV (it y : Int) (x : Pp) (age : Int) : Bool := decide (x.of = it) && inB y x.yr (x.yr + age)
def c92 : Ct := plainCt fun
  | [.agg [.si .i64 it, .si .i64 y], .agg [.si .i64 a, .si .i64 b, .si .i64 c, .si .i64 d, .si .i64 e], .si .i64 age] => some ⟨some (InK .i64 (d + age)), none, .sb (holdsV it y ⟨a, b, c, d, e⟩ age), []⟩
  | _ => none
theorem k92 {l : List (Nat × Ct)} (g0 : Good P T l) : COk P 92 c92 := by
  have g := g60 good0
  refine cok (C := tabC _) g.ok Try.func92 (c := code Try.f92) rfl fun fr args H out h hp => ?_
  simp only [c92, plainCt] at h
  split at h
  · rename_i it y a b c d e age
    cases h
    have hp : InK .i64 (d + age) := hp
    refine walk_plain rfl (Nat.le_of_ble_eq_true rfl) fun G hG => ?_
    refine Chk.mk (under_of hp) ?_
    exact ⟨.inl rfl, end_plain rfl rfl rfl⟩
  · cases h
theorem g92 {l : List (Nat × Ct)} (g : Good P T l) : Good P T ((92, c92) :: l) := g.add (k92 g) (plainCt_mono _) (body_of Try.func92 (c := code Try.f92) rfl (by decide))
def addsV (y : Int) (x : Pp) : Int := x.wr + x.dr * (y - x.yr)
def c79 : Ct := plainCt fun
  | [.agg [.si .i64 it, .si .i64 y], .agg [.si .i64 a, .si .i64 b, .si .i64 c, .si .i64 d, .si .i64 e]] => some ⟨some (InK .i64 (y - d) ∧ InK .i64 (e * (y - d)) ∧ InK .i64 (c + e * (y - d))), none, .si .i64 (addsV y ⟨a, b, c, d, e⟩), []⟩
  | _ => none
theorem k79 {l : List (Nat × Ct)} (g0 : Good P T l) : COk P 79 c79 := by
  have g := good0
  refine cok (C := tabC _) g.ok Try.func79 (c := code Try.f79) rfl fun fr args H out h hp => ?_
  simp only [c79, plainCt] at h
  split at h
  · rename_i it y a b c d e
    cases h
    obtain ⟨h1, h2, h3⟩ : InK .i64 (y - d) ∧ InK .i64 (e * (y - d)) ∧ InK .i64 (c + e * (y - d)) := hp
    refine walk_plain rfl (Nat.le_of_ble_eq_true rfl) fun G hG => ?_
    refine Chk.mk h1 (Chk.mk h2 (Chk.mk h3 ?_))
    exact ⟨.inl rfl, end_plain ⟨rfl, rfl⟩ rfl rfl⟩
  · cases h
theorem g79 {l : List (Nat × Ct)} (g : Good P T l) : Good P T ((79, c79) :: l) := g.add (k79 g) (plainCt_mono _) (body_of Try.func79 (c := code Try.f79) rfl (by decide))
end Go.X.Ps
end

section
set_option linter.unusedVariables false
set_option linter.unusedSimpArgs false
set_option linter.unusedSectionVars false
/- Pass: is a set of certificates valid? -/
set_option linter.unusedVariables false
set_option linter.unusedSimpArgs false
set_option maxRecDepth 10000
set_option maxHeartbeats 2000000
namespace Go.X.Ps
open Go Go.Proofs Go.X

/-- The cells of certificates, by the id of their list. -/
def paA (i1 : Nat) (it ag : Int) : List SV := [.si .i64 it, .si .i64 ag, .sl i1]
def passK (H : LH) (l : List SV) (K : Nat → Int → Int → (n : Nat) → (Nat → List SV) → Option COut) : Option COut :=
  match l with
  | [.si .i64 it, .si .i64 ag, .sl i1] => (match sliceOf 5 H i1 with
    | some (n, get) => K i1 it ag n get
    | none => none)
  | _ => none
theorem passK_some {H : LH} {l : List SV} {K : Nat → Int → Int → (n : Nat) → (Nat → List SV) → Option COut} {out : COut} (h : passK H l K = some out) :
    ∃ i1 it ag n get, l = paA i1 it ag ∧ sliceOf 5 H i1 = some (n, get) ∧ K i1 it ag n get = some out := by
  unfold passK at h
  split at h
  · split at h
    · rename_i e1
      exact ⟨_, _, _, _, _, rfl, e1, h⟩
    · cases h
  · cases h
theorem passK_mono {H H' : LH} {l : List SV} {K : Nat → Int → Int → (n : Nat) → (Nat → List SV) → Option COut} {out : COut} (hH : ∀ id hb, H id = some hb → H' id = some hb) (h : passK H l K = some out) : passK H' l K = some out := by
  unfold passK at h ⊢
  split at h
  · split at h
    · rename_i e1
      simp only [sliceOf_mono hH e1]
      exact h
    · cases h
  · cases h
theorem pps_i (n : Nat) (L : Nat → Pp) : Pps n (fun i => ppC (L i)) := fun i hi => rfl
theorem pp_hand {H : LH} {i1 n : Nat} {get : Nat → List SV} (e1 : sliceOf 5 H i1 = some (n, get)) (hs : Pps n get) : Hand H [(i1, .ro 5 n fun i => ppC (ppAt get i))] :=
  hand_one e1 (fun i => rfl) (fun i hi => (hs i hi).symm)

def badV (it : Int) (x : Pp) : Bool := !inB x.of 0 (it - 1) || !inB x.by_ (-1) (it - 1) || decide (x.by_ = x.of) || !inB x.wr 0 50 || !inB x.yr 0 20 || !inB x.dr 0 10
def c82 : Ct := fun fr args H => match args with
  | [.agg [.si .i64 a, .si .i64 b, .si .i64 c, .si .i64 d, .si .i64 e], .sp px 0] => (match H px with
    | some (.cells 24 l) => passK H l fun i1 it ag n get => some ⟨some (Pps n get ∧ 1 ≤ it ∧ it ≤ 6), none, .sb (badV it ⟨a, b, c, d, e⟩), []⟩
    | _ => none)
  | _ => none
theorem c82_mono : CtMono c82 := by
  intro fr args H H' out hH h
  unfold c82 at h ⊢
  split at h
  · split at h
    · rename_i e
      simp only [hH _ _ e]
      exact passK_mono hH h
    · cases h
  · cases h
theorem k82 {l : List (Nat × Ct)} (g0 : Good P T l) : COk P 82 c82 := by
  have g := g60 good0
  refine cok (C := tabC _) g.ok Try.func82 (c := code Try.f82) rfl fun fr args H out h hp => ?_
  unfold c82 at h
  split at h
  case h_2 => cases h
  rename_i a b c d e px
  split at h
  case h_2 => cases h
  rename_i l e2
  obtain ⟨i1, it, ag, n, get, rfl, e1, h⟩ := passK_some h
  cases h
  obtain ⟨hs, h1, h6⟩ : Pps n get ∧ 1 ≤ it ∧ it ≤ 6 := hp
  have hh : Hand H [(i1, .ro 5 n fun i => ppC (ppAt get i)), (px, .cells 24 (paA 0 it ag))] := hand_mk ⟨sliceOf_piece e1 fun i hi => (hs i hi).symm, e2, trivial⟩ (by repeat' (first | exact trivial | (intro i hi; exact ⟨trivial, trivial, trivial, trivial, trivial, trivial⟩) | refine And.intro ?_ ?_ | exact (by decide : (0 : Nat) < 2))) rfl
  refine ⟨[(i1, .ro 5 n fun i => ppC (ppAt get i)), (px, .cells 24 (paA 0 it ag))], [.agg [.si .i64 a, .si .i64 b, .si .i64 c, .si .i64 d, .si .i64 e], .sp 1 0], [(0, .ro 5 n fun i => ppC (ppAt get i)), (1, .cells 24 (paA 0 it ag))], 2, [], rfl, rfl, Nat.le_of_ble_eq_true rfl, hh, rfl, rfl, fun G hG => ?_⟩
  have hi : InK .i64 (it - 1) := ⟨by omega, by omega⟩
  refine Chk.mk hi (Chk.mk (under_of hi) ?_)
  exact ⟨.inl rfl, end_noid rfl rfl rfl (by repeat' (first | exact trivial | exact rfl | (intro i hi; exact ⟨rfl, rfl⟩) | refine And.intro ?_ ?_))⟩
theorem g82 {l : List (Nat × Ct)} (g : Good P T l) : Good P T ((82, c82) :: l) := g.add (k82 g) c82_mono (body_of Try.func82 (c := code Try.f82) rfl (by decide))

/-! ### IndexFunc, ContainsFunc of certificates -/
/-- The first number of which something is so; -1: of none. -/
def idxV (q : Nat → Bool) (n : Nat) : Int := match (List.range n).find? q with
  | some i => i
  | none => -1
theorem idxV_none {q : Nat → Bool} {n : Nat} (h : ∀ i, i < n → q i = false) : idxV q n = -1 := by
  unfold idxV
  rw [List.find?_eq_none.2]
  intro x hx
  rw [h x (List.mem_range.1 hx)]
  exact Bool.false_ne_true
theorem idxV_some {q : Nat → Bool} {n i : Nat} (hi : i < n) (hq : q i = true) (h : ∀ j, j < i → q j = false) : idxV q n = i := by
  unfold idxV
  have : (List.range n).find? q = some i := by
    rw [List.find?_range_eq_some]
    exact ⟨hq, List.mem_range.2 hi, fun j hj => by rw [h j hj]; rfl⟩
  rw [this]
theorem idxV_any {q : Nat → Bool} {n : Nat} : decide (0 ≤ idxV q n) = (List.range n).any q := by
  cases h : (List.range n).any q with
  | false =>
    rw [List.any_eq_false] at h
    rw [idxV_none (fun i hi => by simpa using h i (List.mem_range.2 hi))]
    decide
  | true =>
    rw [List.any_eq_true] at h
    unfold idxV
    cases e : (List.range n).find? q with
    | some i => simp
    | none =>
      rw [List.find?_eq_none] at e
      obtain ⟨x, h1, h2⟩ := h
      exact absurd h2 (e x h1)
def badK (k : (Nat → Bool) → Nat → SV) : Ct := fun fr args H => match args with
  | [.sl lid, .fn (.func 82) [] [.sp px 0]] => (match sliceOf 5 H lid, H px with
    | some (m, g2), some (.cells 24 l) => passK H l fun i1 it ag n get => some ⟨some ((Pps m g2 ∧ Pps n get) ∧ m ≤ 1000000 ∧ 1 ≤ it ∧ it ≤ 6), none, k (fun i => badV it (ppAt g2 i)) m, []⟩
    | _, _ => none)
  | _ => none
theorem badK_mono (k : (Nat → Bool) → Nat → SV) : CtMono (badK k) := by
  intro fr args H H' out hH h
  unfold badK at h ⊢
  split at h
  · split at h
    · rename_i e1 e2
      simp only [sliceOf_mono hH e1, hH _ _ e2]
      exact passK_mono hH h
    · cases h
  · cases h
def bdP (lid i1 px m n : Nat) (it ag : Int) (r2 rd : Nat → Pp) : List (Nat × HB) := [(lid, .ro 5 m fun i => ppC (r2 i)), (i1, .ro 5 n fun i => ppC (rd i)), (px, .cells 24 (paA 1 it ag))]
def bdH (m n : Nat) (it ag : Int) (r2 rd : Nat → Pp) : List (Nat × HB) := [(0, .ro 5 m fun i => ppC (r2 i)), (1, .ro 5 n fun i => ppC (rd i)), (2, .cells 24 (paA 1 it ag))]
theorem badWalk {C : Nat → Option Ct} {fn : Func} {c : Code} {k : (Nat → Bool) → Nat → SV} {fr : Nat} {args : List SV} {H : LH} {out : COut} (hk : ∀ q m, knSV 0 [] (k q m) = true) (ho : badK k fr args H = some out) (hp : PreH out.pre) (hl : 2 ≤ fn.ntmps)
    (h : ∀ (m n : Nat) (it ag : Int) (r2 rd : Nat → Pp) (Rv : SV → St → Prop) (Rp : List PanicEntry → St → Prop), m ≤ 1000000 → 1 ≤ it → it ≤ 6 → (∀ v' st, SVeq v' (k (fun i => badV it (r2 i)) m) → keepP st.H (bdH m n it ag r2 rd) → knSV 0 [] v' = true → Rv v' st) →
      ∀ G : Base, (∀ j, 3 ≤ j → G.ρ j = none) → exec ⟨P, T, C, G, none, fn.ntmps⟩ c (start [.sl 0, .fn (.func 82) [] [.sp 2 0]] (bdH m n it ag r2 rd) 3) (Fin ⟨P, T, C, G, none, fn.ntmps⟩ fn.results.toList Rv Rp)) : Walk P T C fn c H args fr out := by
  unfold badK at ho
  split at ho
  case h_2 => cases ho
  rename_i lid px
  split at ho
  case h_2 => cases ho
  rename_i m g2 l e1 e2
  obtain ⟨i1, it, ag, n, get, rfl, e3, ho⟩ := passK_some ho
  cases ho
  obtain ⟨⟨hs2, hs⟩, hm, h1, h6⟩ : (Pps m g2 ∧ Pps n get) ∧ m ≤ 1000000 ∧ 1 ≤ it ∧ it ≤ 6 := hp
  have hh : Hand H (bdP lid i1 px m n it ag (ppAt g2) (ppAt get)) := hand_mk ⟨sliceOf_piece e1 fun i hi => (hs2 i hi).symm, sliceOf_piece e3 fun i hi => (hs i hi).symm, e2, trivial⟩
    (by repeat' (first | exact trivial | (intro i hi; exact ⟨trivial, trivial, trivial, trivial, trivial, trivial⟩) | refine And.intro ?_ ?_ | exact (by decide : (1 : Nat) < 3))) rfl
  refine ⟨bdP lid i1 px m n it ag (ppAt g2) (ppAt get), [.sl 0, .fn (.func 82) [] [.sp 2 0]], _, 3, [], rfl, rfl, hl, hh, rfl, rfl, ?_⟩
  exact h m n it ag (ppAt g2) (ppAt get) _ _ hm h1 h6 (fun v' st k1 k2 k3 => ⟨.inl rfl, end_noid k1 k3 rfl k2⟩)
def c94 : Ct := badK fun q m => .si .i64 (idxV q m)
theorem k94 {l : List (Nat × Ct)} (g0 : Good P T l) : COk P 94 c94 := by
  have g := g82 good0
  refine cok (C := tabC _) g.ok Try.func94 (c := code Try.f94) rfl fun fr args H out h hp => badWalk (fun _ _ => rfl) h hp (Nat.le_of_ble_eq_true rfl) fun m n it ag r2 rd Rv Rp hm h1 h6 hR G hG => ?_
  refine loop_ok (g.ok _ _ _) (fun z : {i : Nat // i ≤ m ∧ ∀ j, j < i → badV it (r2 j) = false} => ⟨[(0, ⟨[], .sl 0⟩), (1, ⟨[], .fn (.func 82) [] [.sp 2 0]⟩), (7, ⟨[], .si .i64 m⟩), (8, ⟨[], .si .i64 z.1⟩)], [], bdH m n it ag r2 rd, 3, []⟩)
    (fun z => m - z.1) (fun _ j hj => hG j hj) ⟨0, Nat.zero_le _, fun j hj => by omega⟩ ?_ ?_
  · refine ⟨?_, ?_, rfl, rfl, rfl⟩ <;> repeat' (first | exact trivial | exact rfl | (intro i hi; exact rfl) | refine And.intro ?_ ?_)
  · rintro ⟨i, hi, hall⟩
    refine Br.mk (fun h => ?_) (fun h => ?_)
    · have h : (i : Int) < (m : Int) := of_decide_eq_true h
      refine Chk.mk (show (0 : Int) ≤ (i : Int) ∧ (i : Int) < (m : Int) from ⟨by omega, h⟩) (Chk.mk ⟨pps_i _ _, h1, h6⟩ ?_)
      refine Br.mk (fun h2 => ?_) (fun h2 => ?_)
      · have h2 : badV it (r2 i) = true := h2
        have e := idxV_some (q := fun i => badV it (r2 i)) (n := m) (by omega) h2 hall
        refine hR _ _ ⟨rfl, e.symm⟩ ?_ rfl
        repeat' (first | exact trivial | exact rfl | refine And.intro ?_ ?_)
      · have h2 : badV it (r2 i) = false := h2
        refine Chk.mk (show InK .i64 ((i : Int) + 1) from ⟨by omega, by omega⟩) ⟨⟨i + 1, by omega, fun j hj => ?_⟩, ?_, by show m - (i + 1) < m - i; omega⟩
        · rcases Nat.lt_or_eq_of_le (show j ≤ i by omega) with h | h
          · exact hall j h
          · subst h; exact h2
        · refine ⟨?_, ?_, rfl, rfl, rfl⟩ <;> repeat' (first | exact trivial | exact rfl | (intro i hi; exact rfl) | refine And.intro ?_ ?_)
    · have h : ¬ (i : Int) < (m : Int) := of_decide_eq_false h
      have e := idxV_none (q := fun i => badV it (r2 i)) (n := m) (fun j hj => hall j (by omega))
      refine hR _ _ ⟨rfl, e.symm⟩ ?_ rfl
      repeat' (first | exact trivial | exact rfl | refine And.intro ?_ ?_)
theorem g94 {l : List (Nat × Ct)} (g : Good P T l) : Good P T ((94, c94) :: l) := g.add (k94 g) (badK_mono _) (body_of Try.func94 (c := code Try.f94) rfl (by decide))
def c83 : Ct := badK fun q m => .sb ((List.range m).any q)
theorem k83 {l : List (Nat × Ct)} (g0 : Good P T l) : COk P 83 c83 := by
  have g := g94 good0
  refine cok (C := tabC _) g.ok Try.func83 (c := code Try.f83) rfl fun fr args H out h hp => badWalk (fun _ _ => rfl) h hp (Nat.le_of_ble_eq_true rfl) fun m n it ag r2 rd Rv Rp hm h1 h6 hR G hG => ?_
  refine Chk.mk ⟨⟨pps_i _ _, pps_i _ _⟩, hm, h1, h6⟩ (hR _ _ idxV_any ?_ rfl)
  repeat' (first | exact trivial | exact rfl | refine And.intro ?_ ?_)
theorem g83 {l : List (Nat × Ct)} (g : Good P T l) : Good P T ((83, c83) :: l) := g.add (k83 g) (badK_mono _) (body_of Try.func83 (c := code Try.f83) rfl (by decide))

/-! ### valid -/
def papL (n : Nat) (get : Nat → List SV) : List Pp := (List.range n).map (ppAt get)
def validV (it ag : Int) (ps : List Pp) : Bool := inB it 1 6 && (inB ag 0 20 && (decide (ps.length ≤ 8) && !ps.any (badV it)))
def c59 : Ct := fun fr args H => match args with
  | [.agg l] => passK H l fun i1 it ag n get => some ⟨some (Pps n get ∧ n ≤ 1000000), none, .sb (validV it ag (papL n get)), []⟩
  | _ => none
theorem c59_mono : CtMono c59 := by
  intro fr args H H' out hH h
  unfold c59 at h ⊢
  split at h
  · exact passK_mono hH h
  · cases h
theorem k59 {l : List (Nat × Ct)} (g0 : Good P T l) : COk P 59 c59 := by
  have g := g60 (g83 good0)
  refine cok (C := tabC _) g.ok Try.func59 (c := code Try.f59) rfl fun fr args H out h hp => ?_
  unfold c59 at h
  split at h
  case h_2 => cases h
  rename_i l
  obtain ⟨i1, it, ag, n, get, rfl, e1, h⟩ := passK_some h
  cases h
  obtain ⟨hs, hn⟩ : Pps n get ∧ n ≤ 1000000 := hp
  refine ⟨[(i1, .ro 5 n fun i => ppC (ppAt get i))], [.agg (paA 0 it ag)], [(0, .ro 5 n fun i => ppC (ppAt get i))], 1, [], rfl, rfl, Nat.le_of_ble_eq_true rfl, pp_hand e1 hs, rfl, rfl, fun G hG => ?_⟩
  unfold papL
  generalize ppAt get = L
  refine Chk.mk (fun h => ?_) ?_
  · have h : (inB it 1 6 && inB ag 0 20 && decide ((n : Int) ≤ 8)) = true := h
    simp only [inB, Bool.and_eq_true, decide_eq_true_eq] at h
    exact ⟨⟨pps_i _ _, pps_i _ _⟩, hn, h.1.1.1, h.1.1.2⟩
  refine ⟨.inl rfl, end_noid ?_ rfl rfl (by repeat' (first | exact trivial | exact rfl | (intro i hi; exact ⟨rfl, rfl⟩) | refine And.intro ?_ ?_))⟩
  show (inB it 1 6 && inB ag 0 20 && decide ((n : Int) ≤ 8) && !(List.range n).any fun i => badV it (L i)) = validV it ag ((List.range n).map L)
  rw [validV, List.any_map, List.length_map, List.length_range, show decide (n ≤ 8) = decide ((n : Int) ≤ 8) from by apply decide_eq_decide.2; omega]
  simp only [Bool.and_assoc]
  rfl
theorem g59 {l : List (Nat × Ct)} (g : Good P T l) : Good P T ((59, c59) :: l) := g.add (k59 g) c59_mono (body_of Try.func59 (c := code Try.f59) rfl (by decide))
end Go.X.Ps
end

section
set_option linter.unusedVariables false
set_option linter.unusedSimpArgs false
set_option linter.unusedSectionVars false
/- Pass: certificates that are looked at. -/
set_option linter.unusedVariables false
set_option linter.unusedSimpArgs false
set_option maxRecDepth 10000
set_option maxHeartbeats 2000000
namespace Go.X.Ps
open Go Go.Proofs Go.X

/-- An office's cells: by the ids of the list and of the map. -/
def ofC (i1 mid : Nat) (it ag : Int) : List SV := [.si .i64 it, .si .i64 ag, .sl i1, .sm mid]
def c63 : Ct := fun fr args H => match args with
  | [.agg l] => passK H l fun i1 it ag n get => some ⟨some (Pps n get), none, .sp fr 0, [(fr, .cells 108 (ofC i1 (fr + 1) it ag)), (fr + 1, .mp [])]⟩
  | _ => none
theorem c63_mono : CtMono c63 := by
  intro fr args H H' out hH h
  unfold c63 at h ⊢
  split at h
  · exact passK_mono hH h
  · cases h
theorem k63 {l : List (Nat × Ct)} (g0 : Good P T l) : COk P 63 c63 := by
  have g := good0
  refine cok (C := tabC _) g.ok Try.func63 (c := code Try.f63) rfl fun fr args H out h hp => ?_
  unfold c63 at h
  split at h
  case h_2 => cases h
  rename_i l
  obtain ⟨i1, it, ag, n, get, rfl, e1, h⟩ := passK_some h
  cases h
  have hs : Pps n get := hp
  refine ⟨[(i1, .ro 5 n fun i => ppC (ppAt get i))], [.agg (paA 0 it ag)], [(0, .ro 5 n fun i => ppC (ppAt get i))], 1, [3, 2], rfl, rfl, Nat.le_of_ble_eq_true rfl, pp_hand e1 hs, rfl, rfl, fun G hG => ?_⟩
  refine fb_makeMap (g.ok _ _ _) cont_std rfl rfl rfl rfl rfl ?_
  refine ⟨.inl rfl, ⟨?_, rfl, ?_, ?_, rfl, rfl⟩⟩ <;> repeat' (first | exact trivial | exact rfl | exact List.Perm.refl _ | (intro i hi; exact ⟨rfl, rfl⟩) | refine And.intro ?_ ?_)
theorem g63 {l : List (Nat × Ct)} (g : Good P T l) : Good P T ((63, c63) :: l) := g.add (k63 g) c63_mono (body_of Try.func63 (c := code Try.f63) rfl (by decide))
def errO (v is : Bool) : Int := if v = true then (if is = true then 0 else 2) else 1
def c43 : Ct := fun fr args H => match args with
  | [.agg l, .sb is] => passK H l fun i1 it ag n get => some ⟨some (Pps n get ∧ n ≤ 1000000), some (!decide (errO (validV it ag (papL n get)) is = 0), refP (errO (validV it ag (papL n get)) is)), .sp fr 0, [(fr, .cells 108 (ofC i1 (fr + 1) it ag)), (fr + 1, .mp [])]⟩
  | _ => none
theorem c43_mono : CtMono c43 := by
  intro fr args H H' out hH h
  unfold c43 at h ⊢
  split at h
  · exact passK_mono hH h
  · cases h
theorem k43 {l : List (Nat × Ct)} (g0 : Good P T l) : COk P 43 c43 := by
  have g := g47 (g59 (g63 good0))
  refine cok (C := tabC _) g.ok Try.func43 (c := code Try.f43) rfl fun fr args H out h hp => ?_
  unfold c43 at h
  split at h
  case h_2 => cases h
  rename_i l is
  obtain ⟨i1, it, ag, n, get, rfl, e1, h⟩ := passK_some h
  cases h
  obtain ⟨hs, hn⟩ : Pps n get ∧ n ≤ 1000000 := hp
  refine ⟨[(i1, .ro 5 n fun i => ppC (ppAt get i))], [.agg (paA 0 it ag), .sb is], [(0, .ro 5 n fun i => ppC (ppAt get i))], 1, [2, 3], rfl, rfl, Nat.le_of_ble_eq_true rfl, pp_hand e1 hs, rfl, rfl, fun G hG => ?_⟩
  unfold papL
  generalize ppAt get = L
  obtain ⟨V, hV⟩ : ∃ V, validV it ag ((List.range n).map L) = V := ⟨_, rfl⟩
  rw [hV]
  refine Chk.mk ⟨pps_i _ _, hn⟩ ?_
  cases V with
  | false =>
    refine Br.mk (fun h => ?_) (fun h => ?_)
    · exact ⟨rfl, trivial, trivial⟩
    · have h : (!validV it ag ((List.range n).map L)) = false := h
      rw [hV] at h
      cases h
  | true =>
    refine Br.mk (fun h => ?_) (fun _ => ?_)
    · have h : (!validV it ag ((List.range n).map L)) = true := h
      rw [hV] at h
      cases h
    cases is with
    | false =>
      refine Br.mk (fun h => ?_) (fun h => by cases h)
      exact ⟨rfl, trivial, trivial⟩
    | true =>
      refine Br.mk (fun h => by cases h) (fun _ => ?_)
      refine Chk.mk (pps_i _ _) ?_
      refine ⟨.inr ⟨_, rfl⟩, ⟨?_, rfl, ?_, ?_, rfl, rfl⟩⟩ <;> repeat' (first | exact trivial | exact rfl | exact List.Perm.refl _ | (intro i hi; exact ⟨rfl, rfl⟩) | refine And.intro ?_ ?_)
theorem g43 {l : List (Nat × Ct)} (g : Good P T l) : Good P T ((43, c43) :: l) := g.add (k43 g) c43_mono (body_of Try.func43 (c := code Try.f43) rfl (by decide))
end Go.X.Ps
end

section
set_option linter.unusedVariables false
set_option linter.unusedSimpArgs false
set_option linter.unusedSectionVars false
/- Pass: is an item one of those that are there? -/
set_option linter.unusedVariables false
set_option linter.unusedSimpArgs false
set_option maxRecDepth 10000
set_option maxHeartbeats 2000000
namespace Go.X.Ps
open Go Go.Proofs Go.X

/-- Contracts that do not ask in which words a number is told. -/
def isItemV (it n : Int) : Bool := inB n 0 (IntKind.i64.wrap (it - 1))
def c44' : Ct := fun fr args H => match args with
  | [.agg [.sv (.int .i64 it), .si .i64 ag, .sl i1], .si .i64 m] => (match sliceOf 5 H i1 with
    | some (n, get) => some ⟨some (Pps n get), none, .sb (isItemV it m), []⟩
    | none => none)
  | _ => none
theorem k44' {l : List (Nat × Ct)} (g0 : Good P T l) : COk P 44 c44' := by
  have g := g60 good0
  refine cok (C := tabC _) g.ok Try.func44 (c := code Try.f44) rfl fun fr args H out h hp => ?_
  unfold c44' at h
  split at h
  case h_2 => cases h
  rename_i it ag i1 m
  split at h
  case h_2 => cases h
  rename_i n get e1
  cases h
  have hs : Pps n get := hp
  refine ⟨[(i1, .ro 5 n fun i => ppC (ppAt get i))], [.agg [.sv (.int .i64 it), .si .i64 ag, .sl 0], .si .i64 m], [(0, .ro 5 n fun i => ppC (ppAt get i))], 1, [], rfl, rfl, Nat.le_of_ble_eq_true rfl, pp_hand e1 hs, rfl, rfl, fun G hG => ?_⟩
  refine fb_wrapSub .i64 it 1 (g.ok _ _ _) cont_std rfl rfl rfl rfl rfl rfl rfl ?_
  refine ⟨.inl rfl, end_noid rfl rfl rfl (by repeat' (first | exact trivial | exact rfl | (intro i hi; exact ⟨rfl, rfl⟩) | refine And.intro ?_ ?_))⟩
def c44 : Ct := fun fr args H => match args with
  | [.agg l, .si .i64 m] => passK H l fun i1 it ag n get => some ⟨some (Pps n get), none, .sb (isItemV it m), []⟩
  | _ => none
theorem c44_mono : CtMono c44 := by
  intro fr args H H' out hH h
  unfold c44 at h ⊢
  split at h
  · exact passK_mono hH h
  · cases h
theorem c44_of {f : Nat} (k : COk P f c44') : COk P f c44 := by
  intro ρ H w fr args vals out hm hfr hd hct hpre
  unfold c44 at hct
  split at hct
  case h_2 => cases hct
  rename_i l m
  obtain ⟨i1, it, ag, n, get, rfl, e1, h⟩ := passK_some hct
  refine k ρ H w fr [.agg [.sv (.int .i64 it), .si .i64 ag, .sl i1], .si .i64 m] vals out hm hfr ?_ ?_ hpre
  · rw [← hd]
    rfl
  · unfold c44'
    simp only [e1]
    exact h
theorem k44 {l : List (Nat × Ct)} (g0 : Good P T l) : COk P 44 c44 := c44_of (k44' g0)
theorem g44 {l : List (Nat × Ct)} (g : Good P T l) : Good P T ((44, c44) :: l) := g.add (k44 g) c44_mono (body_of Try.func44 (c := code Try.f44) rfl (by decide))
end Go.X.Ps
end

section
set_option linter.unusedVariables false
set_option linter.unusedSimpArgs false
set_option linter.unusedSectionVars false
/- Pass: chains are compared. -/
set_option linter.unusedVariables false
set_option linter.unusedSimpArgs false
set_option maxRecDepth 10000
set_option maxHeartbeats 2000000
namespace Go.X.Ps
open Go Go.Proofs Go.X

/-! ### cmp -/
def c99 : Ct := plainCt fun
  | [.si .i64 a] => some ⟨none, none, .sb false, []⟩
  | _ => none
theorem k99 {l : List (Nat × Ct)} (g : Good P T l) : COk P 99 c99 := cok (C := tabC l) g.ok Try.func99 (c := code Try.f99) rfl fun fr args H out h hp => by
  simp only [c99, plainCt] at h
  split at h
  · rename_i a
    cases h
    refine walk_plain rfl (Nat.le_of_ble_eq_true rfl) fun G hG => ?_
    refine ⟨.inl rfl, end_plain ?_ rfl rfl⟩
    show (!decide (a = a)) = false
    simp
  · cases h
theorem g99 {l : List (Nat × Ct)} (g : Good P T l) : Good P T ((99, c99) :: l) := g.add (k99 g) (plainCt_mono _) (body_of Try.func99 (c := code Try.f99) rfl (by decide))
def cmpI (a b : Int) : Int := if a < b then -1 else if b < a then 1 else 0
def c98 : Ct := plainCt fun
  | [.si .i64 a, .si .i64 b] => some ⟨none, none, .si .i64 (cmpI a b), []⟩
  | _ => none
theorem k98 {l : List (Nat × Ct)} (g0 : Good P T l) : COk P 98 c98 := by
  have g := g99 good0
  refine cok (C := tabC _) g.ok Try.func98 (c := code Try.f98) rfl fun fr args H out h hp => ?_
  simp only [c98, plainCt] at h
  split at h
  · rename_i a b
    cases h
    refine walk_plain rfl (Nat.le_of_ble_eq_true rfl) fun G hG => ?_
    refine Br.mk (fun h => by cases h) (fun _ => ?_)
    refine Br.mk (fun h => by cases h) (fun _ => ?_)
    refine Br.mk (fun h => ?_) (fun h => ?_)
    · have h : a < b := of_decide_eq_true h
      exact ⟨.inl rfl, end_plain ⟨rfl, by simp [cmpI, h]⟩ rfl rfl⟩
    have h : ¬ a < b := of_decide_eq_false h
    refine Br.mk (fun h2 => ?_) (fun h2 => ?_)
    · have h2 : b < a := of_decide_eq_true h2
      exact ⟨.inl rfl, end_plain ⟨rfl, by simp [cmpI, h, h2]⟩ rfl rfl⟩
    · have h2 : ¬ b < a := of_decide_eq_false h2
      exact ⟨.inl rfl, end_plain ⟨rfl, by simp [cmpI, h, h2]⟩ rfl rfl⟩
  · cases h
theorem g98 {l : List (Nat × Ct)} (g : Good P T l) : Good P T ((98, c98) :: l) := g.add (k98 g) (plainCt_mono _) (body_of Try.func98 (c := code Try.f98) rfl (by decide))

/-! ### slices.Compare -/
def intC (x : Int) : List SV := [.si .i64 x]
def intAt (get : Nat → List SV) (i : Nat) : Int := match get i with
  | [.si .i64 a] => a
  | _ => 0
def Ints (n : Nat) (get : Nat → List SV) : Prop := ∀ i, i < n → get i = intC (intAt get i)
def intL (n : Nat) (x : Nat → Int) : List Int := (List.range n).map x
def cmpV : List Int → List Int → Int
  | [], [] => 0
  | [], _ :: _ => -1
  | _ :: _, [] => 1
  | a :: r, b :: s => if cmpI a b = 0 then cmpV r s else cmpI a b
theorem ints_i (n : Nat) (x : Nat → Int) : Ints n (fun i => intC (x i)) := fun i hi => rfl
def dropI (i n : Nat) (x : Nat → Int) : List Int := (List.range' i (n - i)).map x
theorem dropI_0 (n : Nat) (x : Nat → Int) : dropI 0 n x = intL n x := by simp [dropI, intL, List.range_eq_range']
theorem dropI_lt {i n : Nat} (h : i < n) (x : Nat → Int) : dropI i n x = x i :: dropI (i + 1) n x := by
  unfold dropI
  rw [show n - i = (n - (i + 1)) + 1 by omega, List.range'_succ, List.map_cons]
theorem dropI_ge {i n : Nat} (h : n ≤ i) (x : Nat → Int) : dropI i n x = [] := by
  unfold dropI
  rw [show n - i = 0 by omega]; rfl
def cmpH (m n : Nat) (x y : Nat → Int) : List (Nat × HB) := [(0, .ro 1 m fun i => intC (x i)), (1, .ro 1 n fun i => intC (y i))]
def c93 : Ct := fun fr args H => match args with
  | [.sl i1, .sl i2] => (match sliceOf 1 H i1, sliceOf 1 H i2 with
    | some (m, g1), some (n, g2) => some ⟨some ((Ints m g1 ∧ Ints n g2) ∧ m ≤ 1000000 ∧ n ≤ 1000000), none, .si .i64 (cmpV (intL m (intAt g1)) (intL n (intAt g2))), []⟩
    | _, _ => none)
  | _ => none
theorem c93_mono : CtMono c93 := by
  intro fr args H H' out hH h
  unfold c93 at h ⊢
  split at h
  · split at h
    · rename_i e1 e2
      simp only [sliceOf_mono hH e1, sliceOf_mono hH e2]
      exact h
    · cases h
  · cases h
theorem k93 {l : List (Nat × Ct)} (g0 : Good P T l) : COk P 93 c93 := by
  have g := g98 good0
  refine cok (C := tabC _) g.ok Try.func93 (c := code Try.f93) rfl fun fr args H out h hp => ?_
  unfold c93 at h
  split at h
  case h_2 => cases h
  rename_i i1 i2
  split at h
  case h_2 => cases h
  rename_i m g1 n g2 e1 e2
  cases h
  obtain ⟨⟨hs1, hs2⟩, hm, hn⟩ : (Ints m g1 ∧ Ints n g2) ∧ m ≤ 1000000 ∧ n ≤ 1000000 := hp
  generalize hx : intAt g1 = x at hs1 ⊢
  generalize hy : intAt g2 = y at hs2 ⊢
  have hh : Hand H [(i1, .ro 1 m fun i => intC (x i)), (i2, .ro 1 n fun i => intC (y i))] := hand_mk ⟨sliceOf_piece e1 fun i hi => by rw [hs1 i hi, hx]; rfl, sliceOf_piece e2 fun i hi => by rw [hs2 i hi, hy]; rfl, trivial⟩
    (by repeat' (first | exact trivial | (intro i hi; exact ⟨trivial, trivial⟩) | refine And.intro ?_ ?_)) rfl
  refine ⟨[(i1, .ro 1 m fun i => intC (x i)), (i2, .ro 1 n fun i => intC (y i))], [.sl 0, .sl 1], cmpH m n x y, 2, [], rfl, rfl, Nat.le_of_ble_eq_true rfl, hh, rfl, rfl, fun G hG => ?_⟩
  refine loop_ok (g.ok _ _ _) (fun z : {i : Nat // i ≤ m ∧ cmpV (intL m x) (intL n y) = cmpV (dropI i m x) (dropI i n y)} => ⟨[(0, ⟨[], .sl 0⟩), (1, ⟨[], .sl 1⟩), (9, ⟨[], .sl 0⟩), (10, ⟨[], .si .i64 m⟩), (11, ⟨[], .si .i64 z.1⟩)], [], cmpH m n x y, 2, []⟩)
    (fun z => m - z.1) (fun _ j hj => hG j hj) ⟨0, Nat.zero_le _, by rw [dropI_0, dropI_0]⟩ ?_ ?_
  · refine ⟨?_, ?_, rfl, rfl, rfl⟩ <;> repeat' (first | exact trivial | exact rfl | (intro i hi; exact rfl) | refine And.intro ?_ ?_)
  · rintro ⟨i, hi, hv⟩
    refine Br.mk (fun h => ?_) (fun h => ?_)
    · have h : (i : Int) < (m : Int) := of_decide_eq_true h
      refine Chk.mk (show (0 : Int) ≤ (i : Int) ∧ (i : Int) < (m : Int) from ⟨by omega, h⟩) ?_
      refine Br.mk (fun h2 => ?_) (fun h2 => ?_)
      · have h2 : (n : Int) ≤ (i : Int) := of_decide_eq_true h2
        refine ⟨.inl rfl, end_noid ⟨rfl, ?_⟩ rfl rfl ?_⟩
        · rw [hv, dropI_lt (show i < m by omega), dropI_ge (show n ≤ i by omega)]; rfl
        · repeat' (first | exact trivial | exact rfl | (intro i hi; exact ⟨rfl, rfl⟩) | refine And.intro ?_ ?_)
      · have h2 : ¬ (n : Int) ≤ (i : Int) := of_decide_eq_false h2
        refine Chk.mk (show (0 : Int) ≤ (i : Int) ∧ (i : Int) < (n : Int) from ⟨by omega, by omega⟩) ?_
        have e : cmpV (intL m x) (intL n y) = if cmpI (x i) (y i) = 0 then cmpV (dropI (i + 1) m x) (dropI (i + 1) n y) else cmpI (x i) (y i) := by
          rw [hv, dropI_lt (show i < m by omega), dropI_lt (show i < n by omega)]; rfl
        refine Br.mk (fun h3 => ?_) (fun h3 => ?_)
        · have h3 : (!decide (cmpI (x i) (y i) = 0)) = true := h3
          simp only [Bool.not_eq_true', decide_eq_false_iff_not] at h3
          rw [if_neg h3] at e
          refine ⟨.inl rfl, end_noid ⟨rfl, e.symm⟩ rfl rfl ?_⟩
          repeat' (first | exact trivial | exact rfl | (intro i hi; exact ⟨rfl, rfl⟩) | refine And.intro ?_ ?_)
        · have h3 : (!decide (cmpI (x i) (y i) = 0)) = false := h3
          simp only [Bool.not_eq_false', decide_eq_true_eq] at h3
          rw [if_pos h3] at e
          refine Chk.mk (show InK .i64 ((i : Int) + 1) from ⟨by omega, by omega⟩) ⟨⟨i + 1, by omega, e⟩, ?_, by show m - (i + 1) < m - i; omega⟩
          refine ⟨?_, ?_, rfl, rfl, rfl⟩ <;> repeat' (first | exact trivial | exact rfl | (intro i hi; exact rfl) | refine And.intro ?_ ?_)
    · have h : ¬ (i : Int) < (m : Int) := of_decide_eq_false h
      have e : cmpV (intL m x) (intL n y) = cmpV [] (dropI i n y) := by rw [hv, dropI_ge (show m ≤ i by omega)]
      refine Br.mk (fun h2 => ?_) (fun h2 => ?_)
      · have h2 : (m : Int) < (n : Int) := of_decide_eq_true h2
        rw [dropI_lt (show i < n by omega)] at e
        refine ⟨.inl rfl, end_noid ⟨rfl, e.symm⟩ rfl rfl ?_⟩
        repeat' (first | exact trivial | exact rfl | (intro i hi; exact ⟨rfl, rfl⟩) | refine And.intro ?_ ?_)
      · have h2 : ¬ (m : Int) < (n : Int) := of_decide_eq_false h2
        rw [dropI_ge (show n ≤ i by omega)] at e
        refine ⟨.inl rfl, end_noid ⟨rfl, e.symm⟩ rfl rfl ?_⟩
        repeat' (first | exact trivial | exact rfl | (intro i hi; exact ⟨rfl, rfl⟩) | refine And.intro ?_ ?_)
theorem g93 {l : List (Nat × Ct)} (g : Good P T l) : Good P T ((93, c93) :: l) := g.add (k93 g) c93_mono (body_of Try.func93 (c := code Try.f93) rfl (by decide))
end Go.X.Ps
end

section
set_option linter.unusedVariables false
set_option linter.unusedSimpArgs false
set_option linter.unusedSectionVars false
/- Pass: the lesser of two chains. -/
set_option linter.unusedVariables false
set_option linter.unusedSimpArgs false
set_option maxRecDepth 10000
set_option maxHeartbeats 2000000
namespace Go.X.Ps
open Go Go.Proofs Go.X

/-- A chain: its certificates and how much is wrong in it. -/
structure Ch where
  ps : List Int
  w : Int
def lessV (a b : Ch) : Bool :=
  if a.w ≠ b.w then decide (a.w < b.w) else if a.ps.length ≠ b.ps.length then decide (a.ps.length < b.ps.length) else decide (cmpV a.ps b.ps < 0)
theorem intL_len (n : Nat) (x : Nat → Int) : (intL n x).length = n := by simp [intL]
def c81 : Ct := fun fr args H => match args with
  | [.agg [.sl i1, .si .i64 v], .agg [.sl i2, .si .i64 w]] => (match sliceOf 1 H i1, sliceOf 1 H i2 with
    | some (m, g1), some (n, g2) => some ⟨some ((Ints m g1 ∧ Ints n g2) ∧ m ≤ 1000000 ∧ n ≤ 1000000), none, .sb (lessV ⟨intL m (intAt g1), v⟩ ⟨intL n (intAt g2), w⟩), []⟩
    | _, _ => none)
  | _ => none
theorem c81_mono : CtMono c81 := by
  intro fr args H H' out hH h
  unfold c81 at h ⊢
  split at h
  · split at h
    · rename_i e1 e2
      simp only [sliceOf_mono hH e1, sliceOf_mono hH e2]
      exact h
    · cases h
  · cases h
theorem k81 {l : List (Nat × Ct)} (g0 : Good P T l) : COk P 81 c81 := by
  have g := g93 good0
  refine cok (C := tabC _) g.ok Try.func81 (c := code Try.f81) rfl fun fr args H out h hp => ?_
  unfold c81 at h
  split at h
  case h_2 => cases h
  rename_i i1 v i2 w
  split at h
  case h_2 => cases h
  rename_i m g1 n g2 e1 e2
  cases h
  obtain ⟨⟨hs1, hs2⟩, hm, hn⟩ : (Ints m g1 ∧ Ints n g2) ∧ m ≤ 1000000 ∧ n ≤ 1000000 := hp
  generalize hx : intAt g1 = x at hs1 ⊢
  generalize hy : intAt g2 = y at hs2 ⊢
  have hh : Hand H [(i1, .ro 1 m fun i => intC (x i)), (i2, .ro 1 n fun i => intC (y i))] := hand_mk ⟨sliceOf_piece e1 fun i hi => by rw [hs1 i hi, hx]; rfl, sliceOf_piece e2 fun i hi => by rw [hs2 i hi, hy]; rfl, trivial⟩
    (by repeat' (first | exact trivial | (intro i hi; exact ⟨trivial, trivial⟩) | refine And.intro ?_ ?_)) rfl
  have q : lessV ⟨intL m x, v⟩ ⟨intL n y, w⟩ = if v ≠ w then decide (v < w) else if (m : Int) ≠ n then decide ((m : Int) < n) else decide (cmpV (intL m x) (intL n y) < 0) := by
    simp only [lessV, intL_len, Int.ofNat_lt, ne_eq, Int.ofNat_inj]
  rw [q]
  refine ⟨[(i1, .ro 1 m fun i => intC (x i)), (i2, .ro 1 n fun i => intC (y i))], [.agg [.sl 0, .si .i64 v], .agg [.sl 1, .si .i64 w]], cmpH m n x y, 2, [], rfl, rfl, Nat.le_of_ble_eq_true rfl, hh, rfl, rfl, fun G hG => ?_⟩
  refine Br.mk (fun h => ?_) (fun h => ?_)
  · have h : (!decide (v = w)) = true := h
    simp only [Bool.not_eq_true', decide_eq_false_iff_not] at h
    rw [if_pos h]
    refine ⟨.inl rfl, end_noid rfl rfl rfl ?_⟩
    repeat' (first | exact trivial | exact rfl | (intro i hi; exact ⟨rfl, rfl⟩) | refine And.intro ?_ ?_)
  have h : (!decide (v = w)) = false := h
  simp only [Bool.not_eq_false', decide_eq_true_eq] at h
  rw [if_neg (by simpa using h)]
  refine Br.mk (fun h => ?_) (fun h => ?_)
  · have h : (!decide ((m : Int) = n)) = true := h
    simp only [Bool.not_eq_true', decide_eq_false_iff_not] at h
    rw [if_pos h]
    refine ⟨.inl rfl, end_noid rfl rfl rfl ?_⟩
    repeat' (first | exact trivial | exact rfl | (intro i hi; exact ⟨rfl, rfl⟩) | refine And.intro ?_ ?_)
  have h : (!decide ((m : Int) = n)) = false := h
  simp only [Bool.not_eq_false', decide_eq_true_eq] at h
  rw [if_neg (by simpa using h)]
  refine Chk.mk ⟨⟨ints_i _ _, ints_i _ _⟩, hm, hn⟩ ?_
  refine ⟨.inl rfl, end_noid rfl rfl rfl ?_⟩
  repeat' (first | exact trivial | exact rfl | (intro i hi; exact ⟨rfl, rfl⟩) | refine And.intro ?_ ?_)
theorem g81 {l : List (Nat × Ct)} (g : Good P T l) : Good P T ((81, c81) :: l) := g.add (k81 g) c81_mono (body_of Try.func81 (c := code Try.f81) rfl (by decide))
end Go.X.Ps
end

section
set_option linter.unusedVariables false
set_option linter.unusedSimpArgs false
set_option linter.unusedSectionVars false
/- Pass: two lists are joined. -/
set_option linter.unusedVariables false
set_option linter.unusedSimpArgs false
set_option maxRecDepth 10000
set_option maxHeartbeats 2000000
namespace Go.X.Ps
open Go Go.Proofs Go.X

def joinA (m : Nat) (x y : Nat → Int) (j : Nat) : Int := if j < m then x j else y (j - m)
def lenJ (m n : Nat) : Nat → Nat
  | 0 => 0
  | 1 => m
  | _ => m + n
def joinR : Nat → List SV
  | 0 => [.sl 1]
  | _ => [.sl 2]
def joinH (m n : Nat) (x y : Nat → Int) : List (Nat × HB) := [(0, .ro 1 2 joinR), (1, .ro 1 m fun i => intC (x i)), (2, .ro 1 n fun i => intC (y i))]
def c78 : Ct := fun fr args H => match args with
  | [.sl k] => (match H k with
    | some (.row 30 1 2 [.sl a, .sl b]) => (match sliceOf 1 H a, sliceOf 1 H b with
      | some (m, g1), some (n, g2) => some ⟨some ((Ints m g1 ∧ Ints n g2) ∧ m ≤ 1000 ∧ n ≤ 1000), none, .sl fr, [(fr, .vec 3 1 (m + n) fun j => intC (joinA m (intAt g1) (intAt g2) j))]⟩
      | _, _ => none)
    | _ => none)
  | _ => none
theorem c78_mono : CtMono c78 := by
  intro fr args H H' out hH h
  unfold c78 at h ⊢
  split at h
  · split at h
    · rename_i e0
      split at h
      · rename_i e1 e2
        simp only [hH _ _ e0, sliceOf_mono hH e1, sliceOf_mono hH e2]
        exact h
      · cases h
    · cases h
  · cases h
theorem k78 {l : List (Nat × Ct)} (g0 : Good P T l) : COk P 78 c78 := by
  have g := good0
  refine cok (C := tabC _) g.ok Try.func78 (c := code Try.f78) rfl fun fr args H out h hp => ?_
  unfold c78 at h
  split at h
  case h_2 => cases h
  rename_i k
  split at h
  case h_2 => cases h
  rename_i a b e0
  split at h
  case h_2 => cases h
  rename_i m g1 n g2 e1 e2
  cases h
  obtain ⟨⟨hs1, hs2⟩, hm, hn⟩ : (Ints m g1 ∧ Ints n g2) ∧ m ≤ 1000 ∧ n ≤ 1000 := hp
  generalize hx : intAt g1 = x at hs1 ⊢
  generalize hy : intAt g2 = y at hs2 ⊢
  have hh : Hand H [(k, .ro 1 2 joinR), (a, .ro 1 m fun i => intC (x i)), (b, .ro 1 n fun i => intC (y i))] := hand_mk ⟨.inr (.inl ⟨_, _, e0, fun i hi => by rcases (show i = 0 ∨ i = 1 by omega) with rfl | rfl <;> rfl⟩), sliceOf_piece e1 fun i hi => by rw [hs1 i hi, hx]; rfl, sliceOf_piece e2 fun i hi => by rw [hs2 i hi, hy]; rfl, trivial⟩
    ⟨fun i hi => by rcases (show i = 0 ∨ i = 1 by omega) with rfl | rfl <;> exact ⟨by show _ < 3; decide, trivial⟩, fun i hi => ⟨trivial, trivial⟩, fun i hi => ⟨trivial, trivial⟩, trivial⟩ rfl
  refine ⟨[(k, .ro 1 2 joinR), (a, .ro 1 m fun i => intC (x i)), (b, .ro 1 n fun i => intC (y i))], [.sl 0], joinH m n x y, 3, [4], rfl, rfl, Nat.le_of_ble_eq_true rfl, hh, rfl, rfl, fun G hG => ?_⟩
  refine nil_slot 2 3 1 (fun j => intC (joinA m x y j)) rfl ?_
  refine loop_okR (g.ok _ _ _) 3 (fun z : {i : Nat // i ≤ 2} => ⟨[(0, ⟨[], .sl 0⟩), (2, ⟨[], .sl 4⟩), (5, ⟨[], .sl 0⟩), (6, ⟨[], .si .i64 2⟩), (7, ⟨[], .si .i64 z.1⟩)], [], (4, .vec 3 1 (lenJ m n z.1) fun j => intC (joinA m x y j)) :: joinH m n x y, 5, []⟩)
    (fun z => 2 - z.1) hG ⟨0, Nat.zero_le _⟩ (fun j => match j with | 4 => 3 | j => j) ?_ ?_
  · refine ⟨?_, ?_, rfl, rfl, rfl, rfl, trivial⟩ <;> repeat' (first | exact trivial | exact rfl | (intro i hi; exact ⟨rfl, rfl⟩) | (intro v m g h; exact h) | refine And.intro ?_ ?_)
    all_goals first | (intro i hi; exact absurd hi (Nat.not_lt_zero _)) | (intro i hi; rcases (show i = 0 ∨ i = 1 by omega) with rfl | rfl <;> exact ⟨rfl, rfl⟩)
  rintro ⟨i, hi⟩
  obtain rfl | rfl | rfl : i = 0 ∨ i = 1 ∨ i = 2 := by omega
  · refine Br.mk (fun _ => ?_) (fun h => by cases h)
    refine Chk.mk (show (0 : Int) ≤ ((0 : Nat) : Int) ∧ ((0 : Nat) : Int) < ((2 : Nat) : Int) from by decide) ?_
    refine fb_append (Te := 0) 4 1 0 m _ _ (fun j => intC (joinA m x y j)) (g.ok _ _ _) cont_std rfl rfl rfl rfl rfl rfl rfl rfl rfl rfl rfl rfl (by decide) (by decide) rfl rfl rfl rfl (by omega) ?_ ?_
    · intro j hj
      rw [if_neg (by omega), joinA, if_pos (by omega)]; rfl
    refine Chk.mk (show InK .i64 (((0 : Nat) : Int) + 1) from ⟨by omega, by omega⟩) ⟨⟨1, by omega⟩, (fun j => match j with | 4 => 5 | j => j), ?_, by show 2 - _ < 2 - _; simp⟩
    refine ⟨?_, ?_, rfl, rfl, rfl, rfl, trivial⟩ <;> repeat' (first | exact trivial | exact rfl | (intro i hi; exact ⟨rfl, rfl⟩) | (intro v m g h; exact h) | refine And.intro ?_ ?_)
    all_goals first | (intro i hi; rcases (show i = 0 ∨ i = 1 by omega) with rfl | rfl <;> exact ⟨rfl, rfl⟩) | (show (_ : Nat) = _; simp [lenJ])
  · refine Br.mk (fun _ => ?_) (fun h => by cases h)
    refine Chk.mk (show (0 : Int) ≤ ((1 : Nat) : Int) ∧ ((1 : Nat) : Int) < ((2 : Nat) : Int) from by decide) ?_
    refine fb_append (Te := 0) 4 2 m n _ _ (fun j => intC (joinA m x y j)) (g.ok _ _ _) cont_std rfl rfl rfl rfl rfl rfl rfl rfl rfl rfl rfl rfl (by decide) (by decide) rfl rfl rfl rfl (by omega) ?_ ?_
    · intro j hj
      by_cases h : j < m
      · rw [if_pos h]
      · rw [if_neg h]; simp only [joinA, if_neg h]
    refine Chk.mk (show InK .i64 (((1 : Nat) : Int) + 1) from ⟨by omega, by omega⟩) ⟨⟨2, by omega⟩, (fun j => match j with | 4 => 5 | j => j), ?_, by show 2 - _ < 2 - _; simp⟩
    refine ⟨?_, ?_, rfl, rfl, rfl, rfl, trivial⟩ <;> repeat' (first | exact trivial | exact rfl | (intro i hi; exact ⟨rfl, rfl⟩) | (intro v m g h; exact h) | refine And.intro ?_ ?_)
    all_goals (intro i hi; rcases (show i = 0 ∨ i = 1 by omega) with rfl | rfl <;> exact ⟨rfl, rfl⟩)
  · refine Br.mk (fun h => by cases h) (fun _ => ?_)
    refine ⟨.inl rfl, ⟨rfl, rfl, ?_, ?_, rfl, rfl⟩⟩ <;> repeat' (first | exact trivial | exact rfl | (intro i hi; exact ⟨rfl, rfl⟩) | refine And.intro ?_ ?_)
theorem g78 {l : List (Nat × Ct)} (g : Good P T l) : Good P T ((78, c78) :: l) := g.add (k78 g) c78_mono (body_of Try.func78 (c := code Try.f78) rfl (by decide))
end Go.X.Ps
end

section
set_option linter.unusedVariables false
set_option linter.unusedSimpArgs false
set_option linter.unusedSectionVars false
/- Pass: the least of chains. -/
set_option linter.unusedVariables false
set_option linter.unusedSimpArgs false
set_option maxRecDepth 10000
set_option maxHeartbeats 2000000
namespace Go.X.Ps
open Go Go.Proofs Go.X

/-- A chain as it lies: where, its certificates, how much is wrong in it. -/
structure Cv where
  ad : Option (Addr × Nat)
  ps : List Int
  w : Int
def Cv.v (c : Cv) : Value := match c.ad with
  | none => .slice none 0 0
  | some (a, k) => .slice (some a) c.ps.length k
theorem Cv.one (c : Cv) : c.v.oneCell' = true := by
  unfold Cv.v
  split <;> rfl
def cvC (c : Cv) : List SV := [.sv c.v, .si .i64 c.w]
def getI (ps : List Int) (i : Nat) : List SV := intC (ps.getD i 0)
def Cv.ch (c : Cv) : Ch := ⟨c.ps, c.w⟩
def cv0 : Cv := ⟨none, [], 0⟩
abbrev Fam := Value → Nat → (Nat → List SV) → Prop
def tells (C : Fam) (c : Cv) : Prop := toldV C c.v c.ps.length (getI c.ps) ∧ c.ps.length ≤ 100
theorem tells0 (C : Fam) : tells C cv0 := ⟨.inl ⟨rfl, rfl⟩, by decide⟩
theorem ints_getI (ps : List Int) (n : Nat) : Ints n (getI ps) := fun i hi => rfl
theorem intL_getI (ps : List Int) : intL ps.length (intAt (getI ps)) = ps := by
  apply List.ext_getElem
  · simp [intL]
  · intro i h1 h2
    simp [intL, getI, intC, intAt, List.getD, h2]
def bestF (L : Nat → Cv) : Nat → Cv
  | 0 => cv0
  | i + 1 => if i = 0 then L 0 else if lessV (L i).ch (bestF L i).ch = true then L i else bestF L i
theorem bestF_tells {C : Fam} {L : Nat → Cv} : ∀ {n : Nat}, (∀ i, i < n → tells C (L i)) → tells C (bestF L n)
  | 0, _ => tells0 C
  | i + 1, h => by
    rw [bestF]
    split
    · exact h 0 (by omega)
    · split
      · exact h i (by omega)
      · exact bestF_tells fun j hj => h j (by omega)
def lsH (C : Fam) (n : Nat) (L : Nat → Cv) : List (Nat × HB) := [(0, .vec 72 2 n fun i => cvC (L i)), (1, .fam 1 C)]
theorem s80 {C : Fam} {n : Nat} {L : Nat → Cv} (hn : n ≤ 1000) (hL : ∀ i, i < n → tells C (L i)) {Rv : SV → List (Nat × HB) → Nat → Prop} {Rp : List PanicEntry → List (Nat × HB) → Nat → Prop}
    (hk : Rv (.tup [.agg (cvC (bestF L n)), .sb (decide (0 < (n : Int)))]) (lsH C n L) 2) : CallS P 80 [.sl 0, .agg [.fn (.func 81) [] []]] (lsH C n L) 2 Rv Rp := by
  have g := g81 good0
  refine callS_toE (ι := Unit) g.ok Try.func80 (c := code Try.f80) rfl (Nat.le_of_ble_eq_true rfl) (fun _ => .tup [.agg (cvC (bestF L n)), .sb (decide (0 < (n : Int)))]) (fun _ => lsH C n L) 2 (fun G hG => ?_) (fun _ => hk)
  refine loop_ok (g.ok _ _ _) (fun z : {i : Nat // i ≤ n} => ⟨[(0, ⟨[], .sl 0⟩), (1, ⟨[], .agg [.fn (.func 81) [] []]⟩), (3, ⟨[], .sp 2 0⟩), (4, ⟨[], .sp 3 0⟩), (5, ⟨[], .sb false⟩), (8, ⟨[], .sl 0⟩), (9, ⟨[], .si .i64 n⟩), (10, ⟨[], .si .i64 z.1⟩)], [], (2, .cells 127 [.fn (.func 81) [] []]) :: (3, .cells 72 (cvC (bestF L z.1))) :: lsH C n L, 4, []⟩)
    (fun z => n - z.1) (fun _ j hj => hG j (Nat.le_trans (show 2 ≤ 4 by decide) hj)) ⟨0, Nat.zero_le _⟩ ?_ ?_
  · refine ⟨?_, ?_, rfl, rfl, rfl⟩ <;> repeat' (first | exact trivial | exact rfl | (intro i hi; exact rfl) | refine And.intro ?_ ?_)
  rintro ⟨i, hi⟩
  refine Br.mk (fun h => ?_) (fun h => ?_)
  · have h : (i : Int) < (n : Int) := of_decide_eq_true h
    have hin : i < n := by omega
    refine Chk.mk (show (0 : Int) ≤ (i : Int) ∧ (i : Int) < (n : Int) from ⟨by omega, by omega⟩) ?_
    by_cases hz : i = 0
    · refine fb_skip 17 false (g.ok _ _ _) cont_std rfl rfl rfl rfl rfl rfl rfl trivial (by show decide ((i : Int) = 0) = !false; simp [hz]) ?_
      refine Br.mk (fun _ => ?_) (fun h2 => ?_)
      · have e : bestF L (i + 1) = L i := by rw [bestF, if_pos hz, hz]
        refine Chk.mk (show InK .i64 ((i : Int) + 1) from ⟨by omega, by omega⟩) ⟨⟨i + 1, by omega⟩, ?_, by show n - (i + 1) < n - i; omega⟩
        show Weak _ _
        simp only [e]
        refine ⟨?_, ?_, rfl, rfl, rfl⟩ <;> repeat' (first | exact trivial | exact rfl | (intro i hi; exact rfl) | refine And.intro ?_ ?_)
      · have h2 : (decide ((i : Int) = 0) || false) = false := h2
        simp [hz] at h2
    · refine fb_run rfl rfl ⟨trivial, rfl, (by show decide ((i : Int) = 0) = false; simp; omega)⟩ ?_
      refine fb_look 1 20 (L i).ps.length (L i).v (getI (L i).ps) (.agg [.sl 5, .si .i64 (L i).w]) (g.ok _ _ _) cont_std rfl ⟨(hL i hin).1, rfl, ?_⟩
      refine fb_look 1 21 (bestF L i).ps.length (bestF L i).v (getI (bestF L i).ps) (.agg [.sl 6, .si .i64 (bestF L i).w]) (g.ok _ _ _) cont_std rfl ⟨(bestF_tells fun j hj => hL j (by omega)).1, rfl, ?_⟩
      have q1 := (hL i hin).2
      have q2 := (bestF_tells (C := C) (L := L) (n := i) fun j hj => hL j (by omega)).2
      refine Chk.mk ⟨⟨ints_getI _ _, ints_getI _ _⟩, by omega, by omega⟩ ?_
      rw [intL_getI, intL_getI]
      have e : bestF L (i + 1) = if lessV (L i).ch (bestF L i).ch = true then L i else bestF L i := by rw [bestF, if_neg hz]
      refine Br.mk (fun h2 => ?_) (fun h2 => ?_)
      · have h2 : (decide ((i : Int) = 0) || lessV (L i).ch (bestF L i).ch) = true := h2
        have h2 : lessV (L i).ch (bestF L i).ch = true := by simpa [hz] using h2
        rw [if_pos h2] at e
        refine Chk.mk (show InK .i64 ((i : Int) + 1) from ⟨by omega, by omega⟩) ⟨⟨i + 1, by omega⟩, ?_, by show n - (i + 1) < n - i; omega⟩
        show Weak _ _
        simp only [e]
        refine ⟨?_, ?_, rfl, rfl, rfl⟩ <;> repeat' (first | exact trivial | exact rfl | (intro i hi; exact rfl) | refine And.intro ?_ ?_)
      · have h2 : (decide ((i : Int) = 0) || lessV (L i).ch (bestF L i).ch) = false := h2
        have h2 : ¬ lessV (L i).ch (bestF L i).ch = true := by
          rw [Bool.or_eq_false_iff] at h2
          rw [h2.2]; decide
        rw [if_neg h2] at e
        refine Chk.mk (show InK .i64 ((i : Int) + 1) from ⟨by omega, by omega⟩) ⟨⟨i + 1, by omega⟩, ?_, by show n - (i + 1) < n - i; omega⟩
        show Weak _ _
        simp only [e]
        refine ⟨?_, ?_, rfl, rfl, rfl⟩ <;> repeat' (first | exact trivial | exact rfl | (intro i hi; exact rfl) | refine And.intro ?_ ?_)
  · have h : ¬ (i : Int) < (n : Int) := of_decide_eq_false h
    obtain rfl : i = n := by omega
    refine ⟨(), (fun j => j), ?_, ?_, rfl, rfl, rfl, rfl⟩ <;> repeat' (first | exact trivial | exact rfl | (intro i hi; exact ⟨rfl, rfl⟩) | (intro v m g h; exact h) | refine And.intro ?_ ?_)
end Go.X.Ps
end

section
set_option linter.unusedVariables false
set_option linter.unusedSimpArgs false
set_option linter.unusedSectionVars false
/- Pass: what is known of chains, and what a bound is. -/
set_option linter.unusedVariables false
set_option linter.unusedSimpArgs false
set_option maxRecDepth 10000
set_option maxHeartbeats 2000000
namespace Go.X.Ps
open Go Go.Proofs Go.X

/-! ### Keys and values of what is known -/
structure Ky where
  it : Int
  y : Int
  left : Int
deriving DecidableEq
def encK (x : Ky) : SV := .agg [.si .i64 x.it, .si .i64 x.y, .si .i64 x.left]
theorem encK_key : KeyT T 112 encK where
  ty := ⟨_, rfl⟩
  chk := fun a => by kernel_rfl
  eq := fun a b => by
    have h : eqC T 9 112 (encK a) (encK b) = some ((decide (a.it = b.it) && (decide (a.y = b.y) && true)) && (decide (a.left = b.left) && true)) := by kernel_rfl
    rw [h]
    congr 1
    rw [Bool.eq_iff_iff]
    obtain ⟨a1, a2, a3⟩ := a
    obtain ⟨b1, b2, b3⟩ := b
    simp [and_assoc]
  cl := fun a => ⟨.agg #[.int .i64 a.it, .int .i64 a.y, .int .i64 a.left], rfl⟩
  same := fun a => by
    have : cv (encK a) = .agg #[.int .i64 a.it, .int .i64 a.y, .int .i64 a.left] := rfl
    rw [this]
    simp [Instr.sameBits]
structure Ks where
  it : Int
  y : Int
deriving DecidableEq
def encS (x : Ks) : SV := .agg [.si .i64 x.it, .si .i64 x.y]
theorem encS_key : KeyT T 80 encS where
  ty := ⟨_, rfl⟩
  chk := fun a => by kernel_rfl
  eq := fun a b => by
    have h : eqC T 9 80 (encS a) (encS b) = some (decide (a.it = b.it) && (decide (a.y = b.y) && true)) := by kernel_rfl
    rw [h]
    congr 1
    rw [Bool.eq_iff_iff]
    obtain ⟨a1, a2⟩ := a
    obtain ⟨b1, b2⟩ := b
    simp
  cl := fun a => ⟨.agg #[.int .i64 a.it, .int .i64 a.y], rfl⟩
  same := fun a => by
    have : cv (encS a) = .agg #[.int .i64 a.it, .int .i64 a.y] := rfl
    rw [this]
    simp [Instr.sameBits]
/-- A trace: lost, or a chain. -/
def encT : Option Cv → SV
  | none => .ifc 121 (.agg [])
  | some c => .ifc 74 (.agg (cvC c))
theorem encT_cl : Closed encT := by
  intro a
  cases a with
  | none => exact ⟨_, rfl⟩
  | some c =>
    obtain ⟨ad, ps, w⟩ := c
    cases ad with
    | none => exact ⟨_, rfl⟩
    | some p => exact ⟨_, rfl⟩

/-! ### The bound -/
def ch0 : Ch := ⟨[], 0⟩
def bestG (f : Nat → Ch) : Nat → Ch
  | 0 => ch0
  | i + 1 => if i = 0 then f 0 else if lessV (f i) (bestG f i) = true then f i else bestG f i
theorem bestF_G (L : Nat → Cv) : ∀ n, (bestF L n).ch = bestG (fun i => (L i).ch) n
  | 0 => rfl
  | i + 1 => by
    rw [bestF, bestG, ← bestF_G L i]
    split
    · rfl
    · split <;> rfl
theorem bestG_congr {f g : Nat → Ch} : ∀ {n}, (∀ i, i < n → f i = g i) → bestG f n = bestG g n
  | 0, _ => rfl
  | i + 1, h => by
    rw [bestG, bestG, h 0 (by omega), h i (by omega), bestG_congr fun j hj => h j (by omega)]
/-- The least chain of a list. -/
def lstC (l : List Ch) : Option Ch := if l.length = 0 then none else some (bestG (fun i => l.getD i ch0) l.length)
/-- One certificate more. -/
def linkC (y : Int) (i : Nat) (x : Pp) (c : Ch) : Ch := ⟨(i : Int) :: c.ps, addsV y x + c.w⟩
def oneC (rec : Int → Int → Option Ch) (age it y : Int) (i : Nat) (x : Pp) : List Ch :=
  if holdsV it y x age = true then (match rec x.by_ x.yr with
    | some c => [linkC y i x c]
    | none => []) else []
/-- The chains by the first certificates. -/
def chainsC (rec : Int → Int → Option Ch) (age it y : Int) (r : Nat → Pp) : Nat → List Ch
  | 0 => []
  | i + 1 => chainsC rec age it y r i ++ oneC rec age it y i (r i)
def bestW (age : Int) (n : Nat) (r : Nat → Pp) : Nat → Int → Int → Option Ch
  | 0, it, _ => if it = -1 then some ch0 else none
  | k + 1, it, y => if it = -1 then some ch0 else lstC (chainsC (bestW age n r k) age it y r n)
theorem lookA_updA {κ ν : Type} [DecidableEq κ] {k k' : κ} {v : ν} : ∀ {l : List (κ × ν)}, lookA (updA l k v) k' = if k = k' then some v else lookA l k'
  | [] => by simp [updA, lookA]
  | p :: l => by
    have ih := lookA_updA (k := k) (k' := k') (v := v) (l := l)
    by_cases h : p.1 = k
    · subst h
      by_cases h2 : p.1 = k' <;> simp [updA, lookA, h2]
    · by_cases h2 : p.1 = k'
      · subst h2
        simp [updA, lookA, h, Ne.symm h]
      · by_cases h3 : k = k'
        · subst h3; simp [updA, lookA, h, ih]
        · simp [updA, lookA, h, h2, h3, ih]

theorem tells_mono {C C' : Fam} (h : ∀ v n g, C v n g → C' v n g) {c : Cv} (hc : tells C c) : tells C' c := by
  obtain ⟨h1, h2⟩ := hc
  refine ⟨?_, h2⟩
  rcases h1 with h1 | ⟨a, k, e, h1⟩
  · exact .inl h1
  · exact .inr ⟨a, k, e, h _ _ _ h1⟩
/-- What is known is right. -/
def KnOk (age : Int) (n : Nat) (r : Nat → Pp) (C : Fam) (es : List (Ky × Option Cv)) : Prop :=
  ∀ k v, lookA es k = some v → v.map Cv.ch = bestW age n r k.left.toNat k.it k.y ∧ ∀ c, v = some c → tells C c
theorem KnOk.mono {age : Int} {n : Nat} {r : Nat → Pp} {C C' : Fam} {es : List (Ky × Option Cv)} (hk : KnOk age n r C es) (h : ∀ v n g, C v n g → C' v n g) : KnOk age n r C' es :=
  fun k v e => ⟨(hk k v e).1, fun c hc => tells_mono h ((hk k v e).2 c hc)⟩
theorem KnOk.upd {age : Int} {n : Nat} {r : Nat → Pp} {C : Fam} {es : List (Ky × Option Cv)} (hk : KnOk age n r C es) {k : Ky} {v : Option Cv} (h1 : v.map Cv.ch = bestW age n r k.left.toNat k.it k.y) (h2 : ∀ c, v = some c → tells C c) : KnOk age n r C (updA es k v) := by
  intro k' v' e
  rw [lookA_updA] at e
  split at e
  · rename_i h
    cases e; subst h
    exact ⟨h1, h2⟩
  · exact hk k' v' e
end Go.X.Ps
end

section
set_option linter.unusedVariables false
set_option linter.unusedSimpArgs false
set_option linter.unusedSectionVars false
/- Pass: the best chain, by recursion. -/
set_option linter.unusedVariables false
set_option linter.unusedSimpArgs false
set_option maxRecDepth 10000
set_option maxHeartbeats 4000000
namespace Go.X.Ps
open Go Go.Proofs Go.X

def bsH (it ag : Int) (n : Nat) (r : Nat → Pp) (om : List (SV × SV)) (C : Fam) (es : List (Ky × Option Cv)) : List (Nat × HB) :=
  [(0, .ro 5 n fun i => ppC (r i)), (1, .cells 108 (ofC 0 2 it ag)), (2, .mp om), (3, .cells 63 [.sp 1 0]), (4, .cells 109 [.sm 6]), (5, .cells 110 [.fn (.func 75) [] [.sp 4 0, .sp 3 0, .sp 5 0]]), (6, .mp (encM encK encT es)), (7, .fam 1 C)]
def bsA (x y : Int) (left : Int) : List SV := [.agg [.si .i64 x, .si .i64 y, .si .i64 left], .sp 4 0, .sp 3 0, .sp 5 0]
/-- What comes of the best chain. -/
def BsR (it ag : Int) (n : Nat) (r : Nat → Pp) (om : List (SV × SV)) (C : Fam) (x y : Int) (k : Nat) (Rv : SV → List (Nat × HB) → Nat → Prop) : Prop :=
  ∀ (C' : Fam) es' v, (∀ v n g, C v n g → C' v n g) → KnOk ag n r C' es' → v.map Cv.ch = bestW ag n r k x y → (∀ c, v = some c → tells C' c) → Rv (encT v) (bsH it ag n r om C' es') 8
def BsE (it ag : Int) (n : Nat) (r : Nat → Pp) (C : Fam) (x y : Int) (k : Nat) : Type := {p : Fam × List (Ky × Option Cv) × Option Cv // (∀ v n g, C v n g → p.1 v n g) ∧ KnOk ag n r p.1 p.2.1 ∧ p.2.2.map Cv.ch = bestW ag n r k x y ∧ ∀ c, p.2.2 = some c → tells p.1 c}
def L0 (i : Nat) : Cv := cv0
theorem b91 : Body P 91 := body_of Try.func91 (c := code Try.f91) rfl (by decide)
theorem b80 : Body P 80 := body_of Try.func80 (c := code Try.f80) rfl (by decide)
theorem b75 : Body P 75 := body_of Try.func75 (c := code Try.f75) rfl (by decide)

theorem s75_0 {it ag : Int} {n : Nat} {r : Nat → Pp} {om : List (SV × SV)} {C : Fam} {es : List (Ky × Option Cv)} (hK : KnOk ag n r C es) {x y : Int} {Rv : SV → List (Nat × HB) → Nat → Prop} {Rp : List PanicEntry → List (Nat × HB) → Nat → Prop}
    (hk : BsR it ag n r om C x y 0 Rv) : CallS P 75 (bsA x y ((0 : Nat) : Int)) (bsH it ag n r om C es) 8 Rv Rp := by
  have g := g76 (g79 (g78 good0))
  refine callS_toE (ι := BsE it ag n r C x y 0) g.ok Try.func75 (c := code Try.f75) rfl (Nat.le_of_ble_eq_true rfl) (fun p => encT p.1.2.2) (fun p => bsH it ag n r om p.1.1 p.1.2.1) 8 (fun G hG => ?_) (fun p => hk _ _ _ p.2.1 p.2.2.1 p.2.2.2.1 p.2.2.2.2)
  refine Br.mk (fun h => ?_) (fun h => ?_)
  · have h : decide (x = -1) = true := h
    have h : x = -1 := of_decide_eq_true h
    refine ⟨⟨(C, es, some cv0), fun _ _ _ h => h, hK, by simp [bestW, h, Cv.ch, cv0, ch0], fun c e => by cases e; exact tells0 C⟩, (fun j => j), ?_, ?_, rfl, rfl, rfl, rfl⟩ <;> repeat' (first | exact trivial | exact rfl | exact List.Perm.refl _ | (intro i hi; exact ⟨rfl, rfl⟩) | (intro v m g h; exact h) | refine And.intro ?_ ?_)
  have h : decide (x = -1) = false := h
  have hx : ¬ x = -1 := of_decide_eq_false h
  refine fb_lookup encK encT es ⟨x, y, ((0 : Nat) : Int)⟩ 6 (g.ok _ _ _) cont_std rfl rfl rfl rfl rfl rfl rfl rfl rfl encK_key encT_cl rfl rfl rfl ?_
  intro hnd
  refine ⟨fun v hv => ?_, fun hv => ?_⟩
  · have hv' := hK _ _ hv
    cases v with
    | none =>
      refine Br.mk (fun _ => ?_) (fun h => by cases h)
      refine ⟨⟨(C, es, none), fun _ _ _ h => h, hK, hv'.1, hv'.2⟩, (fun j => j), ?_, ?_, rfl, rfl, rfl, rfl⟩ <;> repeat' (first | exact trivial | exact rfl | exact List.Perm.refl _ | (intro i hi; exact ⟨rfl, rfl⟩) | (intro v m g h; exact h) | refine And.intro ?_ ?_)
    | some c =>
    refine Br.mk (fun _ => ?_) (fun h => by cases h)
    refine ⟨⟨(C, es, some c), fun _ _ _ h => h, hK, hv'.1, hv'.2⟩, (fun j => j), ?_, ?_, rfl, rfl, rfl, rfl⟩ <;> repeat' (first | exact trivial | exact rfl | exact List.Perm.refl _ | (intro i hi; exact ⟨rfl, rfl⟩) | (intro v m g h; exact h) | refine And.intro ?_ ?_)
  refine Br.mk (fun h => by cases h) (fun _ => ?_)
  refine Br.mk (fun h => by cases h) (fun _ => ?_)
  refine fb_nilSlot 79 72 2 (fun i => cvC (L0 i)) (g.ok _ _ _) cont_std rfl rfl ?_
  refine fb_call (g.ok _ _ _) cont_std rfl rfl rfl rfl ⟨b80, ?_⟩
  refine callS_at [.sl 0, .agg [.fn (.func 81) [] []]] (lsH C 0 L0) 2 (fun j => match j with | 0 => 10 | _ => 7) (by repeat' (first | exact trivial | exact rfl | refine And.intro ?_ ?_)) rfl (by repeat' (first | exact trivial | exact rfl | (intro i hi; exact ⟨rfl, rfl⟩) | (intro v m g h; exact h) | refine And.intro ?_ ?_)) rfl rfl ?_
  refine s80 (by omega) (fun i hi => absurd hi (Nat.not_lt_zero _)) ?_
  refine ⟨rfl, (by repeat' (first | exact trivial | exact rfl | refine And.intro ?_ ?_)), (by repeat' (first | exact trivial | exact rfl | (intro i hi; exact rfl) | refine And.intro ?_ ?_)), ?_⟩
  refine Br.mk (fun h => by cases h) (fun _ => ?_)
  refine fb_update encK encT es ⟨x, y, ((0 : Nat) : Int)⟩ none _ rfl 6 (g.ok _ _ _) cont_std rfl (.inl rfl) rfl rfl rfl rfl encK_key encT_cl rfl rfl rfl rfl ?_
  intro _
  have e0 : (none : Option Cv).map Cv.ch = bestW ag n r 0 x y := by simp [bestW, hx]
  refine ⟨⟨(C, updA es ⟨x, y, ((0 : Nat) : Int)⟩ none, none), fun _ _ _ h => h, hK.upd e0 (fun c h => by cases h), e0, fun c h => by cases h⟩, (fun j => j), ?_, ?_, rfl, rfl, rfl, rfl⟩ <;> repeat' (first | exact trivial | exact rfl | exact List.Perm.refl _ | (intro i hi; exact ⟨rfl, rfl⟩) | (intro v m g h; exact h) | refine And.intro ?_ ?_)
end Go.X.Ps
end

section
set_option linter.unusedVariables false
set_option linter.unusedSimpArgs false
set_option linter.unusedSectionVars false
/- Pass: what is read before the call for one certificate, in whatever order. -/
set_option linter.unusedVariables false
set_option linter.unusedSimpArgs false
set_option maxRecDepth 10000
set_option maxHeartbeats 4000000
namespace Go.X.Ps
open Go Go.Proofs Go.X

/-- The operations of a region. -/
def regO (n : Nat) : Code → Array Oper
  | .region id ops _ => if id = n then ops else #[]
  | .seq a b => regO n a ++ regO n b
  | .cond _ a b => regO n a ++ regO n b
  | .block _ a => regO n a
  | .loop a => regO n a
  | .scope a => regO n a
  | .rangeFunc _ _ a b => regO n a ++ regO n b
  | _ => #[]
noncomputable def ops12 : Array Oper := regO 12 (code Try.f75)
def rdB (i : Nat) : List (Nat × FE) := [(3, ⟨[], .sp 5 0⟩), (4, ⟨[], .sp 8 0⟩), (8, ⟨[], .sp 9 0⟩), (9, ⟨[], .sp 10 0⟩), (10, ⟨[], .si .i64 i⟩), (11, ⟨[], .sp 46 0⟩)]
def rdH (x y : Int) (k : Nat) (p : Pp) (Ht : List (Nat × HB)) : List (Nat × HB) :=
  [(5, .cells 110 [.fn (.func 75) [] [.sp 4 0, .sp 3 0, .sp 5 0]]), (10, .cells 114 [.fn (.func 76) [.agg [.si .i64 x, .si .i64 y]] []]), (46, .cells 49 (ppC p)), (8, .cells 112 [.si .i64 x, .si .i64 y, .si .i64 ((k + 1 : Nat) : Int)])] ++ Ht
noncomputable abbrev X12 (G : Base) (rr : Option Nat) : Cx := ⟨P, T, tabC [(76, c76), (79, c79), (78, c78), (92, c92)], G, rr, Try.f75.ntmps⟩
theorem x12_ok {G : Base} {rr : Option Nat} : (X12 G rr).Ok := (g76 (g79 (g78 (g92 good0)))).ok _ _ _
def arr12 (l : List Bool) : Array Bool := ((List.range 16).map fun j => if j < 8 then l.getD j false else if j = 13 then l.getD 8 false else false).toArray
def opi12 (i : Nat) : Nat := if i = 8 then 13 else i
def ex12 (l : List Bool) : Bool := (List.range 8).all fun j => l.getD j false
def anc12 : Nat → List Nat
  | 3 => [1, 2]
  | 5 => [4]
  | 6 => [4, 5]
  | 7 => [1, 2, 3, 4, 5, 6]
  | _ => []
def slo12 (x y : Int) (k : Nat) (p : Pp) : Nat → List (Nat × FE)
  | 0 => [(44, ⟨[], .fn (.func 75) [] [.sp 4 0, .sp 3 0, .sp 5 0]⟩)]
  | 1 => [(45, ⟨[], .fn (.func 76) [.agg [.si .i64 x, .si .i64 y]] []⟩)]
  | 2 => [(46, ⟨[], .agg (ppC p)⟩)]
  | 3 => [(47, ⟨[], .agg [.si .i64 p.by_, .si .i64 p.yr]⟩)]
  | 4 => [(48, ⟨[], .sp 8 2⟩)]
  | 5 => [(49, ⟨[], .si .i64 ((k + 1 : Nat) : Int)⟩)]
  | 6 => [(50, ⟨[], .si .i64 (((k + 1 : Nat) : Int) - 1)⟩)]
  | 7 => [(51, ⟨[], .agg [.si .i64 p.by_, .si .i64 p.yr, .si .i64 (((k + 1 : Nat) : Int) - 1)]⟩)]
  | 8 => [(12, ⟨[], .sp 47 0⟩)]
  | _ => []
def Hf12 (H : List (Nat × HB)) (l : List Bool) : List (Nat × HB) := if l.getD 8 false = true then (47, .cells 74 (cvC cv0)) :: H else H
def nx12 (l : List Bool) : Nat := if l.getD 8 false = true then 48 else 47
theorem lat12 : (allB 9).all (latX ops12 9 arr12 opi12 ex12 anc12) = true := by kernel_rfl
theorem get8 {l : List Bool} {i : Nat} (hi : i ≠ 8) : (l.set i true).getD 8 false = l.getD 8 false := by
  simp [List.getD, List.getElem?_set, hi]
theorem get88 {l : List Bool} (hl : l.length = 9) : (l.set 8 true).getD 8 false = true := by
  simp [List.getD, List.getElem?_set, hl]
end Go.X.Ps
end

section
set_option linter.unusedVariables false
set_option linter.unusedSimpArgs false
set_option linter.unusedSectionVars false
/- Pass: the pure part of region 12 of the best chain, joined. -/
set_option linter.unusedVariables false
set_option linter.unusedSimpArgs false
set_option maxRecDepth 10000
set_option maxHeartbeats 4000000
namespace Go.X.Ps
open Go Go.Proofs Go.X

theorem pure12 {G : Base} {rr : Option Nat} {x y : Int} {k i : Nat} {p : Pp} {Ht : List (Nat × HB)} {K : Ex → St → Prop} (hk9 : k ≤ 100)
    (hA : AnyS (X12 G rr) ops12 8 (arr12 [true, true, true, true, true, true, true, true, false]) ⟨slF (slo12 x y k p) (rdB i) [true, true, true, true, true, true, true, true, false], [], rdH x y k p Ht, 47, []⟩ K)
    (hB : AnyS (X12 G rr) ops12 7 (arr12 [true, true, true, true, true, true, true, true, true]) ⟨slF (slo12 x y k p) (rdB i) [true, true, true, true, true, true, true, true, true], [], (47, .cells 74 (cvC cv0)) :: rdH x y k p Ht, 48, []⟩ K) :
    AnyS (X12 G rr) ops12 16 (Array.replicate 16 false) ⟨rdB i, [], rdH x y k p Ht, 47, []⟩ K := by
  refine any_latX (m := 9) x12_ok arr12 opi12 ex12 (slo12 x y k p) (rdB i) (Hf12 (rdH x y k p Ht)) nx12 anc12 7 (by decide) (List.all_eq_true.1 lat12) ?_ ?_ ?_ (List.replicate 9 false) rfl (by decide)
  · repeat' (first | exact trivial | exact ⟨rfl, rfl⟩ | refine And.intro ?_ ?_)
  · intro j hj l hl hf _ _
    rcases (show j = 0 ∨ j = 1 ∨ j = 2 ∨ j = 3 ∨ j = 4 ∨ j = 5 ∨ j = 6 ∨ j = 7 ∨ j = 8 by omega) with rfl | rfl | rfl | rfl | rfl | rfl | rfl | rfl | rfl
    · refine ⟨_, rfl, rfl, fun tail Q Kn hC hK => ?_⟩
      simp only [Hf12, nx12, get8 (l := l) (show 0 ≠ 8 by decide)] at hK ⊢
      split at hK <;> rename_i hq <;> simp only [hq, if_true, if_false] at hK ⊢ <;> exact hK
    · refine ⟨_, rfl, rfl, fun tail Q Kn hC hK => ?_⟩
      simp only [Hf12, nx12, get8 (l := l) (show 1 ≠ 8 by decide)] at hK ⊢
      split at hK <;> rename_i hq <;> simp only [hq, if_true, if_false] at hK ⊢ <;> exact hK
    · refine ⟨_, rfl, rfl, fun tail Q Kn hC hK => ?_⟩
      simp only [Hf12, nx12, get8 (l := l) (show 2 ≠ 8 by decide)] at hK ⊢
      split at hK <;> rename_i hq <;> simp only [hq, if_true, if_false] at hK ⊢ <;> exact hK
    · refine ⟨_, rfl, rfl, fun tail Q Kn hC hK => ?_⟩
      simp only [Hf12, nx12, get8 (l := l) (show 3 ≠ 8 by decide)] at hK ⊢
      split at hK <;> rename_i hq <;> simp only [hq, if_true, if_false] at hK ⊢ <;> exact hK
    · refine ⟨_, rfl, rfl, fun tail Q Kn hC hK => ?_⟩
      simp only [Hf12, nx12, get8 (l := l) (show 4 ≠ 8 by decide)] at hK ⊢
      split at hK <;> rename_i hq <;> simp only [hq, if_true, if_false] at hK ⊢ <;> exact hK
    · refine ⟨_, rfl, rfl, fun tail Q Kn hC hK => ?_⟩
      simp only [Hf12, nx12, get8 (l := l) (show 5 ≠ 8 by decide)] at hK ⊢
      split at hK <;> rename_i hq <;> simp only [hq, if_true, if_false] at hK ⊢ <;> exact hK
    · refine ⟨_, rfl, rfl, fun tail Q Kn hC hK => ?_⟩
      simp only [Hf12, nx12, get8 (l := l) (show 6 ≠ 8 by decide)] at hK ⊢
      split at hK <;> rename_i hq <;> simp only [hq, if_true, if_false] at hK ⊢ <;> exact Chk.mk (show InK .i64 (((k + 1 : Nat) : Int) - 1) from ⟨by omega, by omega⟩) hK
    · refine ⟨_, rfl, rfl, fun tail Q Kn hC hK => ?_⟩
      simp only [Hf12, nx12, get8 (l := l) (show 7 ≠ 8 by decide)] at hK ⊢
      split at hK <;> rename_i hq <;> simp only [hq, if_true, if_false] at hK ⊢ <;> exact hK
    · refine ⟨_, rfl, rfl, fun tail Q Kn hC hK => ?_⟩
      have hq : l.getD 8 false = false := by
        rw [List.getD, List.getElem?_eq_getElem (by omega)] at hf ⊢
        exact hf
      simp only [Hf12, nx12, get88 hl, hq, if_true] at hK ⊢
      exact hK
  · intro l hl he
    match l, hl, he with
    | [a, b, c, d, e, f, g, h, q], _, he =>
      have he : (a && (b && (c && (d && (e && (f && (g && (h && true)))))))) = true := he
      simp only [Bool.and_eq_true] at he
      obtain ⟨rfl, rfl, rfl, rfl, rfl, rfl, rfl, rfl, -⟩ := he
      cases q with
      | false => exact hA
      | true => exact hB
end Go.X.Ps
end

section
set_option linter.unusedVariables false
set_option linter.unusedSimpArgs false
set_option linter.unusedSectionVars false
/- Pass: what is done after the call for one certificate, in whatever order. -/
set_option linter.unusedVariables false
set_option linter.unusedSimpArgs false
set_option maxRecDepth 10000
set_option maxHeartbeats 4000000
namespace Go.X.Ps
open Go Go.Proofs Go.X

def arr15 (l : List Bool) : Array Bool := ((List.range 16).map fun j => if j ≤ 8 then true else l.getD (j - 9) false).toArray
def opi15 (i : Nat) : Nat := i + 9
def ex15 (l : List Bool) : Bool := (List.range 7).all fun j => l.getD j false
def anc15 : Nat → List Nat
  | 1 => [0]
  | 2 => [0, 1]
  | 3 => [0, 1]
  | 5 => [0, 1, 2, 4]
  | 6 => [0, 1, 2, 3, 4, 5]
  | _ => []
def chD (v : Option Cv) : Cv := match v with
  | none => cv0
  | some c => c
def isC (v : Option Cv) : Bool := match v with
  | none => false
  | some _ => true
def slo15 (v : Option Cv) : Nat → List (Nat × FE)
  | 0 => [(53, ⟨[], .tup [.agg (cvC (chD v)), .sb (isC v)]⟩)]
  | 1 => [(43, ⟨[], .tup [.agg (cvC (chD v)), .sb (isC v)]⟩)]
  | 2 => [(54, ⟨[], .agg (cvC (chD v))⟩)]
  | 3 => [(55, ⟨[], .sb (isC v)⟩)]
  | 4 => [(12, ⟨[], .sp 47 0⟩)]
  | 6 => [(13, ⟨[], .sb (isC v)⟩)]
  | _ => []
def base15 (v : Option Cv) (i : Nat) : List (Nat × FE) := (52, ⟨[], encT v⟩) :: rdB i
def Hf15 (v : Option Cv) (H : List (Nat × HB)) (l : List Bool) : List (Nat × HB) := if l.getD 5 false = true then (47, .cells 74 (cvC (chD v))) :: (47, .cells 74 (cvC cv0)) :: H else if l.getD 4 false = true then (47, .cells 74 (cvC cv0)) :: H else H
def nx15 (l : List Bool) : Nat := if l.getD 4 false = true then 48 else 47
theorem lat15 : (allB 7).all (latX ops12 7 arr15 opi15 ex15 anc15) = true := by kernel_rfl
theorem getN {l : List Bool} {i j : Nat} (hi : i ≠ j) : (l.set i true).getD j false = l.getD j false := by
  simp [List.getD, List.getElem?_set, hi]
theorem getS {l : List Bool} {i : Nat} (hl : i < l.length) : (l.set i true).getD i false = true := by
  simp [List.getD, List.getElem?_set, hl]
theorem getF {l : List Bool} {i : Nat} (hl : i < l.length) (h : l.getD i true = false) : l.getD i false = false := by
  rw [List.getD, List.getElem?_eq_getElem hl] at h ⊢
  exact h
theorem tail12 {G : Base} {rr : Option Nat} {v : Option Cv} {i : Nat} {Ht : List (Nat × HB)} {K : Ex → St → Prop}
    (hK : K .normal ⟨slF (slo15 v) (base15 v i) [true, true, true, true, true, true, true], [], (47, .cells 74 (cvC (chD v))) :: (47, .cells 74 (cvC cv0)) :: Ht, 48, []⟩) :
    AnyS (X12 G rr) ops12 7 (arr15 [false, false, false, false, false, false, false]) ⟨base15 v i, [], Ht, 47, []⟩ K ∧ AnyS (X12 G rr) ops12 6 (arr15 [false, false, false, false, true, false, false]) ⟨(12, ⟨[], .sp 47 0⟩) :: base15 v i, [], (47, .cells 74 (cvC cv0)) :: Ht, 48, []⟩ K := by
  have key := any_latX (X := X12 G rr) (ops := ops12) (K := K) (m := 7) x12_ok arr15 opi15 ex15 (slo15 v) (base15 v i) (Hf15 v Ht) nx15 anc15 0 (by decide) (List.all_eq_true.1 lat15) ?_ ?_ ?_
  · exact ⟨key [false, false, false, false, false, false, false] rfl (by decide), key [false, false, false, false, true, false, false] rfl (by decide)⟩
  · cases v <;> repeat' (first | exact trivial | exact ⟨rfl, rfl⟩ | refine And.intro ?_ ?_)
  · intro j hj l hl hf ha hcl
    rcases (show j = 0 ∨ j = 1 ∨ j = 2 ∨ j = 3 ∨ j = 4 ∨ j = 5 ∨ j = 6 by omega) with rfl | rfl | rfl | rfl | rfl | rfl | rfl
    · refine ⟨_, rfl, rfl, fun tail Q Kn hC hK => ?_⟩
      simp only [Hf15, nx15, getN (l := l) (show 0 ≠ 4 by decide), getN (l := l) (show 0 ≠ 5 by decide)] at hK ⊢
      cases h4 : l.getD 4 false <;> cases h5 : l.getD 5 false <;> simp only [h4, h5, if_true, if_false, Bool.false_eq_true] at hK ⊢ <;> cases v <;> first | exact hK | exact fb_assertNo 121 (.agg []) (.agg (cvC cv0)) x12_ok hC rfl rfl rfl rfl rfl rfl (fun m h => by cases h) rfl rfl rfl hK
    · refine ⟨_, rfl, rfl, fun tail Q Kn hC hK => ?_⟩
      simp only [Hf15, nx15, getN (l := l) (show 1 ≠ 4 by decide), getN (l := l) (show 1 ≠ 5 by decide)] at hK ⊢
      cases h4 : l.getD 4 false <;> cases h5 : l.getD 5 false <;> simp only [h4, h5, if_true, if_false, Bool.false_eq_true] at hK ⊢ <;> cases v <;> exact hK
    · refine ⟨_, rfl, rfl, fun tail Q Kn hC hK => ?_⟩
      simp only [Hf15, nx15, getN (l := l) (show 2 ≠ 4 by decide), getN (l := l) (show 2 ≠ 5 by decide)] at hK ⊢
      cases h4 : l.getD 4 false <;> cases h5 : l.getD 5 false <;> simp only [h4, h5, if_true, if_false, Bool.false_eq_true] at hK ⊢ <;> cases v <;> exact hK
    · refine ⟨_, rfl, rfl, fun tail Q Kn hC hK => ?_⟩
      simp only [Hf15, nx15, getN (l := l) (show 3 ≠ 4 by decide), getN (l := l) (show 3 ≠ 5 by decide)] at hK ⊢
      cases h4 : l.getD 4 false <;> cases h5 : l.getD 5 false <;> simp only [h4, h5, if_true, if_false, Bool.false_eq_true] at hK ⊢ <;> cases v <;> exact hK
    · refine ⟨_, rfl, rfl, fun tail Q Kn hC hK => ?_⟩
      have h4 := getF (show 4 < l.length by omega) hf
      have h5 : l.getD 5 false = false := by
        cases h5 : l.getD 5 false with
        | false => rfl
        | true =>
          have h := List.all_eq_true.1 hcl 5 (List.mem_range.2 (by omega))
          rw [h5] at h
          have h : (l.getD 0 false && (l.getD 1 false && (l.getD 2 false && (l.getD 4 false && true)))) = true := h
          rw [h4] at h
          simp at h
      simp only [Hf15, nx15, getN (l := l) (show 4 ≠ 5 by decide), getS (l := l) (i := 4) (by omega), h4, h5, if_true, if_false, Bool.false_eq_true] at hK ⊢
      exact hK
    · refine ⟨_, rfl, rfl, fun tail Q Kn hC hK => ?_⟩
      have h5 := getF (show 5 < l.length by omega) hf
      have h4 : l.getD 4 false = true := ha 4 (by decide)
      simp only [Hf15, nx15, getN (l := l) (show 5 ≠ 4 by decide), getS (l := l) (i := 5) (by omega), h4, h5, if_true, if_false, Bool.false_eq_true] at hK ⊢
      exact hK
    · refine ⟨_, rfl, rfl, fun tail Q Kn hC hK => ?_⟩
      simp only [Hf15, nx15, getN (l := l) (show 6 ≠ 4 by decide), getN (l := l) (show 6 ≠ 5 by decide)] at hK ⊢
      cases h4 : l.getD 4 false <;> cases h5 : l.getD 5 false <;> simp only [h4, h5, if_true, if_false, Bool.false_eq_true] at hK ⊢ <;> cases v <;> exact hK
  · intro l hl he
    match l, hl, he with
    | [a, b, c, d, e, f, g], _, he =>
      have he : (a && (b && (c && (d && (e && (f && (g && true))))))) = true := he
      simp only [Bool.and_eq_true] at he
      obtain ⟨rfl, rfl, rfl, rfl, rfl, rfl, rfl, -⟩ := he
      exact any_done (by kernel_rfl) hK
end Go.X.Ps
end

section
set_option linter.unusedVariables false
set_option linter.unusedSimpArgs false
set_option linter.unusedSectionVars false
/- Pass: how long chains are, and how much is wrong in them. -/
set_option linter.unusedVariables false
set_option linter.unusedSimpArgs false
namespace Go.X.Ps
open Go Go.Proofs Go.X

theorem bestG_mem {f : Nat → Ch} : ∀ {n}, 0 < n → ∃ i, i < n ∧ bestG f n = f i
  | 0, h => absurd h (Nat.lt_irrefl _)
  | i + 1, _ => by
    rw [bestG]
    split
    · exact ⟨0, by omega, rfl⟩
    · rename_i h
      split
      · exact ⟨i, by omega, rfl⟩
      · obtain ⟨j, hj, e⟩ := bestG_mem (f := f) (n := i) (by omega)
        exact ⟨j, by omega, e⟩
theorem lstC_mem {l : List Ch} {c : Ch} (h : lstC l = some c) : c ∈ l := by
  unfold lstC at h
  split at h
  · cases h
  · rename_i h0
    cases h
    obtain ⟨i, hi, e⟩ := bestG_mem (f := fun i => l.getD i ch0) (n := l.length) (by omega)
    rw [e]
    simp [List.getD, hi]
theorem chainsC_mem {rec : Int → Int → Option Ch} {age it y : Int} {r : Nat → Pp} {c : Ch} : ∀ {m}, c ∈ chainsC rec age it y r m → ∃ i, i < m ∧ holdsV it y (r i) age = true ∧ ∃ c', rec (r i).by_ (r i).yr = some c' ∧ c = linkC y i (r i) c'
  | 0, h => (List.not_mem_nil h).elim
  | m + 1, h => by
    rw [chainsC] at h
    rcases List.mem_append.1 h with h | h
    · obtain ⟨i, hi, h⟩ := chainsC_mem h
      exact ⟨i, by omega, h⟩
    · unfold oneC at h
      split at h
      · rename_i hh
        split at h
        · rename_i c' e
          exact ⟨m, by omega, hh, c', e, List.mem_singleton.1 h⟩
        · exact (List.not_mem_nil h).elim
      · exact (List.not_mem_nil h).elim
theorem bestW_bound {ag : Int} {n : Nat} {r : Nat → Pp} (ha : 0 ≤ ag ∧ ag ≤ 20) (hr : ∀ i, i < n → (0 ≤ (r i).wr ∧ (r i).wr ≤ 50) ∧ (0 ≤ (r i).yr ∧ (r i).yr ≤ 20) ∧ 0 ≤ (r i).dr ∧ (r i).dr ≤ 10) :
    ∀ (k : Nat) (it y : Int) (c : Ch), bestW ag n r k it y = some c → c.ps.length ≤ k ∧ 0 ≤ c.w ∧ c.w ≤ 250 * k
  | 0, it, y, c, h => by
    unfold bestW at h
    split at h
    · cases h; exact ⟨by decide, by decide, by decide⟩
    · cases h
  | k + 1, it, y, c, h => by
    unfold bestW at h
    split at h
    · cases h; exact ⟨by simp [ch0], by simp [ch0], by simp [ch0]; omega⟩
    · obtain ⟨i, hi, hh, c', e, rfl⟩ := chainsC_mem (lstC_mem h)
      obtain ⟨h1, h2, h3⟩ := bestW_bound ha hr k _ _ c' e
      obtain ⟨hw, hy, hd⟩ := hr i hi
      have hh : (decide ((r i).of = it) && (decide ((r i).yr ≤ y) && decide (y ≤ (r i).yr + ag))) = true := hh
      simp only [Bool.and_eq_true, decide_eq_true_eq] at hh
      have hz : 0 ≤ (r i).dr * (y - (r i).yr) ∧ (r i).dr * (y - (r i).yr) ≤ 10 * 20 :=
        ⟨Int.mul_nonneg hd.1 (by omega), Int.mul_le_mul hd.2 (by omega) (by omega) (by omega)⟩
      refine ⟨by simp only [linkC, List.length_cons]; omega, ?_, ?_⟩
      · simp only [linkC, addsV]; omega
      · simp only [linkC, addsV]; push_cast; omega
end Go.X.Ps
end
