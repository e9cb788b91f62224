/- Small functions of the laws; laws of grades and levels. -/
import Derived.Test.YtafggknckgmkaaaNM
import Derived.Test.YtafggknckgmkaaaNE
import Derived.Test.YtafggknckgmkaaaMF
import Derived.Test.YtafggknckgmkaaaNO
import Derived.Test.YtafggknckgmkaaaNC

section
set_option linter.unusedVariables false
set_option linter.unusedSimpArgs false
set_option linter.unusedSectionVars false
/- Grade: faces, lapped, draws: small functions of the laws. -/
set_option linter.unusedVariables false
set_option linter.unusedSimpArgs false
set_option maxRecDepth 10000
set_option maxHeartbeats 4000000
namespace Go.X.Gr
open Go Go.Proofs Go.X

def lowF (a0 a1 a2 a3 a4 v : Int) : Nat → Int
  | 0 => 20
  | 1 => min 20 (min a0 v)
  | 2 => min (min 20 (min a0 v)) (min a1 v)
  | 3 => min (min (min 20 (min a0 v)) (min a1 v)) (min a2 v)
  | 4 => min (min (min (min 20 (min a0 v)) (min a1 v)) (min a2 v)) (min a3 v)
  | _ => min (min (min (min (min 20 (min a0 v)) (min a1 v)) (min a2 v)) (min a3 v)) (min a4 v)
def higF (a0 a1 a2 a3 a4 v : Int) : Nat → Int
  | 0 => -20
  | 1 => max (-20) (min a0 v)
  | 2 => max (max (-20) (min a0 v)) (min a1 v)
  | 3 => max (max (max (-20) (min a0 v)) (min a1 v)) (min a2 v)
  | 4 => max (max (max (max (-20) (min a0 v)) (min a1 v)) (min a2 v)) (min a3 v)
  | _ => max (max (max (max (max (-20) (min a0 v)) (min a1 v)) (min a2 v)) (min a3 v)) (min a4 v)
def ok5 (a0 a1 a2 a3 a4 : Int) : Prop := okI a0 ∧ okI a1 ∧ okI a2 ∧ okI a3 ∧ okI a4
theorem max_neg (x y : Int) : max (0 - x) (0 - y) = 0 - min x y := by omega
theorem face_eq {a0 a1 a2 a3 a4 v : Int} (h : ok5 a0 a1 a2 a3 a4) (hv : okI v) : (max (higF a0 a1 a2 a3 a4 v 5) (0 - lowF a0 a1 a2 a3 a4 v 5), higF a0 a1 a2 a3 a4 v 5 - lowF a0 a1 a2 a3 a4 v 5) = lkL v a0 a1 a2 a3 a4 := by
  obtain ⟨h0, -, -, -, -⟩ := h
  unfold okI at h0 hv
  unfold lkL lkP offV varV trnV max5 higF lowF
  have e1 : min 20 (min a0 v) = min a0 v := by omega
  have e2 : max (-20) (min a0 v) = min a0 v := by omega
  rw [e1, e2]
  generalize min a0 v = b0
  generalize min a1 v = b1
  generalize min a2 v = b2
  generalize min a3 v = b3
  generalize min a4 v = b4
  rw [max_neg, max_neg, max_neg, max_neg]
  generalize max (max (max (max b0 b1) b2) b3) b4 = H
  generalize min (min (min (min b0 b1) b2) b3) b4 = W
  show (max H (0 - W), H - W) = (max H (0 - W), H + (0 - W))
  rw [show H - W = H + (0 - W) by omega]
theorem fac_b {a0 a1 a2 a3 a4 v : Int} (h : ok5 a0 a1 a2 a3 a4) (hv : okI v) : -100 ≤ lowF a0 a1 a2 a3 a4 v 5 ∧ lowF a0 a1 a2 a3 a4 v 5 ≤ 100 ∧ -100 ≤ higF a0 a1 a2 a3 a4 v 5 ∧ higF a0 a1 a2 a3 a4 v 5 ≤ 100 := by
  have mi : ∀ {x y : Int}, (-100 ≤ x ∧ x ≤ 100) → (-100 ≤ y ∧ y ≤ 100) → (-100 ≤ min x y ∧ min x y ≤ 100) := fun _ _ => by omega
  have ma : ∀ {x y : Int}, (-100 ≤ x ∧ x ≤ 100) → (-100 ≤ y ∧ y ≤ 100) → (-100 ≤ max x y ∧ max x y ≤ 100) := fun _ _ => by omega
  have ok : ∀ {x : Int}, okI x → (-100 ≤ x ∧ x ≤ 100) := fun h => by unfold okI at h; omega
  obtain ⟨h0, h1, h2, h3, h4⟩ := h
  have b0 := mi (ok h0) (ok hv); have b1 := mi (ok h1) (ok hv); have b2 := mi (ok h2) (ok hv); have b3 := mi (ok h3) (ok hv); have b4 := mi (ok h4) (ok hv)
  have l := mi (mi (mi (mi (mi (by decide : (-100 : Int) ≤ 20 ∧ (20 : Int) ≤ 100) b0) b1) b2) b3) b4
  have u := ma (ma (ma (ma (ma (by decide : (-100 : Int) ≤ -20 ∧ (-20 : Int) ≤ 100) b0) b1) b2) b3) b4
  exact ⟨l.1, l.2, u.1, u.2⟩
def c35 : Ct := plainCt fun
  | [.agg [.si .i64 a0, .si .i64 a1, .si .i64 a2, .si .i64 a3, .si .i64 a4], .si .i64 v] => some ⟨some (ok5 a0 a1 a2 a3 a4 ∧ okI v), none, .tup [.si .i64 (lkL v a0 a1 a2 a3 a4).1, .si .i64 (lkL v a0 a1 a2 a3 a4).2], []⟩
  | _ => none
theorem k35 {l : List (Nat × Ct)} (g0 : Good P T l) : COk P 35 c35 := by
  have g := good0
  refine cok (C := tabC _) g.ok Try.func35 (c := code Try.f35) rfl fun fr args H out h hp => ?_
  simp only [c35, plainCt] at h
  split at h
  · rename_i a0 a1 a2 a3 a4 v
    cases h
    obtain ⟨hp, hv⟩ : ok5 a0 a1 a2 a3 a4 ∧ okI v := hp
    have hF := face_eq hp hv
    rw [← hF]
    obtain ⟨q1, q2, q3, q4⟩ := fac_b hp hv
    refine walk_plain rfl (Nat.le_of_ble_eq_true rfl) fun G hG => ?_
    refine loop_ok (g.ok _ _ _) (fun x : {i : Nat // i ≤ 5} => ⟨[(1, ⟨[], .si .i64 v⟩), (10, ⟨[], .agg (c5 a0 a1 a2 a3 a4)⟩), (6, ⟨[], .si .i64 (lowF a0 a1 a2 a3 a4 v x.1)⟩), (7, ⟨[], .si .i64 (higF a0 a1 a2 a3 a4 v x.1)⟩), (11, ⟨[], .si .i64 x.1⟩)], [],
      [], 1, []⟩) (fun x => 5 - x.1) (fun _ j hj => hG j (Nat.zero_le _)) ⟨0, Nat.zero_le _⟩ ?_ ?_
    · refine ⟨?_, ?_, rfl, rfl, rfl⟩ <;> repeat' (first | exact trivial | exact rfl | (intro i hi; exact rfl) | refine And.intro ?_ ?_)
    · rintro ⟨i, hi⟩
      rcases (show i = 0 ∨ i = 1 ∨ i = 2 ∨ i = 3 ∨ i = 4 ∨ i = 5 by omega) with rfl | rfl | rfl | rfl | rfl | rfl
      · refine Br.mk (fun _ => ?_) (fun h => by cases h)
        refine Chk.mk (bnd 0 5 rfl) ?_
        refine Chk.mk (ink1 0 rfl) ⟨⟨1, by omega⟩, ?_, by show 5 - 1 < 5 - 0; omega⟩
        refine ⟨?_, ?_, rfl, rfl, rfl⟩ <;> repeat' (first | exact trivial | exact rfl | (intro i hi; exact rfl) | refine And.intro ?_ ?_)
      · refine Br.mk (fun _ => ?_) (fun h => by cases h)
        refine Chk.mk (bnd 1 5 rfl) ?_
        refine Chk.mk (ink1 1 rfl) ⟨⟨2, by omega⟩, ?_, by show 5 - 2 < 5 - 1; omega⟩
        refine ⟨?_, ?_, rfl, rfl, rfl⟩ <;> repeat' (first | exact trivial | exact rfl | (intro i hi; exact rfl) | refine And.intro ?_ ?_)
      · refine Br.mk (fun _ => ?_) (fun h => by cases h)
        refine Chk.mk (bnd 2 5 rfl) ?_
        refine Chk.mk (ink1 2 rfl) ⟨⟨3, by omega⟩, ?_, by show 5 - 3 < 5 - 2; omega⟩
        refine ⟨?_, ?_, rfl, rfl, rfl⟩ <;> repeat' (first | exact trivial | exact rfl | (intro i hi; exact rfl) | refine And.intro ?_ ?_)
      · refine Br.mk (fun _ => ?_) (fun h => by cases h)
        refine Chk.mk (bnd 3 5 rfl) ?_
        refine Chk.mk (ink1 3 rfl) ⟨⟨4, by omega⟩, ?_, by show 5 - 4 < 5 - 3; omega⟩
        refine ⟨?_, ?_, rfl, rfl, rfl⟩ <;> repeat' (first | exact trivial | exact rfl | (intro i hi; exact rfl) | refine And.intro ?_ ?_)
      · refine Br.mk (fun _ => ?_) (fun h => by cases h)
        refine Chk.mk (bnd 4 5 rfl) ?_
        refine Chk.mk (ink1 4 rfl) ⟨⟨5, by omega⟩, ?_, by show 5 - 5 < 5 - 4; omega⟩
        refine ⟨?_, ?_, rfl, rfl, rfl⟩ <;> repeat' (first | exact trivial | exact rfl | (intro i hi; exact rfl) | refine And.intro ?_ ?_)
      · refine Br.mk (fun h => by cases h) (fun _ => ?_)
        generalize lowF a0 a1 a2 a3 a4 v 5 = lo at *
        generalize higF a0 a1 a2 a3 a4 v 5 = hi at *
        refine Chk.mk ⟨by omega, by omega⟩ ?_
        refine Chk.mk ⟨by omega, by omega⟩ ?_
        exact ⟨.inl rfl, end_plain ⟨⟨rfl, rfl⟩, ⟨rfl, rfl⟩, trivial⟩ rfl rfl⟩
  · cases h
theorem g35 {l : List (Nat × Ct)} (g : Good P T l) : Good P T ((35, c35) :: l) := g.add (k35 g) (plainCt_mono _) (body_of Try.func35 (c := code Try.f35) rfl (by decide))

/-- The first points have been lapped. -/
def lapK (g : Pts) (v : Int) : Nat → Pts
  | 0 => g
  | 1 => { g with l0 := min g.l0 v, h0 := min g.h0 v }
  | 2 => { g with l0 := min g.l0 v, h0 := min g.h0 v, l1 := min g.l1 v, h1 := min g.h1 v }
  | 3 => { g with l0 := min g.l0 v, h0 := min g.h0 v, l1 := min g.l1 v, h1 := min g.h1 v, l2 := min g.l2 v, h2 := min g.h2 v }
  | 4 => { g with l0 := min g.l0 v, h0 := min g.h0 v, l1 := min g.l1 v, h1 := min g.h1 v, l2 := min g.l2 v, h2 := min g.h2 v, l3 := min g.l3 v, h3 := min g.h3 v }
  | _ => { g with l0 := min g.l0 v, h0 := min g.h0 v, l1 := min g.l1 v, h1 := min g.h1 v, l2 := min g.l2 v, h2 := min g.h2 v, l3 := min g.l3 v, h3 := min g.h3 v, l4 := min g.l4 v, h4 := min g.h4 v }
def c41 : Ct := fun fr args H => match args with
  | [.agg l, .si .i64 v] => gradeK H l fun i1 g n get => some ⟨some (Lims n get), none, .agg (grA i1 (lapK g v 5)), []⟩
  | _ => none
theorem c41_mono : CtMono c41 := by
  intro fr args H H' out hH h
  unfold c41 at h ⊢
  split at h
  · exact gradeK_mono hH h
  · cases h
theorem k41 {l : List (Nat × Ct)} (g0 : Good P T l) : COk P 41 c41 := by
  have g := g32 good0
  refine cok (C := tabC _) g.ok Try.func41 (c := code Try.f41) rfl fun fr args H out h hp => ?_
  unfold c41 at h
  split at h
  case h_2 => cases h
  rename_i l v
  obtain ⟨i1, p, n, get, rfl, e1, h⟩ := gradeK_some h
  cases h
  have hs : Lims n get := hp
  have hh : Hand H [(i1, .ro 2 n fun i => liC (liAt get i))] := hand_one e1 (fun i => rfl) (fun i hi => (hs i hi).symm)
  refine ⟨[(i1, .ro 2 n fun i => liC (liAt get i))], [.agg (grA 0 p), .si .i64 v], [(0, .ro 2 n fun i => liC (liAt get i))], 1, [], rfl, rfl, Nat.le_of_ble_eq_true rfl, hh, rfl, rfl, fun G hG => ?_⟩
  refine loop_okR (g.ok _ _ _) 1 (fun x : {i : Nat // i ≤ 5} => ⟨[(1, ⟨[], .si .i64 v⟩), (2, ⟨[], .sp 1 0⟩), (4, ⟨[], .sp 2 0⟩), (8, ⟨[], .agg [.si .i64 p.l0, .si .i64 p.h0, .si .i64 p.l1, .si .i64 p.h1, .si .i64 p.l2, .si .i64 p.h2, .si .i64 p.l3, .si .i64 p.h3, .si .i64 p.l4, .si .i64 p.h4]⟩), (9, ⟨[], .si .i64 x.1⟩)], [],
      [(1, .cells 27 (grA 0 (lapK p v x.1))), (0, .ro 2 n fun i => liC (liAt get i)), (2, .cells 27 [.sv (.slice none 0 0), .si .i64 0, .si .i64 0, .si .i64 0, .si .i64 0, .si .i64 0, .si .i64 0, .si .i64 0, .si .i64 0, .si .i64 0, .si .i64 0, .si .i64 0])], 3, []⟩) (fun x => 5 - x.1) hG ⟨0, Nat.zero_le _⟩ (fun j => j) ?_ ?_
  · refine ⟨?_, ?_, rfl, rfl, rfl, rfl, trivial⟩ <;> repeat' (first | exact trivial | exact rfl | (intro i hi; exact ⟨rfl, rfl⟩) | refine And.intro ?_ ?_)
  · rintro ⟨i, hi⟩
    rcases (show i = 0 ∨ i = 1 ∨ i = 2 ∨ i = 3 ∨ i = 4 ∨ i = 5 by omega) with rfl | rfl | rfl | rfl | rfl | rfl
    · refine Br.mk (fun _ => ?_) (fun h => by cases h)
      refine Chk.mk (bnd 0 5 rfl) ?_
      refine Chk.mk (bnd 0 5 rfl) ?_
      refine Chk.mk (ink1 0 rfl) ⟨⟨1, by omega⟩, (fun j => j), ?_, by show 5 - 1 < 5 - 0; omega⟩
      refine ⟨?_, ?_, rfl, rfl, rfl, rfl, trivial⟩ <;> repeat' (first | exact trivial | exact rfl | (intro i hi; exact ⟨rfl, rfl⟩) | refine And.intro ?_ ?_)
    · refine Br.mk (fun _ => ?_) (fun h => by cases h)
      refine Chk.mk (bnd 1 5 rfl) ?_
      refine Chk.mk (bnd 1 5 rfl) ?_
      refine Chk.mk (ink1 1 rfl) ⟨⟨2, by omega⟩, (fun j => j), ?_, by show 5 - 2 < 5 - 1; omega⟩
      refine ⟨?_, ?_, rfl, rfl, rfl, rfl, trivial⟩ <;> repeat' (first | exact trivial | exact rfl | (intro i hi; exact ⟨rfl, rfl⟩) | refine And.intro ?_ ?_)
    · refine Br.mk (fun _ => ?_) (fun h => by cases h)
      refine Chk.mk (bnd 2 5 rfl) ?_
      refine Chk.mk (bnd 2 5 rfl) ?_
      refine Chk.mk (ink1 2 rfl) ⟨⟨3, by omega⟩, (fun j => j), ?_, by show 5 - 3 < 5 - 2; omega⟩
      refine ⟨?_, ?_, rfl, rfl, rfl, rfl, trivial⟩ <;> repeat' (first | exact trivial | exact rfl | (intro i hi; exact ⟨rfl, rfl⟩) | refine And.intro ?_ ?_)
    · refine Br.mk (fun _ => ?_) (fun h => by cases h)
      refine Chk.mk (bnd 3 5 rfl) ?_
      refine Chk.mk (bnd 3 5 rfl) ?_
      refine Chk.mk (ink1 3 rfl) ⟨⟨4, by omega⟩, (fun j => j), ?_, by show 5 - 4 < 5 - 3; omega⟩
      refine ⟨?_, ?_, rfl, rfl, rfl, rfl, trivial⟩ <;> repeat' (first | exact trivial | exact rfl | (intro i hi; exact ⟨rfl, rfl⟩) | refine And.intro ?_ ?_)
    · refine Br.mk (fun _ => ?_) (fun h => by cases h)
      refine Chk.mk (bnd 4 5 rfl) ?_
      refine Chk.mk (bnd 4 5 rfl) ?_
      refine Chk.mk (ink1 4 rfl) ⟨⟨5, by omega⟩, (fun j => j), ?_, by show 5 - 5 < 5 - 4; omega⟩
      refine ⟨?_, ?_, rfl, rfl, rfl, rfl, trivial⟩ <;> repeat' (first | exact trivial | exact rfl | (intro i hi; exact ⟨rfl, rfl⟩) | refine And.intro ?_ ?_)
    · refine Br.mk (fun h => by cases h) (fun _ => ?_)
      exact ⟨.inl rfl, ⟨(by repeat' (first | exact trivial | exact rfl | refine And.intro ?_ ?_)), rfl, trivial, (by repeat' (first | exact trivial | exact rfl | (intro i hi; exact ⟨rfl, rfl⟩) | refine And.intro ?_ ?_)), rfl, rfl⟩⟩
theorem g41 {l : List (Nat × Ct)} (g : Good P T l) : Good P T ((41, c41) :: l) := g.add (k41 g) c41_mono (body_of Try.func41 (c := code Try.f41) rfl (by decide))

/-! ### draws -/
theorem b89 : Body P 89 := body_of Try.func89 (c := code Try.f89) rfl (by decide)
def u16At (get : Nat → List SV) (i : Nat) : Int := match get i with
  | [.si .u16 x] => x
  | _ => 0
def U16s (n : Nat) (get : Nat → List SV) : Prop := ∀ i, i < n → get i = [.si .u16 (u16At get i)] ∧ 0 ≤ u16At get i ∧ u16At get i < 65536
def c33 : Ct := fun fr args H => match args with
  | [.sl id] => (match sliceOf 1 H id with
    | some (m, og) => some ⟨some (U16s m og), none, .fn (.func 89) [] [.sp fr 0, .sp (fr + 1) 0], [(fr, .cells 3 [.si .i64 0]), (fr + 1, .cells 42 [.sl id])]⟩
    | none => none)
  | _ => none
theorem c33_mono : CtMono c33 := by
  intro fr args H H' out hH h
  unfold c33 at h ⊢
  split at h
  · split at h
    · rename_i e
      simp only [sliceOf_mono hH e]
      exact h
    · cases h
  · cases h
theorem k33 {l : List (Nat × Ct)} (g0 : Good P T l) : COk P 33 c33 := by
  refine cok (C := tabC _) g0.ok Try.func33 (c := code Try.f33) rfl fun fr args H out h hp => ?_
  unfold c33 at h
  split at h
  · rename_i id
    split at h
    · rename_i m og e
      cases h
      have hs : U16s m og := hp
      have hh : Hand H [(id, .ro 1 m fun i => [.si .u16 (u16At og i)])] := hand_one e (fun i => rfl) (fun i h => (hs i h).1.symm)
      refine ⟨[(id, .ro 1 m fun i => [.si .u16 (u16At og i)])], [.sl 0], [(0, .ro 1 m fun i => [.si .u16 (u16At og i)])], 1, [2, 1], rfl, rfl, Nat.le_of_ble_eq_true rfl, hh, rfl, rfl, fun G hG => ?_⟩
      refine ⟨.inl rfl, ⟨?_, rfl, ?_, ?_, rfl, rfl⟩⟩
      · repeat' (first | exact trivial | exact rfl | refine And.intro ?_ ?_)
      · repeat' (first | exact trivial | exact rfl | refine And.intro ?_ ?_)
      · repeat' (first | exact trivial | exact rfl | refine And.intro ?_ ?_)
    · cases h
  · cases h
theorem g33 {l : List (Nat × Ct)} (g : Good P T l) : Good P T ((33, c33) :: l) := g.add (k33 g) c33_mono (body_of Try.func33 (c := code Try.f33) rfl (by decide))
/-- The closure that draws: a number below another one. -/
def drA (m : Nat) (v : Nat → Int) (k : Int) : List (Nat × HB) := [(38, .cells 3 [.si .i64 k]), (39, .cells 42 [.sl 0]), (0, .ro 1 m fun j => [.si .u16 (v j)])]

theorem draw_42 {m : Nat} {v : Nat → Int} {k c : Int} {H : List (Nat × HB)} (hm : m ≤ 9223372036854775807) (hv : ∀ j, j < m → 0 ≤ v j ∧ v j < 65536) (hk0 : 0 ≤ k) (hk1 : k ≤ 1000) (hc0 : 0 < c) (hc1 : c ≤ 1000) {Rv : SV → List (Nat × HB) → Nat → Prop} {Rp : List PanicEntry → List (Nat × HB) → Nat → Prop}
    (hA : subL H (drA m v k)) (hRv : ∀ d, 0 ≤ d → d < c → Rv (.si .i64 d) (drA m v (k + 1) ++ H) 42) : CallS P 89 [.si .i64 c, .sp 38 0, .sp 39 0] H 42 Rv Rp := by
  have g := good0
  refine callS_on (drA m v k) hA ?_
  have hin : ∀ z : Int, 0 ≤ z → 0 ≤ z.tmod c ∧ z.tmod c < c := fun z hz => ⟨Int.tmod_nonneg _ hz, Int.tmod_lt_of_pos _ hc0⟩
  have hcov : ∀ d, 0 ≤ d → d < c → (coverL (drA m v (k + 1)) (drA m v k) = true ∧ roSame (drA m v k) (drA m v (k + 1))) ∧ Rv (.si .i64 d) (drA m v (k + 1) ++ H) 42 := fun d h1 h2 => ⟨⟨rfl, ⟨rfl, trivial⟩⟩, hRv d h1 h2⟩
  by_cases hm0 : (m : Int) = 0
  · refine callS_to g.ok Try.func89 (c := code Try.f89) rfl (Nat.le_of_ble_eq_true rfl) (.si .i64 ((k + 1).tmod c)) (drA m v (k + 1)) 42 (fun G2 hG2 => ?_) (hcov _ (hin _ (by omega)).1 (hin _ (by omega)).2)
    refine Chk.mk (show InK .i64 (k + 1) from ⟨by omega, by omega⟩) ?_
    refine Br.mk (fun h => ?_) (fun h => absurd hm0 (of_decide_eq_false h))
    refine Chk.mk (show c ≠ 0 by omega) ?_
    refine ⟨fun j => j, ?_, ?_, rfl, rfl, rfl, rfl⟩
    · repeat' (first | exact trivial | exact rfl | (intro i hi; exact ⟨rfl, rfl⟩) | refine And.intro ?_ ?_)
    · exact ⟨rfl, rfl⟩
  · have hr : 0 ≤ (k + 1).tmod (m : Int) ∧ (k + 1).tmod (m : Int) < (m : Int) := ⟨Int.tmod_nonneg _ (by omega), Int.tmod_lt_of_pos _ (by omega)⟩
    have hvv := hv ((k + 1).tmod (m : Int)).toNat (by omega)
    refine callS_to g.ok Try.func89 (c := code Try.f89) rfl (Nat.le_of_ble_eq_true rfl) (.si .i64 ((v ((k + 1).tmod (m : Int)).toNat + 71 * (k + 1)).tmod c)) (drA m v (k + 1)) 42 (fun G2 hG2 => ?_) (hcov _ (hin _ (by omega)).1 (hin _ (by omega)).2)
    refine Chk.mk (show InK .i64 (k + 1) from ⟨by omega, by omega⟩) ?_
    refine Br.mk (fun h => absurd (of_decide_eq_true h) hm0) (fun h => ?_)
    refine drawn_ok (g.ok _ _ _) fol [0,0,0,4,14,31,63,127,0,256,1023,0,4095,8191] [] 14 (by kernel_rfl) ?_
    refine Chk.mk hm0 (Chk.mk hr (Chk.mk (show InK .i64 (v ((k + 1).tmod (m : Int)).toNat) from ⟨by show (-9223372036854775808 : Int) ≤ _; omega, by show _ ≤ (9223372036854775807 : Int); omega⟩) ?_))
    refine Chk.mk (show InK .i64 (71 * (k + 1)) from ⟨by omega, by omega⟩) (Chk.mk (show InK .i64 (v ((k + 1).tmod (m : Int)).toNat + 71 * (k + 1)) from ⟨by show (-9223372036854775808 : Int) ≤ _; omega, by show _ ≤ (9223372036854775807 : Int); omega⟩) (Chk.mk (show c ≠ 0 by omega) ?_))
    refine ⟨fun j => j, ?_, ?_, rfl, rfl, rfl, rfl⟩
    · repeat' (first | exact trivial | exact rfl | (intro i hi; exact ⟨rfl, rfl⟩) | refine And.intro ?_ ?_)
    · exact ⟨rfl, rfl⟩
theorem draw_60 {m : Nat} {v : Nat → Int} {k c : Int} {H : List (Nat × HB)} (hm : m ≤ 9223372036854775807) (hv : ∀ j, j < m → 0 ≤ v j ∧ v j < 65536) (hk0 : 0 ≤ k) (hk1 : k ≤ 1000) (hc0 : 0 < c) (hc1 : c ≤ 1000) {Rv : SV → List (Nat × HB) → Nat → Prop} {Rp : List PanicEntry → List (Nat × HB) → Nat → Prop}
    (hA : subL H (drA m v k)) (hRv : ∀ d, 0 ≤ d → d < c → Rv (.si .i64 d) (drA m v (k + 1) ++ H) 60) : CallS P 89 [.si .i64 c, .sp 38 0, .sp 39 0] H 60 Rv Rp := by
  have g := good0
  refine callS_on (drA m v k) hA ?_
  have hin : ∀ z : Int, 0 ≤ z → 0 ≤ z.tmod c ∧ z.tmod c < c := fun z hz => ⟨Int.tmod_nonneg _ hz, Int.tmod_lt_of_pos _ hc0⟩
  have hcov : ∀ d, 0 ≤ d → d < c → (coverL (drA m v (k + 1)) (drA m v k) = true ∧ roSame (drA m v k) (drA m v (k + 1))) ∧ Rv (.si .i64 d) (drA m v (k + 1) ++ H) 60 := fun d h1 h2 => ⟨⟨rfl, ⟨rfl, trivial⟩⟩, hRv d h1 h2⟩
  by_cases hm0 : (m : Int) = 0
  · refine callS_to g.ok Try.func89 (c := code Try.f89) rfl (Nat.le_of_ble_eq_true rfl) (.si .i64 ((k + 1).tmod c)) (drA m v (k + 1)) 60 (fun G2 hG2 => ?_) (hcov _ (hin _ (by omega)).1 (hin _ (by omega)).2)
    refine Chk.mk (show InK .i64 (k + 1) from ⟨by omega, by omega⟩) ?_
    refine Br.mk (fun h => ?_) (fun h => absurd hm0 (of_decide_eq_false h))
    refine Chk.mk (show c ≠ 0 by omega) ?_
    refine ⟨fun j => j, ?_, ?_, rfl, rfl, rfl, rfl⟩
    · repeat' (first | exact trivial | exact rfl | (intro i hi; exact ⟨rfl, rfl⟩) | refine And.intro ?_ ?_)
    · exact ⟨rfl, rfl⟩
  · have hr : 0 ≤ (k + 1).tmod (m : Int) ∧ (k + 1).tmod (m : Int) < (m : Int) := ⟨Int.tmod_nonneg _ (by omega), Int.tmod_lt_of_pos _ (by omega)⟩
    have hvv := hv ((k + 1).tmod (m : Int)).toNat (by omega)
    refine callS_to g.ok Try.func89 (c := code Try.f89) rfl (Nat.le_of_ble_eq_true rfl) (.si .i64 ((v ((k + 1).tmod (m : Int)).toNat + 71 * (k + 1)).tmod c)) (drA m v (k + 1)) 60 (fun G2 hG2 => ?_) (hcov _ (hin _ (by omega)).1 (hin _ (by omega)).2)
    refine Chk.mk (show InK .i64 (k + 1) from ⟨by omega, by omega⟩) ?_
    refine Br.mk (fun h => absurd (of_decide_eq_true h) hm0) (fun h => ?_)
    refine drawn_ok (g.ok _ _ _) fol [0,0,0,4,14,31,63,127,0,256,1023,0,4095,8191] [] 14 (by kernel_rfl) ?_
    refine Chk.mk hm0 (Chk.mk hr (Chk.mk (show InK .i64 (v ((k + 1).tmod (m : Int)).toNat) from ⟨by show (-9223372036854775808 : Int) ≤ _; omega, by show _ ≤ (9223372036854775807 : Int); omega⟩) ?_))
    refine Chk.mk (show InK .i64 (71 * (k + 1)) from ⟨by omega, by omega⟩) (Chk.mk (show InK .i64 (v ((k + 1).tmod (m : Int)).toNat + 71 * (k + 1)) from ⟨by show (-9223372036854775808 : Int) ≤ _; omega, by show _ ≤ (9223372036854775807 : Int); omega⟩) (Chk.mk (show c ≠ 0 by omega) ?_))
    refine ⟨fun j => j, ?_, ?_, rfl, rfl, rfl, rfl⟩
    · repeat' (first | exact trivial | exact rfl | (intro i hi; exact ⟨rfl, rfl⟩) | refine And.intro ?_ ?_)
    · exact ⟨rfl, rfl⟩
theorem draw_70 {m : Nat} {v : Nat → Int} {k c : Int} {H : List (Nat × HB)} (hm : m ≤ 9223372036854775807) (hv : ∀ j, j < m → 0 ≤ v j ∧ v j < 65536) (hk0 : 0 ≤ k) (hk1 : k ≤ 1000) (hc0 : 0 < c) (hc1 : c ≤ 1000) {Rv : SV → List (Nat × HB) → Nat → Prop} {Rp : List PanicEntry → List (Nat × HB) → Nat → Prop}
    (hA : subL H (drA m v k)) (hRv : ∀ d, 0 ≤ d → d < c → Rv (.si .i64 d) (drA m v (k + 1) ++ H) 70) : CallS P 89 [.si .i64 c, .sp 38 0, .sp 39 0] H 70 Rv Rp := by
  have g := good0
  refine callS_on (drA m v k) hA ?_
  have hin : ∀ z : Int, 0 ≤ z → 0 ≤ z.tmod c ∧ z.tmod c < c := fun z hz => ⟨Int.tmod_nonneg _ hz, Int.tmod_lt_of_pos _ hc0⟩
  have hcov : ∀ d, 0 ≤ d → d < c → (coverL (drA m v (k + 1)) (drA m v k) = true ∧ roSame (drA m v k) (drA m v (k + 1))) ∧ Rv (.si .i64 d) (drA m v (k + 1) ++ H) 70 := fun d h1 h2 => ⟨⟨rfl, ⟨rfl, trivial⟩⟩, hRv d h1 h2⟩
  by_cases hm0 : (m : Int) = 0
  · refine callS_to g.ok Try.func89 (c := code Try.f89) rfl (Nat.le_of_ble_eq_true rfl) (.si .i64 ((k + 1).tmod c)) (drA m v (k + 1)) 70 (fun G2 hG2 => ?_) (hcov _ (hin _ (by omega)).1 (hin _ (by omega)).2)
    refine Chk.mk (show InK .i64 (k + 1) from ⟨by omega, by omega⟩) ?_
    refine Br.mk (fun h => ?_) (fun h => absurd hm0 (of_decide_eq_false h))
    refine Chk.mk (show c ≠ 0 by omega) ?_
    refine ⟨fun j => j, ?_, ?_, rfl, rfl, rfl, rfl⟩
    · repeat' (first | exact trivial | exact rfl | (intro i hi; exact ⟨rfl, rfl⟩) | refine And.intro ?_ ?_)
    · exact ⟨rfl, rfl⟩
  · have hr : 0 ≤ (k + 1).tmod (m : Int) ∧ (k + 1).tmod (m : Int) < (m : Int) := ⟨Int.tmod_nonneg _ (by omega), Int.tmod_lt_of_pos _ (by omega)⟩
    have hvv := hv ((k + 1).tmod (m : Int)).toNat (by omega)
    refine callS_to g.ok Try.func89 (c := code Try.f89) rfl (Nat.le_of_ble_eq_true rfl) (.si .i64 ((v ((k + 1).tmod (m : Int)).toNat + 71 * (k + 1)).tmod c)) (drA m v (k + 1)) 70 (fun G2 hG2 => ?_) (hcov _ (hin _ (by omega)).1 (hin _ (by omega)).2)
    refine Chk.mk (show InK .i64 (k + 1) from ⟨by omega, by omega⟩) ?_
    refine Br.mk (fun h => absurd (of_decide_eq_true h) hm0) (fun h => ?_)
    refine drawn_ok (g.ok _ _ _) fol [0,0,0,4,14,31,63,127,0,256,1023,0,4095,8191] [] 14 (by kernel_rfl) ?_
    refine Chk.mk hm0 (Chk.mk hr (Chk.mk (show InK .i64 (v ((k + 1).tmod (m : Int)).toNat) from ⟨by show (-9223372036854775808 : Int) ≤ _; omega, by show _ ≤ (9223372036854775807 : Int); omega⟩) ?_))
    refine Chk.mk (show InK .i64 (71 * (k + 1)) from ⟨by omega, by omega⟩) (Chk.mk (show InK .i64 (v ((k + 1).tmod (m : Int)).toNat + 71 * (k + 1)) from ⟨by show (-9223372036854775808 : Int) ≤ _; omega, by show _ ≤ (9223372036854775807 : Int); omega⟩) (Chk.mk (show c ≠ 0 by omega) ?_))
    refine ⟨fun j => j, ?_, ?_, rfl, rfl, rfl, rfl⟩
    · repeat' (first | exact trivial | exact rfl | (intro i hi; exact ⟨rfl, rfl⟩) | refine And.intro ?_ ?_)
    · exact ⟨rfl, rfl⟩
end Go.X.Gr
end

section
set_option linter.unusedVariables false
set_option linter.unusedSimpArgs false
set_option linter.unusedSectionVars false
/- Grade: laws of what is true of blocks: grades, levels. -/
set_option linter.unusedVariables false
set_option linter.unusedSimpArgs false
set_option maxRecDepth 10000
set_option maxHeartbeats 4000000
namespace Go.X.Gr
open Go Go.Proofs Go.X

theorem lapB_iff {g : Pts} {v : Int} {l : Int × Int} : lapB g v l = true ↔ ∀ b, OkB g b → (lk5 (lkL v) b).1 ≤ l.1 ∧ (lk5 (lkL v) b).2 ≤ l.2 := by
  unfold lapB
  rw [List.all_eq_true]
  constructor
  · intro h b hb
    obtain ⟨f, hf, e⟩ := List.mem_map.1 (faces_mem.2 ⟨b, hb, rfl⟩ : lk5 (lkL v) b ∈ (facesV (lkL v) g).map (·.1))
    have := h f hf
    rw [e] at this
    simp only [keepsP, keepsB, Bool.and_eq_true, decide_eq_true_eq] at this
    exact this
  · intro h f hf
    obtain ⟨b, hb, e⟩ := faces_mem.1 (List.mem_map_of_mem (f := (·.1)) hf)
    have := h b hb
    rw [e] at this
    simp only [keepsP, keepsB, Bool.and_eq_true, decide_eq_true_eq]
    exact this
theorem lapV_is {g : Pts} {l : Int × Int} {j : Nat} : lapV g l = some j ↔ j < 41 ∧ lapB g (20 - (j : Int)) l = true ∧ ∀ i, i < j → lapB g (20 - (i : Int)) l = false := by
  unfold lapV
  rw [List.find?_range_eq_some]
  constructor
  · rintro ⟨h1, h2, h3⟩
    exact ⟨List.mem_range.1 h2, h1, fun i hi => by simpa using h3 i hi⟩
  · rintro ⟨h1, h2, h3⟩
    exact ⟨h2, List.mem_range.2 h1, fun i hi => by rw [h3 i hi]; rfl⟩
theorem lapV_no {g : Pts} {l : Int × Int} : lapV g l = none ↔ ∀ i : Nat, i < 41 → lapB g (20 - (i : Int)) l = false := by
  unfold lapV
  rw [List.find?_eq_none]
  constructor
  · intro h i hi; simpa using h i (List.mem_range.2 hi)
  · intro h i hi
    rw [h i (List.mem_range.1 hi)]
    decide
theorem ok5_of {g : Pts} {b : B5} (hg : ptsB g) (h : OkB g b) : ok5 b.1 b.2.1 b.2.2.1 b.2.2.2.1 b.2.2.2.2 := h.ok hg
/-- Lapped to the highest level a block is as it was. -/
theorem lkL_top {b : B5} (h : ok5 b.1 b.2.1 b.2.2.1 b.2.2.2.1 b.2.2.2.2) : lk5 (lkL 20) b = lk5 lkP b := by
  obtain ⟨h0, h1, h2, h3, h4⟩ := h
  unfold okI at h0 h1 h2 h3 h4
  have e : ∀ x : Int, (-20 ≤ x ∧ x ≤ 20) → min x 20 = x := fun x hx => by omega
  show lkP _ _ _ _ _ = lkP _ _ _ _ _
  rw [e _ h0, e _ h1, e _ h2, e _ h3, e _ h4]
/-- A block is off by no less than it is below the mark, however it is lapped. -/
theorem off_low {a0 a1 a2 a3 a4 v : Int} : 0 - a0 ≤ (lkL v a0 a1 a2 a3 a4).1 ∧ 0 - a1 ≤ (lkL v a0 a1 a2 a3 a4).1 ∧ 0 - a2 ≤ (lkL v a0 a1 a2 a3 a4).1 ∧ 0 - a3 ≤ (lkL v a0 a1 a2 a3 a4).1 ∧ 0 - a4 ≤ (lkL v a0 a1 a2 a3 a4).1 := by
  have key : ∀ b0 b1 b2 b3 b4 : Int, 0 - b0 ≤ offV b0 b1 b2 b3 b4 ∧ 0 - b1 ≤ offV b0 b1 b2 b3 b4 ∧ 0 - b2 ≤ offV b0 b1 b2 b3 b4 ∧ 0 - b3 ≤ offV b0 b1 b2 b3 b4 ∧ 0 - b4 ≤ offV b0 b1 b2 b3 b4 := fun b0 b1 b2 b3 b4 => by
    have h := max5_ge (a0 := 0 - b0) (a1 := 0 - b1) (a2 := 0 - b2) (a3 := 0 - b3) (a4 := 0 - b4)
    have h2 : trnV b0 b1 b2 b3 b4 ≤ offV b0 b1 b2 b3 b4 := by unfold offV; omega
    have h3 : max5 (0 - b0) (0 - b1) (0 - b2) (0 - b3) (0 - b4) = trnV b0 b1 b2 b3 b4 := rfl
    rw [h3] at h
    omega
  obtain ⟨k0, k1, k2, k3, k4⟩ := key (min a0 v) (min a1 v) (min a2 v) (min a3 v) (min a4 v)
  have e : (lkL v a0 a1 a2 a3 a4).1 = offV (min a0 v) (min a1 v) (min a2 v) (min a3 v) (min a4 v) := rfl
  rw [e]
  generalize offV (min a0 v) (min a1 v) (min a2 v) (min a3 v) (min a4 v) = F at *
  refine ⟨?_, ?_, ?_, ?_, ?_⟩ <;> omega
theorem off_lowp {b : B5} {v q : Int} (hq : 0 ≤ q ∧ q < 5) : 0 - fun5 (ptV q) b ≤ (lk5 (lkL v) b).1 := by
  obtain ⟨a0, a1, a2, a3, a4⟩ := b
  have h := off_low (a0 := a0) (a1 := a1) (a2 := a2) (a3 := a3) (a4 := a4) (v := v)
  show 0 - ptV q a0 a1 a2 a3 a4 ≤ (lkL v a0 a1 a2 a3 a4).1
  rcases (show q = 0 ∨ q = 1 ∨ q = 2 ∨ q = 3 ∨ q = 4 by omega) with rfl | rfl | rfl | rfl | rfl
  · exact h.1
  · exact h.2.1
  · exact h.2.2.1
  · exact h.2.2.2.1
  · exact h.2.2.2.2
/-- Nothing has to be lapped just if all blocks keep the limit. -/
theorem lap_top {g : Pts} (hg : ptsB g) (hh : hasB g = true) {l : Int × Int} : lapB g 20 l = true ↔ (vSpan (spanG varV g)).2 ≤ l.2 ∧ (vSpan (spanG offV g)).2 ≤ l.1 := by
  rw [lapB_iff]
  have so := vSpan_of (F := offV) hh
  have sv := vSpan_of (F := varV) hh
  constructor
  · intro h
    obtain ⟨b, hb, e⟩ := so.hi
    obtain ⟨c, hc, e'⟩ := sv.hi
    have h1 := h b hb
    have h2 := h c hc
    rw [lkL_top (ok5_of hg hb), lk5_1, lk5_2] at h1
    rw [lkL_top (ok5_of hg hc), lk5_1, lk5_2] at h2
    omega
  · intro h b hb
    rw [lkL_top (ok5_of hg hb), lk5_1, lk5_2]
    have := so.all b hb
    have := sv.all b hb
    omega
/-- A level that is enough: no point is further below the mark than the limit is. -/
theorem lap_low {g : Pts} (hh : hasB g = true) {v : Int} {l : Int × Int} (h : lapB g v l = true) {q : Int} (hq : 0 ≤ q ∧ q < 5) : 0 - (vSpan (spanG (ptV q) g)).1 ≤ l.1 := by
  obtain ⟨b, hb, e⟩ := (vSpan_of (F := ptV q) hh).lo
  have := (lapB_iff.1 h b hb).1
  have := off_lowp (b := b) (v := v) hq
  omega
/-- A level that is not enough is not, either, if each point is lapped by itself. -/
theorem lap_not {g : Pts} {L : List (Int × Int)} (hok : gradeOk g L = true) {v : Int} (hv : -20 ≤ v ∧ v ≤ 20) {l : Int × Int} (h : lapB g v l = false) :
    gradeOk { lapK g v 5 with st := 10 } L = true ∧ hasB { lapK g v 5 with st := 10 } = true ∧ ¬ ((vSpan (spanG varV { lapK g v 5 with st := 10 })).2 ≤ l.2 ∧ (vSpan (spanG offV { lapK g v 5 with st := 10 })).2 ≤ l.1) := by
  have ho : ∃ b, OkB g b ∧ ¬ ((lk5 (lkL v) b).1 ≤ l.1 ∧ (lk5 (lkL v) b).2 ≤ l.2) := by
    refine Classical.byContradiction fun hn => ?_
    have : lapB g v l = true := lapB_iff.2 fun b hb => Classical.byContradiction fun hk => hn ⟨b, hb, hk⟩
    rw [this] at h
    cases h
  obtain ⟨⟨a0, a1, a2, a3, a4⟩, hb, hk⟩ := ho
  have hg := gradeOk_o hok
  have hst : g.st ≤ 10 := by unfold ptsO at hg; omega
  have hy : OkB { lapK g v 5 with st := 10 } (min a0 v, min a1 v, min a2 v, min a3 v, min a4 v) := by
    obtain ⟨r0, r1, r2, r3, r4, s01, s02, s03, s04, s12, s23, s34, s14⟩ := hb
    simp only at r0 r1 r2 r3 r4 s01 s02 s03 s04 s12 s23 s34 s14
    clear hk h hok hg
    refine ⟨?_, ?_, ?_, ?_, ?_, ?_, ?_, ?_, ?_, ?_, ?_, ?_, ?_⟩ <;> (simp only [lapK]; omega)
  have hh : hasB { lapK g v 5 with st := 10 } = true := hasB_iff.2 ⟨_, hy⟩
  refine ⟨?_, hh, fun hle => hk ?_⟩
  · simp only [gradeOk, headB, inB, ptI, ptB, Bool.and_eq_true, decide_eq_true_eq, lapK] at hok ⊢
    refine ⟨⟨hok.1.1, by decide⟩, hok.2.1, ?_⟩
    omega
  · have so := (vSpan_of (F := offV) hh).all _ hy
    have sv := (vSpan_of (F := varV) hh).all _ hy
    have e1 : (lk5 (lkL v) (a0, a1, a2, a3, a4)).1 = fun5 offV (min a0 v, min a1 v, min a2 v, min a3 v, min a4 v) := rfl
    have e2 : (lk5 (lkL v) (a0, a1, a2, a3, a4)).2 = fun5 varV (min a0 v, min a1 v, min a2 v, min a3 v, min a4 v) := rfl
    omega
/-- A block that is known. -/
def knw (b : B5) (s : Int) : Pts := ⟨b.1, b.1, b.2.1, b.2.1, b.2.2.1, b.2.2.1, b.2.2.2.1, b.2.2.2.1, b.2.2.2.2, b.2.2.2.2, s⟩
theorem knw_ok {g : Pts} {b : B5} (h : OkB g b) : ∀ c, OkB (knw b g.st) c ↔ c = b := by
  rintro ⟨c0, c1, c2, c3, c4⟩
  obtain ⟨b0, b1, b2, b3, b4⟩ := b
  constructor
  · rintro ⟨r0, r1, r2, r3, r4, -, -, -, -, -, -, -, -⟩
    simp only [knw] at r0 r1 r2 r3 r4
    have : c0 = b0 := by omega
    have : c1 = b1 := by omega
    have : c2 = b2 := by omega
    have : c3 = b3 := by omega
    have : c4 = b4 := by omega
    simp_all
  · intro e
    cases e
    exact ⟨⟨Int.le_refl _, Int.le_refl _⟩, ⟨Int.le_refl _, Int.le_refl _⟩, ⟨Int.le_refl _, Int.le_refl _⟩, ⟨Int.le_refl _, Int.le_refl _⟩, ⟨Int.le_refl _, Int.le_refl _⟩, h.s01, h.s02, h.s03, h.s04, h.s12, h.s23, h.s34, h.s14⟩
theorem knw_grade {g : Pts} {L L' : List (Int × Int)} {b : B5} (hok : gradeOk g L = true) (hL : 1 ≤ L'.length ∧ L'.length ≤ 4 ∧ limsB (0, 0) L' = true) (h : OkB g b) : gradeOk (knw b g.st) L' = true := by
  obtain ⟨b0, b1, b2, b3, b4⟩ := b
  obtain ⟨r0, r1, r2, r3, r4, -, -, -, -, -, -, -, -⟩ := h
  simp only at r0 r1 r2 r3 r4
  unfold knw
  simp only [gradeOk, headB, inB, ptI, ptB, Bool.and_eq_true, decide_eq_true_eq] at hok ⊢
  refine ⟨⟨⟨by omega, by omega⟩, hok.1.2⟩, hL.2.2, ?_⟩
  omega
theorem knw_lap {g : Pts} {b : B5} (h : OkB g b) {v : Int} {l : Int × Int} : lapB (knw b g.st) v l = (decide ((lk5 (lkL v) b).1 ≤ l.1) && decide ((lk5 (lkL v) b).2 ≤ l.2)) := by
  rw [Bool.eq_iff_iff, lapB_iff, Bool.and_eq_true, decide_eq_true_eq, decide_eq_true_eq]
  constructor
  · intro hl; exact hl b ((knw_ok h b).2 rfl)
  · intro hl c hc
    rw [(knw_ok h c).1 hc]
    exact hl
theorem resL_ok {g : Pts} {L : List (Int × Int)} (h : gradeOk g L = true) (hh : hasB g = true) {q : Nat} (hq : q < L.length) : resL g L q = (match lapV g (L.getD q (0, 0)) with
    | some j => (20 - (j : Int), 0)
    | none => (0, 4)) := by
  unfold resL
  rw [isG_ok hq, errT_ok h, if_pos hh, if_pos rfl, Int.toNat_natCast]
  cases lapV g (L.getD q (0, 0)) <;> rfl
theorem resL_no {g : Pts} {L : List (Int × Int)} (h : gradeOk g L = true) (hh : hasB g = false) {q : Nat} (hq : q < L.length) : resL g L q = (0, 10) := by
  unfold resL
  rw [isG_ok hq, errT_ok h, hh]
  rfl
/-- The grade of a block is the first one whose limit it keeps. -/
theorem of_uniq {L : List (Int × Int)} {f : Fc} (hf : f.1 ≤ 40 ∧ f.2 ≤ 40) {w : Nat} (h1 : w ≤ L.length) (h2 : ∀ j, j < w → keepsP f (L.getD j (0, 0)) = false) (h3 : w < L.length → keepsP f (L.getD w (0, 0)) = true) : ofL (lims3 L) f = w := by
  unfold ofL
  have hlen : (lims3 L).length = L.length + 1 := by simp [lims3]
  refine (List.findIdx_eq (by rw [hlen]; omega)).2 ⟨?_, fun j hj => ?_⟩
  · rcases Nat.lt_or_ge w L.length with h | h
    · have := h3 h
      simp only [lims3]
      rw [List.getElem_append_left h]
      simpa [List.getD, h] using this
    · obtain rfl : w = L.length := by omega
      simp only [lims3]
      rw [List.getElem_append_right (by omega)]
      simp only [keepsP, keepsB, Bool.and_eq_true, decide_eq_true_eq]
      simpa using hf
  · have := h2 j hj
    have hjL : j < L.length := by omega
    simp only [lims3]
    rw [List.getElem_append_left hjL]
    simpa [List.getD, hjL] using this
theorem fdiv_zero {S n : Nat} (h : S < 2 ^ (n + 1)) : ((S : Nat) : Int).fdiv (2 ^ ((n : Int) + 1).toNat) = 0 := by
  have e : ((n : Int) + 1).toNat = n + 1 := by omega
  have e2 : (2 : Int) ^ (n + 1) = ((2 ^ (n + 1) : Nat) : Int) := by push_cast; rfl
  rw [e, e2, Int.fdiv_eq_ediv_of_nonneg _ (by omega)]
  exact Int.ediv_eq_zero_of_lt (by omega) (by omega)
theorem shr_bit {S k : Nat} : ((((S : Nat) : Int).fdiv (2 ^ (k : Int).toNat)).toNat &&& (1 : Int).toNat : Nat) = (S.testBit k).toNat := by
  have e2 : (2 : Int) ^ k = ((2 ^ k : Nat) : Int) := by push_cast; rfl
  rw [Int.toNat_natCast, e2, Int.fdiv_eq_ediv_of_nonneg _ (Int.natCast_nonneg _), ← Int.natCast_ediv, Int.toNat_natCast]
  show (S / 2 ^ k) &&& 1 = _
  rw [Nat.and_one_is_mod, Nat.testBit_eq_decide_div_mod_eq]
  have : S / 2 ^ k % 2 = 0 ∨ S / 2 ^ k % 2 = 1 := by omega
  rcases this with h | h <;> rw [h] <;> rfl
theorem shr_b {S w : Nat} (h : S < 32) : InK .i64 (((S : Nat) : Int).fdiv (2 ^ (w : Int).toNat)) ∧ 0 ≤ ((S : Nat) : Int).fdiv (2 ^ (w : Int).toNat) := by
  have e2 : (2 : Int) ^ w = ((2 ^ w : Nat) : Int) := by push_cast; rfl
  have e3 : ((S : Nat) : Int).fdiv (2 ^ (w : Int).toNat) = ((S / 2 ^ w : Nat) : Int) := by
    rw [Int.toNat_natCast, e2, Int.fdiv_eq_ediv_of_nonneg _ (Int.natCast_nonneg _), ← Int.natCast_ediv]
  rw [e3]
  have : S / 2 ^ w ≤ S := Nat.div_le_self _ _
  generalize S / 2 ^ w = D at *
  exact ⟨⟨by show (-9223372036854775808 : Int) ≤ _; omega, by show _ ≤ (9223372036854775807 : Int); omega⟩, by omega⟩
end Go.X.Gr
end
