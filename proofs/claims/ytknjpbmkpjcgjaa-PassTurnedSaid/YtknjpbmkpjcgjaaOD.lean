/- Contracts of functions of the package pass: Chain, Known. -/
import Derived.Test.YtknjpbmkpjcgjaaOC
import Derived.Test.YtknjpbmkpjcgjaaMJ

section
set_option linter.unusedVariables false
set_option linter.unusedSimpArgs false
set_option linter.unusedSectionVars false
/- Pass: how wrong an item can be, and all items. -/
set_option linter.unusedVariables false
set_option linter.unusedSimpArgs false
set_option maxRecDepth 10000
set_option maxHeartbeats 4000000
namespace Go.X.Ps
open Go Go.Proofs Go.X

def c115 : Ct := plainCt fun
  | [.agg [.sv v, .si .i64 w]] => some ⟨none, none, .tup [.si .i64 w, .sb true], []⟩
  | _ => none
theorem k115 {l : List (Nat × Ct)} (g : Good P T l) : COk P 115 c115 := cok (C := tabC l) g.ok Try.func115 (c := code Try.f115) rfl fun fr args H out h hp => by
  simp only [c115, plainCt] at h
  split at h
  · cases h
    refine walk_plain rfl (Nat.le_of_ble_eq_true rfl) fun G hG => ?_
    exact ⟨.inl rfl, end_plain ⟨⟨rfl, rfl⟩, rfl, trivial⟩ rfl rfl⟩
  · cases h
def c116 : Ct := plainCt fun
  | [.agg []] => some ⟨none, none, .tup [.si .i64 0, .sb false], []⟩
  | _ => none
theorem k116 {l : List (Nat × Ct)} (g : Good P T l) : COk P 116 c116 := cok (C := tabC l) g.ok Try.func116 (c := code Try.f116) rfl fun fr args H out h hp => by
  simp only [c116, plainCt] at h
  split at h
  · cases h
    refine walk_plain rfl (Nat.le_of_ble_eq_true rfl) fun G hG => ?_
    exact ⟨.inl rfl, end_plain ⟨⟨rfl, rfl⟩, rfl, trivial⟩ rfl rfl⟩
  · cases h
theorem m74 : MethOk P 74 "blockworks/pass.bound" 115 := meth_of' (by kernel_rfl)
theorem m121 : MethOk P 121 "blockworks/pass.bound" 116 := meth_of' (by kernel_rfl)
theorem b115 : Body P 115 := body_of Try.func115 (c := code Try.f115) rfl (by decide)
theorem b116 : Body P 116 := body_of Try.func116 (c := code Try.f116) rfl (by decide)
theorem b46 : Body P 46 := body_of Try.func46 (c := code Try.f46) rfl (by decide)
theorem b54 : Body P 54 := body_of Try.func54 (c := code Try.f54) rfl (by decide)
def wO : Option Ch → Int
  | none => 0
  | some c => c.w
def bO : Option Ch → Int
  | none => -1
  | some c => c.w
def OfE (ag : Int) (n : Nat) (r : Nat → Pp) (C : Fam) : Type := {p : Fam × List (Ks × Option Cv) // (∀ v n g, C v n g → p.1 v n g) ∧ KtOk ag n r p.1 p.2}
theorem s46 {it ag : Int} {n : Nat} {r : Nat → Pp} {es : List (Ks × Option Cv)} {C : Fam} {x y : Int} (hr : PpOk ag n r) (hK : KtOk ag n r C es) {Rv : SV → List (Nat × HB) → Nat → Prop} {Rp : List PanicEntry → List (Nat × HB) → Nat → Prop}
    (hk : ∀ (C' : Fam) es', (∀ v n g, C v n g → C' v n g) → KtOk ag n r C' es' → Rv (.tup [.si .i64 (wO (bst ag n r x y)), .sb (bst ag n r x y).isSome]) (ofH it ag n r es' C') 4) :
    CallS P 46 [.sp 1 0, .si .i64 x, .si .i64 y] (ofH it ag n r es C) 4 Rv Rp := by
  refine callS_toE (ι := OfE ag n r C) (T := T) good0.ok Try.func46 (c := code Try.f46) rfl (Nat.le_of_ble_eq_true rfl) (fun _ => .tup [.si .i64 (wO (bst ag n r x y)), .sb (bst ag n r x y).isSome]) (fun p => ofH it ag n r p.1.2 p.1.1) 4 (fun G hG => ?_) (fun p => hk _ _ p.2.1 p.2.2)
  refine fb_call (good0.ok _ _ _) cont_std rfl rfl rfl rfl ⟨b52, ?_⟩
  refine callS_at [.sp 1 0, .agg [.si .i64 x, .si .i64 y]] (ofH it ag n r es C) 4 (fun j => j) (by repeat' (first | exact trivial | exact rfl | refine And.intro ?_ ?_)) rfl (by repeat' (first | exact trivial | exact rfl | exact List.Perm.refl _ | (intro i hi; exact ⟨rfl, rfl⟩) | (intro v m g h; exact h) | refine And.intro ?_ ?_)) rfl rfl ?_
  refine s52 hr hK fun C2 es2 v hC2 hK2 hv hvt => ?_
  refine ⟨rfl, (by repeat' (first | exact trivial | exact rfl | refine And.intro ?_ ?_)), (by repeat' (first | exact trivial | exact rfl | (intro i hi; exact rfl) | refine And.intro ?_ ?_)), ?_⟩
  rw [← hv]
  cases v with
  | none =>
    refine fb_invoke 116 (good0.ok _ _ _) cont_std rfl rfl rfl rfl rfl rfl rfl m121 b116 ?_
    refine callS_ct (k116 good0) rfl trivial (fun _ => ?_) (fun _ h => by cases h)
    refine ⟨⟨(C2, es2), hC2, hK2⟩, (fun j => j), ?_, ?_, rfl, rfl, rfl, rfl⟩ <;> repeat' (first | exact trivial | exact rfl | exact List.Perm.refl _ | (intro i hi; exact ⟨rfl, rfl⟩) | (intro v m g h; exact h) | refine And.intro ?_ ?_)
  | some c =>
    refine fb_invoke 115 (good0.ok _ _ _) cont_std rfl rfl rfl rfl rfl rfl rfl m74 b115 ?_
    refine callS_ct (k115 good0) rfl trivial (fun _ => ?_) (fun _ h => by cases h)
    refine ⟨⟨(C2, es2), hC2, hK2⟩, (fun j => j), ?_, ?_, rfl, rfl, rfl, rfl⟩ <;> repeat' (first | exact trivial | exact rfl | exact List.Perm.refl _ | (intro i hi; exact ⟨rfl, rfl⟩) | (intro v m g h; exact h) | refine And.intro ?_ ?_)

theorem bO_t {o : Option Ch} (h : o.isSome = true) : wO o = bO o := by
  cases o with
  | none => cases h
  | some c => rfl
theorem bO_f {o : Option Ch} (h : o.isSome = false) : -1 = bO o := by
  cases o with
  | none => rfl
  | some c => cases h
def bAt (f : Nat → Int) (i j : Nat) : Int := if j < i then f j else 0
def bndC (f : Nat → Int) (i : Nat) : List SV := [.si .i64 (bAt f i 0), .si .i64 (bAt f i 1), .si .i64 (bAt f i 2), .si .i64 (bAt f i 3), .si .i64 (bAt f i 4), .si .i64 (bAt f i 5)]
def bndL (f : Nat → Int) : List SV := [.si .i64 (f 0), .si .i64 (f 1), .si .i64 (f 2), .si .i64 (f 3), .si .i64 (f 4), .si .i64 (f 5)]
def bnd (ag : Int) (n : Nat) (r : Nat → Pp) (y : Int) (i : Nat) : Int := bO (bst ag n r (i : Int) y)
theorem s54 {it ag : Int} {n : Nat} {r : Nat → Pp} {es : List (Ks × Option Cv)} {C : Fam} {y : Int} (hr : PpOk ag n r) (hK : KtOk ag n r C es) {Rv : SV → List (Nat × HB) → Nat → Prop} {Rp : List PanicEntry → List (Nat × HB) → Nat → Prop}
    (hk : ∀ (C' : Fam) es', (∀ v n g, C v n g → C' v n g) → KtOk ag n r C' es' → Rv (.agg (bndL (bnd ag n r y))) (ofH it ag n r es' C') 4) :
    CallS P 54 [.sp 1 0, .si .i64 y] (ofH it ag n r es C) 4 Rv Rp := by
  refine callS_toE (ι := OfE ag n r C) (T := T) good0.ok Try.func54 (c := code Try.f54) rfl (Nat.le_of_ble_eq_true rfl) (fun _ => .agg (bndL (bnd ag n r y))) (fun p => ofH it ag n r p.1.2 p.1.1) 4 (fun G hG => ?_) (fun p => hk _ _ p.2.1 p.2.2)
  refine loop_ok (good0.ok _ _ _) (fun z : {p : Nat × Fam × List (Ks × Option Cv) // p.1 ≤ 6 ∧ (∀ v n g, C v n g → p.2.1 v n g) ∧ KtOk ag n r p.2.1 p.2.2} => ⟨[(0, ⟨[], .sp 1 0⟩), (1, ⟨[], .si .i64 y⟩), (4, ⟨[], .sp 4 0⟩), (8, ⟨[], .si .i64 z.1.1⟩)], [], (4, .cells 83 (bndC (bnd ag n r y) z.1.1)) :: ofH it ag n r z.1.2.2 z.1.2.1, 5, []⟩)
    (fun z => 6 - z.1.1) (fun _ j hj => hG j (Nat.le_trans (show 4 ≤ 5 by decide) hj)) ⟨(0, C, es), Nat.zero_le _, fun _ _ _ h => h, hK⟩ ?_ ?_
  · refine ⟨?_, ?_, rfl, rfl, rfl⟩ <;> repeat' (first | exact trivial | exact rfl | exact List.Perm.refl _ | (intro i hi; exact rfl) | (intro v m g h; exact h) | refine And.intro ?_ ?_)
  rintro ⟨⟨i, C1, es1⟩, hi, hC1, hK1⟩
  rcases (show i = 6 ∨ i = 0 ∨ i = 1 ∨ i = 2 ∨ i = 3 ∨ i = 4 ∨ i = 5 by omega) with rfl | rfl | rfl | rfl | rfl | rfl | rfl
  · refine Br.mk (fun h => by cases h) (fun _ => ?_)
    refine ⟨⟨(C1, es1), hC1, hK1⟩, (fun j => j), ?_, ?_, rfl, rfl, rfl, rfl⟩ <;> repeat' (first | exact trivial | exact rfl | exact List.Perm.refl _ | (intro i hi; exact ⟨rfl, rfl⟩) | (intro v m g h; exact h) | refine And.intro ?_ ?_)
  · refine Br.mk (fun _ => ?_) (fun h => by cases h)
    refine Chk.mk (by dsimp only; decide) ?_
    refine fb_call (good0.ok _ _ _) cont_std rfl rfl rfl rfl ⟨b46, ?_⟩
    refine callS_at [.sp 1 0, .si .i64 _, .si .i64 y] (ofH it ag n r es1 C1) 4 (fun j => j) (by repeat' (first | exact trivial | exact rfl | refine And.intro ?_ ?_)) rfl (by repeat' (first | exact trivial | exact rfl | exact List.Perm.refl _ | (intro i hi; exact ⟨rfl, rfl⟩) | (intro v m g h; exact h) | refine And.intro ?_ ?_)) rfl rfl ?_
    refine s46 hr hK1 fun C2 es2 hC2 hK2 => ?_
    refine ⟨rfl, (by repeat' (first | exact trivial | exact rfl | refine And.intro ?_ ?_)), (by repeat' (first | exact trivial | exact rfl | (intro i hi; exact rfl) | refine And.intro ?_ ?_)), ?_⟩
    refine Br.mk (fun h => ?_) (fun h => ?_)
    · refine Chk.mk (by dsimp only; decide) (Chk.mk (by exact ⟨by dsimp only; decide, by dsimp only; decide⟩) ?_)
      refine ⟨⟨(1, C2, es2), by dsimp only; decide, fun v n g h => hC2 v n g (hC1 v n g h), hK2⟩, ?_, by dsimp only; decide⟩
      refine ⟨?_, ?_, rfl, rfl, rfl⟩ <;> repeat' (first | exact trivial | exact rfl | exact bO_t h | exact List.Perm.refl _ | (intro i hi; exact rfl) | (intro v m g h; exact h) | refine And.intro ?_ ?_)
    · refine Chk.mk (by exact ⟨by dsimp only; decide, by dsimp only; decide⟩) ?_
      refine ⟨⟨(1, C2, es2), by dsimp only; decide, fun v n g h => hC2 v n g (hC1 v n g h), hK2⟩, ?_, by dsimp only; decide⟩
      refine ⟨?_, ?_, rfl, rfl, rfl⟩ <;> repeat' (first | exact trivial | exact rfl | exact bO_f h | exact List.Perm.refl _ | (intro i hi; exact rfl) | (intro v m g h; exact h) | refine And.intro ?_ ?_)
  · refine Br.mk (fun _ => ?_) (fun h => by cases h)
    refine Chk.mk (by dsimp only; decide) ?_
    refine fb_call (good0.ok _ _ _) cont_std rfl rfl rfl rfl ⟨b46, ?_⟩
    refine callS_at [.sp 1 0, .si .i64 _, .si .i64 y] (ofH it ag n r es1 C1) 4 (fun j => j) (by repeat' (first | exact trivial | exact rfl | refine And.intro ?_ ?_)) rfl (by repeat' (first | exact trivial | exact rfl | exact List.Perm.refl _ | (intro i hi; exact ⟨rfl, rfl⟩) | (intro v m g h; exact h) | refine And.intro ?_ ?_)) rfl rfl ?_
    refine s46 hr hK1 fun C2 es2 hC2 hK2 => ?_
    refine ⟨rfl, (by repeat' (first | exact trivial | exact rfl | refine And.intro ?_ ?_)), (by repeat' (first | exact trivial | exact rfl | (intro i hi; exact rfl) | refine And.intro ?_ ?_)), ?_⟩
    refine Br.mk (fun h => ?_) (fun h => ?_)
    · refine Chk.mk (by dsimp only; decide) (Chk.mk (by exact ⟨by dsimp only; decide, by dsimp only; decide⟩) ?_)
      refine ⟨⟨(2, C2, es2), by dsimp only; decide, fun v n g h => hC2 v n g (hC1 v n g h), hK2⟩, ?_, by dsimp only; decide⟩
      refine ⟨?_, ?_, rfl, rfl, rfl⟩ <;> repeat' (first | exact trivial | exact rfl | exact bO_t h | exact List.Perm.refl _ | (intro i hi; exact rfl) | (intro v m g h; exact h) | refine And.intro ?_ ?_)
    · refine Chk.mk (by exact ⟨by dsimp only; decide, by dsimp only; decide⟩) ?_
      refine ⟨⟨(2, C2, es2), by dsimp only; decide, fun v n g h => hC2 v n g (hC1 v n g h), hK2⟩, ?_, by dsimp only; decide⟩
      refine ⟨?_, ?_, rfl, rfl, rfl⟩ <;> repeat' (first | exact trivial | exact rfl | exact bO_f h | exact List.Perm.refl _ | (intro i hi; exact rfl) | (intro v m g h; exact h) | refine And.intro ?_ ?_)
  · refine Br.mk (fun _ => ?_) (fun h => by cases h)
    refine Chk.mk (by dsimp only; decide) ?_
    refine fb_call (good0.ok _ _ _) cont_std rfl rfl rfl rfl ⟨b46, ?_⟩
    refine callS_at [.sp 1 0, .si .i64 _, .si .i64 y] (ofH it ag n r es1 C1) 4 (fun j => j) (by repeat' (first | exact trivial | exact rfl | refine And.intro ?_ ?_)) rfl (by repeat' (first | exact trivial | exact rfl | exact List.Perm.refl _ | (intro i hi; exact ⟨rfl, rfl⟩) | (intro v m g h; exact h) | refine And.intro ?_ ?_)) rfl rfl ?_
    refine s46 hr hK1 fun C2 es2 hC2 hK2 => ?_
    refine ⟨rfl, (by repeat' (first | exact trivial | exact rfl | refine And.intro ?_ ?_)), (by repeat' (first | exact trivial | exact rfl | (intro i hi; exact rfl) | refine And.intro ?_ ?_)), ?_⟩
    refine Br.mk (fun h => ?_) (fun h => ?_)
    · refine Chk.mk (by dsimp only; decide) (Chk.mk (by exact ⟨by dsimp only; decide, by dsimp only; decide⟩) ?_)
      refine ⟨⟨(3, C2, es2), by dsimp only; decide, fun v n g h => hC2 v n g (hC1 v n g h), hK2⟩, ?_, by dsimp only; decide⟩
      refine ⟨?_, ?_, rfl, rfl, rfl⟩ <;> repeat' (first | exact trivial | exact rfl | exact bO_t h | exact List.Perm.refl _ | (intro i hi; exact rfl) | (intro v m g h; exact h) | refine And.intro ?_ ?_)
    · refine Chk.mk (by exact ⟨by dsimp only; decide, by dsimp only; decide⟩) ?_
      refine ⟨⟨(3, C2, es2), by dsimp only; decide, fun v n g h => hC2 v n g (hC1 v n g h), hK2⟩, ?_, by dsimp only; decide⟩
      refine ⟨?_, ?_, rfl, rfl, rfl⟩ <;> repeat' (first | exact trivial | exact rfl | exact bO_f h | exact List.Perm.refl _ | (intro i hi; exact rfl) | (intro v m g h; exact h) | refine And.intro ?_ ?_)
  · refine Br.mk (fun _ => ?_) (fun h => by cases h)
    refine Chk.mk (by dsimp only; decide) ?_
    refine fb_call (good0.ok _ _ _) cont_std rfl rfl rfl rfl ⟨b46, ?_⟩
    refine callS_at [.sp 1 0, .si .i64 _, .si .i64 y] (ofH it ag n r es1 C1) 4 (fun j => j) (by repeat' (first | exact trivial | exact rfl | refine And.intro ?_ ?_)) rfl (by repeat' (first | exact trivial | exact rfl | exact List.Perm.refl _ | (intro i hi; exact ⟨rfl, rfl⟩) | (intro v m g h; exact h) | refine And.intro ?_ ?_)) rfl rfl ?_
    refine s46 hr hK1 fun C2 es2 hC2 hK2 => ?_
    refine ⟨rfl, (by repeat' (first | exact trivial | exact rfl | refine And.intro ?_ ?_)), (by repeat' (first | exact trivial | exact rfl | (intro i hi; exact rfl) | refine And.intro ?_ ?_)), ?_⟩
    refine Br.mk (fun h => ?_) (fun h => ?_)
    · refine Chk.mk (by dsimp only; decide) (Chk.mk (by exact ⟨by dsimp only; decide, by dsimp only; decide⟩) ?_)
      refine ⟨⟨(4, C2, es2), by dsimp only; decide, fun v n g h => hC2 v n g (hC1 v n g h), hK2⟩, ?_, by dsimp only; decide⟩
      refine ⟨?_, ?_, rfl, rfl, rfl⟩ <;> repeat' (first | exact trivial | exact rfl | exact bO_t h | exact List.Perm.refl _ | (intro i hi; exact rfl) | (intro v m g h; exact h) | refine And.intro ?_ ?_)
    · refine Chk.mk (by exact ⟨by dsimp only; decide, by dsimp only; decide⟩) ?_
      refine ⟨⟨(4, C2, es2), by dsimp only; decide, fun v n g h => hC2 v n g (hC1 v n g h), hK2⟩, ?_, by dsimp only; decide⟩
      refine ⟨?_, ?_, rfl, rfl, rfl⟩ <;> repeat' (first | exact trivial | exact rfl | exact bO_f h | exact List.Perm.refl _ | (intro i hi; exact rfl) | (intro v m g h; exact h) | refine And.intro ?_ ?_)
  · refine Br.mk (fun _ => ?_) (fun h => by cases h)
    refine Chk.mk (by dsimp only; decide) ?_
    refine fb_call (good0.ok _ _ _) cont_std rfl rfl rfl rfl ⟨b46, ?_⟩
    refine callS_at [.sp 1 0, .si .i64 _, .si .i64 y] (ofH it ag n r es1 C1) 4 (fun j => j) (by repeat' (first | exact trivial | exact rfl | refine And.intro ?_ ?_)) rfl (by repeat' (first | exact trivial | exact rfl | exact List.Perm.refl _ | (intro i hi; exact ⟨rfl, rfl⟩) | (intro v m g h; exact h) | refine And.intro ?_ ?_)) rfl rfl ?_
    refine s46 hr hK1 fun C2 es2 hC2 hK2 => ?_
    refine ⟨rfl, (by repeat' (first | exact trivial | exact rfl | refine And.intro ?_ ?_)), (by repeat' (first | exact trivial | exact rfl | (intro i hi; exact rfl) | refine And.intro ?_ ?_)), ?_⟩
    refine Br.mk (fun h => ?_) (fun h => ?_)
    · refine Chk.mk (by dsimp only; decide) (Chk.mk (by exact ⟨by dsimp only; decide, by dsimp only; decide⟩) ?_)
      refine ⟨⟨(5, C2, es2), by dsimp only; decide, fun v n g h => hC2 v n g (hC1 v n g h), hK2⟩, ?_, by dsimp only; decide⟩
      refine ⟨?_, ?_, rfl, rfl, rfl⟩ <;> repeat' (first | exact trivial | exact rfl | exact bO_t h | exact List.Perm.refl _ | (intro i hi; exact rfl) | (intro v m g h; exact h) | refine And.intro ?_ ?_)
    · refine Chk.mk (by exact ⟨by dsimp only; decide, by dsimp only; decide⟩) ?_
      refine ⟨⟨(5, C2, es2), by dsimp only; decide, fun v n g h => hC2 v n g (hC1 v n g h), hK2⟩, ?_, by dsimp only; decide⟩
      refine ⟨?_, ?_, rfl, rfl, rfl⟩ <;> repeat' (first | exact trivial | exact rfl | exact bO_f h | exact List.Perm.refl _ | (intro i hi; exact rfl) | (intro v m g h; exact h) | refine And.intro ?_ ?_)
  · refine Br.mk (fun _ => ?_) (fun h => by cases h)
    refine Chk.mk (by dsimp only; decide) ?_
    refine fb_call (good0.ok _ _ _) cont_std rfl rfl rfl rfl ⟨b46, ?_⟩
    refine callS_at [.sp 1 0, .si .i64 _, .si .i64 y] (ofH it ag n r es1 C1) 4 (fun j => j) (by repeat' (first | exact trivial | exact rfl | refine And.intro ?_ ?_)) rfl (by repeat' (first | exact trivial | exact rfl | exact List.Perm.refl _ | (intro i hi; exact ⟨rfl, rfl⟩) | (intro v m g h; exact h) | refine And.intro ?_ ?_)) rfl rfl ?_
    refine s46 hr hK1 fun C2 es2 hC2 hK2 => ?_
    refine ⟨rfl, (by repeat' (first | exact trivial | exact rfl | refine And.intro ?_ ?_)), (by repeat' (first | exact trivial | exact rfl | (intro i hi; exact rfl) | refine And.intro ?_ ?_)), ?_⟩
    refine Br.mk (fun h => ?_) (fun h => ?_)
    · refine Chk.mk (by dsimp only; decide) (Chk.mk (by exact ⟨by dsimp only; decide, by dsimp only; decide⟩) ?_)
      refine ⟨⟨(6, C2, es2), by dsimp only; decide, fun v n g h => hC2 v n g (hC1 v n g h), hK2⟩, ?_, by dsimp only; decide⟩
      refine ⟨?_, ?_, rfl, rfl, rfl⟩ <;> repeat' (first | exact trivial | exact rfl | exact bO_t h | exact List.Perm.refl _ | (intro i hi; exact rfl) | (intro v m g h; exact h) | refine And.intro ?_ ?_)
    · refine Chk.mk (by exact ⟨by dsimp only; decide, by dsimp only; decide⟩) ?_
      refine ⟨⟨(6, C2, es2), by dsimp only; decide, fun v n g h => hC2 v n g (hC1 v n g h), hK2⟩, ?_, by dsimp only; decide⟩
      refine ⟨?_, ?_, rfl, rfl, rfl⟩ <;> repeat' (first | exact trivial | exact rfl | exact bO_f h | exact List.Perm.refl _ | (intro i hi; exact rfl) | (intro v m g h; exact h) | refine And.intro ?_ ?_)
end Go.X.Ps
end

section
set_option linter.unusedVariables false
set_option linter.unusedSimpArgs false
set_option linter.unusedSectionVars false
/- Pass: Bound. -/
set_option linter.unusedVariables false
set_option linter.unusedSimpArgs false
set_option maxRecDepth 10000
set_option maxHeartbeats 4000000
namespace Go.X.Ps
open Go Go.Proofs Go.X

/-! ### Certificates as a list -/
def pp0 : Pp := ⟨0, 0, 0, 0, 0⟩
def pget (ps : List Pp) (i : Nat) : Pp := ps.getD i pp0
theorem chainsC_congr {f f' : Int → Int → Option Ch} {age it y : Int} {r r' : Nat → Pp} : ∀ {m}, (∀ a b, f a b = f' a b) → (∀ i, i < m → r i = r' i) → chainsC f age it y r m = chainsC f' age it y r' m
  | 0, _, _ => rfl
  | m + 1, h, h2 => by
    rw [chainsC, chainsC, chainsC_congr h fun i hi => h2 i (by omega), oneC, oneC, h2 m (by omega), h]
theorem bestW_congr {ag : Int} {n : Nat} {r r' : Nat → Pp} (h : ∀ i, i < n → r i = r' i) : ∀ k it y, bestW ag n r k it y = bestW ag n r' k it y
  | 0, it, y => rfl
  | k + 1, it, y => by
    rw [bestW, bestW, chainsC_congr (bestW_congr h k) h]
theorem bst_congr {ag : Int} {n : Nat} {r r' : Nat → Pp} (h : ∀ i, i < n → r i = r' i) (it y : Int) : bst ag n r it y = bst ag n r' it y := bestW_congr h n it y
/-- The best chain, by a list of certificates. -/
def bnL (ag : Int) (ps : List Pp) (it y : Int) : Option Ch := bst ag ps.length (pget ps) it y
theorem papL_len (n : Nat) (get : Nat → List SV) : (papL n get).length = n := by simp [papL]
theorem pget_papL {n i : Nat} {get : Nat → List SV} (h : i < n) : pget (papL n get) i = ppAt get i := by
  simp [pget, papL, List.getD, h]
theorem bnL_papL (ag : Int) (n : Nat) (get : Nat → List SV) (it y : Int) : bnL ag (papL n get) it y = bst ag n (ppAt get) it y := by
  rw [bnL, papL_len]
  exact bst_congr (fun i hi => pget_papL hi) it y
theorem valid_ok {it ag : Int} {n : Nat} {r : Nat → Pp} (h : validV it ag ((List.range n).map r) = true) : PpOk ag n r ∧ (1 ≤ it ∧ it ≤ 6) ∧ n ≤ 8 := by
  unfold validV inB at h
  simp only [Bool.and_eq_true, decide_eq_true_eq, List.length_map, List.length_range, Bool.not_eq_true', List.any_eq_false, List.mem_map, List.mem_range] at h
  obtain ⟨h1, h2, h3, h4⟩ := h
  refine ⟨⟨by omega, h2, fun i hi => ?_⟩, h1, h3⟩
  have := h4 (r i) ⟨i, hi, rfl⟩
  unfold badV inB at this
  simp at this
  omega
theorem errO_zero {v is : Bool} (h : errO v is = 0) : v = true ∧ is = true := by
  cases v <;> cases is <;> simp [errO] at h ⊢
/-! ### Bound -/
def boundE (it ag : Int) (ps : List Pp) (q y : Int) : Int := if errO (validV it ag ps) (isItemV it q && inB y 0 20) = 0 then (if (bnL ag ps q y).isSome = true then 0 else 4) else errO (validV it ag ps) (isItemV it q && inB y 0 20)
def boundR (it ag : Int) (ps : List Pp) (q y : Int) : Int := if errO (validV it ag ps) (isItemV it q && inB y 0 20) = 0 then wO (bnL ag ps q y) else 0
def c15 : Ct := fun fr args H => match args with
  | [.agg l, .si .i64 q, .si .i64 y] => passK H l fun i1 it ag n get => some ⟨some (Pps n get ∧ n ≤ 1000000), none, .tup [.si .i64 (boundR it ag (papL n get) q y), .si .i64 (boundE it ag (papL n get) q y)], []⟩
  | _ => none
theorem c15_mono : CtMono c15 := by
  intro fr args H H' out hH h
  unfold c15 at h ⊢
  split at h
  · exact passK_mono hH h
  · cases h
def C0 : Fam := fun _ _ _ => False
theorem k15 {l : List (Nat × Ct)} (g0 : Good P T l) : COk P 15 c15 := by
  have g := g47 (g44 (g45 (g43 good0)))
  refine cokD (C := tabC _) g.ok answer_ok Try.func15 (c := code Try.f15) rfl fun fr args H out h hp => ?_
  unfold c15 at h
  split at h
  case h_2 => cases h
  rename_i l q y
  obtain ⟨i1, it, ag, n, get, rfl, e1, h⟩ := passK_some h
  cases h
  obtain ⟨hs, hn⟩ : Pps n get ∧ n ≤ 1000000 := hp
  refine ⟨[(i1, .ro 5 n fun i => ppC (ppAt get i))], [.agg (paA 0 it ag), .si .i64 q, .si .i64 y], [(0, .ro 5 n fun i => ppC (ppAt get i))], 1, [], rfl, rfl, Nat.le_of_ble_eq_true rfl, pp_hand e1 hs, rfl, rfl, fun G hG => ?_⟩
  unfold boundR boundE
  rw [bnL_papL]
  unfold papL
  generalize ppAt get = L
  refine fb_defer (g.ok _ _ _) rfl cont_std rfl rfl rfl rfl ?_
  refine drawnA_ok (g.ok _ _ _) fol [0,0,0,6,14,30,62,126,255,0,0,2047,4095,8191,8191,16383,65535] [] 11 (by kernel_rfl) ?_
  obtain ⟨is, his⟩ : ∃ is : Bool, (isItemV it q && inB y 0 20) = is := ⟨_, rfl⟩
  rw [his]
  refine Chk.mk (pps_i _ _) (Chk.mk ⟨pps_i _ _, hn⟩ ?_)
  refine Br.mk (fun h => ?_) (fun h => ?_)
  · have h : (!decide (errO (validV it ag ((List.range n).map L)) (isItemV it q && inB y 0 20) = 0)) = true := h
    rw [his] at h
    have h : ¬ errO (validV it ag ((List.range n).map L)) is = 0 := by simpa using h
    rw [if_neg h, if_neg h]
    refine ⟨.inl rfl, end_noid ⟨⟨rfl, rfl⟩, ⟨rfl, ?_⟩, trivial⟩ rfl rfl (by repeat' (first | exact trivial | exact rfl | (intro i hi; exact ⟨rfl, rfl⟩) | refine And.intro ?_ ?_))⟩
    show errO (validV it ag ((List.range n).map L)) (isItemV it q && inB y 0 20) = _
    rw [his]
  have h : (!decide (errO (validV it ag ((List.range n).map L)) (isItemV it q && inB y 0 20) = 0)) = false := h
  rw [his] at h
  have h : errO (validV it ag ((List.range n).map L)) is = 0 := by simpa using h
  rw [if_pos h, if_pos h]
  obtain ⟨hr, _, _⟩ := valid_ok (errO_zero h).1
  refine any_step [11] (g.ok _ _ _) (by kernel_rfl) (by decide) ⟨?_, trivial⟩
  refine fb_fam0 1 (g.ok _ _ _) cont_any rfl ?_
  refine fb_call (g.ok _ _ _) cont_any rfl rfl rfl rfl ⟨b46, ?_⟩
  refine callS_at [.sp 1 0, .si .i64 q, .si .i64 y] (ofH it ag n L [] C0) 4 (fun j => match j with | 0 => 0 | 1 => 35 | 2 => 36 | _ => 47) (by repeat' (first | exact trivial | exact rfl | refine And.intro ?_ ?_)) rfl (by repeat' (first | exact trivial | exact rfl | exact List.Perm.refl _ | (intro i hi; exact ⟨rfl, rfl⟩) | (intro v m g h; exact h) | refine And.intro ?_ ?_)) rfl rfl ?_
  refine s46 hr KtOk.nil fun C2 es2 hC2 hK2 => ?_
  refine ⟨rfl, (by repeat' (first | exact trivial | exact rfl | refine And.intro ?_ ?_)), (by repeat' (first | exact trivial | exact rfl | (intro i hi; exact rfl) | refine And.intro ?_ ?_)), ?_⟩
  refine any_take 12 (g.ok _ _ _) rfl rfl rfl rfl rfl rfl rfl (by kernel_rfl) (by kernel_rfl) (by kernel_rfl) ?_
  refine any_take 13 (g.ok _ _ _) rfl rfl rfl rfl rfl rfl rfl (by kernel_rfl) (by kernel_rfl) (by kernel_rfl) ?_
  refine any_take 14 (g.ok _ _ _) rfl rfl rfl rfl rfl rfl rfl (by kernel_rfl) (by kernel_rfl) (by kernel_rfl) ?_
  refine any_take 15 (g.ok _ _ _) rfl rfl rfl rfl rfl rfl rfl (by kernel_rfl) (by kernel_rfl) (by kernel_rfl) ?_
  refine any_take 16 (g.ok _ _ _) rfl rfl rfl rfl rfl rfl rfl (by kernel_rfl) (by kernel_rfl) (by kernel_rfl) ?_
  refine any_done (by kernel_rfl) ?_
  refine Br.mk (fun h2 => ?_) (fun h2 => ?_)
  · have h2 : (!(bst ag n L q y).isSome) = true := h2
    cases hb : bst ag n L q y with
    | some c => rw [hb] at h2; cases h2
    | none =>
      refine ⟨.inl rfl, end_noid ⟨⟨rfl, rfl⟩, ⟨rfl, rfl⟩, trivial⟩ rfl rfl (by repeat' (first | exact trivial | exact rfl | (intro i hi; exact ⟨rfl, rfl⟩) | refine And.intro ?_ ?_))⟩
  · have h2 : (!(bst ag n L q y).isSome) = false := h2
    rw [if_pos (by simpa using h2)]
    refine ⟨.inl rfl, end_noid ⟨⟨rfl, rfl⟩, ⟨rfl, rfl⟩, trivial⟩ rfl rfl (by repeat' (first | exact trivial | exact rfl | (intro i hi; exact ⟨rfl, rfl⟩) | refine And.intro ?_ ?_))⟩
theorem g15 {l : List (Nat × Ct)} (g : Good P T l) : Good P T ((15, c15) :: l) := g.add (k15 g) c15_mono (body_of Try.func15 (c := code Try.f15) rfl (by decide))
end Go.X.Ps
end

section
set_option linter.unusedVariables false
set_option linter.unusedSimpArgs false
set_option linter.unusedSectionVars false
/- Pass: a list is copied. -/
set_option linter.unusedVariables false
set_option linter.unusedSimpArgs false
set_option maxRecDepth 10000
set_option maxHeartbeats 4000000
namespace Go.X.Ps
open Go Go.Proofs Go.X

def c53 : Ct := fun fr args H => match args with
  | [.sl i1] => (match sliceOf 1 H i1 with
    | some (n, get) => some ⟨some (Ints n get ∧ 0 < n ∧ n ≤ 1000), none, .sl fr, [(fr, .vec 3 1 n fun i => intC (intAt get i))]⟩
    | none => none)
  | _ => none
theorem c53_mono : CtMono c53 := by
  intro fr args H H' out hH h
  unfold c53 at h ⊢
  split at h
  · split at h
    · rename_i e
      simp only [sliceOf_mono hH e]
      exact h
    · cases h
  · cases h
theorem k53 {l : List (Nat × Ct)} (g0 : Good P T l) : COk P 53 c53 := by
  have g := good0
  refine cok (C := tabC _) g.ok Try.func53 (c := code Try.f53) rfl fun fr args H out h hp => ?_
  unfold c53 at h
  split at h
  case h_2 => cases h
  rename_i i1
  split at h
  case h_2 => cases h
  rename_i n get e1
  cases h
  obtain ⟨hs, h0, hn⟩ : Ints n get ∧ 0 < n ∧ n ≤ 1000 := hp
  refine ⟨[(i1, .ro 1 n fun i => intC (intAt get i))], [.sl 0], [(0, .ro 1 n fun i => intC (intAt get i))], 1, [2], rfl, rfl, Nat.le_of_ble_eq_true rfl, hand_one e1 (fun i => rfl) (fun i hi => (hs i hi).symm), rfl, rfl, fun G hG => ?_⟩
  generalize intAt get = L
  refine fb_eqNil 0 1 n (fun i => intC (L i)) (g.ok _ _ _) cont_std rfl rfl rfl rfl rfl rfl rfl rfl rfl ?_
  intro b hb
  obtain rfl := hb h0
  refine Br.mk (fun h => by cases h) (fun _ => ?_)
  refine fb_append0 1 0 n (fun i => intC (L i)) (g.ok _ _ _) cont_std rfl rfl rfl rfl rfl rfl rfl rfl rfl rfl rfl rfl (by decide) (by decide) rfl rfl rfl rfl (by decide) (by omega) ?_
  refine ⟨.inl rfl, ⟨rfl, rfl, ?_, ?_, rfl, rfl⟩⟩ <;> repeat' (first | exact trivial | exact rfl | (intro i hi; exact ⟨rfl, rfl⟩) | refine And.intro ?_ ?_)
theorem g53 {l : List (Nat × Ct)} (g : Good P T l) : Good P T ((53, c53) :: l) := g.add (k53 g) c53_mono (body_of Try.func53 (c := code Try.f53) rfl (by decide))
end Go.X.Ps
end

section
set_option linter.unusedVariables false
set_option linter.unusedSimpArgs false
set_option linter.unusedSectionVars false
/- Pass: Chain. -/
set_option linter.unusedVariables false
set_option linter.unusedSimpArgs false
set_option maxRecDepth 10000
set_option maxHeartbeats 4000000
namespace Go.X.Ps
open Go Go.Proofs Go.X

noncomputable def ops17 : Array Oper := regO 2 (code Try.f17)
def arr18 (l : List Bool) : Array Bool := ((List.range 20).map fun j => if j < 13 then true else l.getD (j - 13) false).toArray
def opi18 (i : Nat) : Nat := i + 13
def slo18 (v : Option Cv) : Nat → List (Nat × FE)
  | 0 => [(24, ⟨[], .tup [.agg (cvC (chD v)), .sb (isC v)]⟩)]
  | 1 => [(10, ⟨[], .tup [.agg (cvC (chD v)), .sb (isC v)]⟩)]
  | 2 => [(25, ⟨[], .agg (cvC (chD v))⟩)]
  | 3 => [(26, ⟨[], .sb (isC v)⟩)]
  | 4 => [(8, ⟨[], .sp 56 0⟩)]
  | 6 => [(9, ⟨[], .sb (isC v)⟩)]
  | _ => []
def base18 (v : Option Cv) : List (Nat × FE) := [(6, ⟨[], .sv (.slice none 0 0)⟩), (7, ⟨[], .sp 2 0⟩), (23, ⟨[], encT v⟩)]
def Hf18 (v : Option Cv) (H : List (Nat × HB)) (l : List Bool) : List (Nat × HB) := if l.getD 5 false = true then (56, .cells 74 (cvC (chD v))) :: (56, .cells 74 (cvC cv0)) :: H else if l.getD 4 false = true then (56, .cells 74 (cvC cv0)) :: H else H
def nx18 (l : List Bool) : Nat := if l.getD 4 false = true then 57 else 56
def D17 : List SDef := [(42, [.sp 2 0])]
theorem anc15_lt : ∀ i, ∀ j ∈ anc15 i, j < i := by
  intro i j hj
  unfold anc15 at hj
  split at hj <;> simp at hj <;> omega
theorem lat18 : (clL anc15 7).all (latX ops17 7 arr18 opi18 ex15 anc15) = true := by kernel_rfl
noncomputable abbrev X17 (G : Base) : Cx := ⟨P, T, tabC [(53, c53), (47, c47), (44, c44), (45, c45), (43, c43)], G, none, Try.f17.ntmps⟩
theorem x17_ok {G : Base} : (X17 G).Ok := (g53 (g47 (g44 (g45 (g43 good0))))).ok _ _ _
theorem tail18 {G : Base} {v : Option Cv} {Ht : List (Nat × HB)} {K : Ex → St → Prop}
    (hK : K .normal ⟨slF (slo18 v) (base18 v) [true, true, true, true, true, true, true], [], (56, .cells 74 (cvC (chD v))) :: (56, .cells 74 (cvC cv0)) :: Ht, 57, D17⟩) :
    AnyS (X17 G) ops17 7 (arr18 [false, false, false, false, false, false, false]) ⟨base18 v, [], Ht, 56, D17⟩ K ∧ AnyS (X17 G) ops17 6 (arr18 [false, false, false, false, true, false, false]) ⟨(8, ⟨[], .sp 56 0⟩) :: base18 v, [], (56, .cells 74 (cvC cv0)) :: Ht, 57, D17⟩ K := by
  have key := any_latD (D := D17) (X := X17 G) (ops := ops17) (K := K) x17_ok 7 arr18 opi18 ex15 (slo18 v) (base18 v) (Hf18 v Ht) nx18 anc15 0 (fun i hi j hj => by have := anc15_lt i j hj; omega) (latX_of anc15_lt lat18) ?_ ?_ ?_
  · exact ⟨key [false, false, false, false, false, false, false] rfl (by decide), key [false, false, false, false, true, false, false] rfl (by decide)⟩
  · cases v <;> repeat' (first | exact trivial | exact ⟨rfl, rfl⟩ | refine And.intro ?_ ?_)
  · intro j hj l hl hf ha hcl
    rcases (show j = 0 ∨ j = 1 ∨ j = 2 ∨ j = 3 ∨ j = 4 ∨ j = 5 ∨ j = 6 by omega) with rfl | rfl | rfl | rfl | rfl | rfl | rfl
    · refine ⟨_, rfl, rfl, fun tail Q Kn hC hK => ?_⟩
      simp only [Hf18, nx18, getN (l := l) (show 0 ≠ 4 by decide), getN (l := l) (show 0 ≠ 5 by decide)] at hK ⊢
      cases h4 : l.getD 4 false <;> cases h5 : l.getD 5 false <;> simp only [h4, h5, if_true, if_false, Bool.false_eq_true] at hK ⊢ <;> cases v <;> first | exact hK | exact fb_assertNo 121 (.agg []) (.agg (cvC cv0)) x17_ok hC rfl rfl rfl rfl rfl rfl (fun m h => by cases h) rfl rfl rfl hK
    · refine ⟨_, rfl, rfl, fun tail Q Kn hC hK => ?_⟩
      simp only [Hf18, nx18, getN (l := l) (show 1 ≠ 4 by decide), getN (l := l) (show 1 ≠ 5 by decide)] at hK ⊢
      cases h4 : l.getD 4 false <;> cases h5 : l.getD 5 false <;> simp only [h4, h5, if_true, if_false, Bool.false_eq_true] at hK ⊢ <;> cases v <;> exact hK
    · refine ⟨_, rfl, rfl, fun tail Q Kn hC hK => ?_⟩
      simp only [Hf18, nx18, getN (l := l) (show 2 ≠ 4 by decide), getN (l := l) (show 2 ≠ 5 by decide)] at hK ⊢
      cases h4 : l.getD 4 false <;> cases h5 : l.getD 5 false <;> simp only [h4, h5, if_true, if_false, Bool.false_eq_true] at hK ⊢ <;> cases v <;> exact hK
    · refine ⟨_, rfl, rfl, fun tail Q Kn hC hK => ?_⟩
      simp only [Hf18, nx18, getN (l := l) (show 3 ≠ 4 by decide), getN (l := l) (show 3 ≠ 5 by decide)] at hK ⊢
      cases h4 : l.getD 4 false <;> cases h5 : l.getD 5 false <;> simp only [h4, h5, if_true, if_false, Bool.false_eq_true] at hK ⊢ <;> cases v <;> exact hK
    · refine ⟨_, rfl, rfl, fun tail Q Kn hC hK => ?_⟩
      have h4 := getF (show 4 < l.length by omega) hf
      have h5 : l.getD 5 false = false := by
        cases h5 : l.getD 5 false with
        | false => rfl
        | true =>
          have h := List.all_eq_true.1 hcl 5 (List.mem_range.2 (by omega))
          rw [h5] at h
          have h : (l.getD 0 false && (l.getD 1 false && (l.getD 2 false && (l.getD 4 false && true)))) = true := h
          rw [h4] at h
          simp at h
      simp only [Hf18, nx18, getN (l := l) (show 4 ≠ 5 by decide), getS (l := l) (i := 4) (by omega), h4, h5, if_true, if_false, Bool.false_eq_true] at hK ⊢
      exact hK
    · refine ⟨_, rfl, rfl, fun tail Q Kn hC hK => ?_⟩
      have h5 := getF (show 5 < l.length by omega) hf
      have h4 : l.getD 4 false = true := ha 4 (by decide)
      simp only [Hf18, nx18, getN (l := l) (show 5 ≠ 4 by decide), getS (l := l) (i := 5) (by omega), h4, h5, if_true, if_false, Bool.false_eq_true] at hK ⊢
      exact hK
    · refine ⟨_, rfl, rfl, fun tail Q Kn hC hK => ?_⟩
      simp only [Hf18, nx18, getN (l := l) (show 6 ≠ 4 by decide), getN (l := l) (show 6 ≠ 5 by decide)] at hK ⊢
      cases h4 : l.getD 4 false <;> cases h5 : l.getD 5 false <;> simp only [h4, h5, if_true, if_false, Bool.false_eq_true] at hK ⊢ <;> cases v <;> exact hK
  · intro l hl he
    match l, hl, he with
    | [a, b, c, d, e, f, g], _, he =>
      have he : (a && (b && (c && (d && (e && (f && (g && true))))))) = true := he
      simp only [Bool.and_eq_true] at he
      obtain ⟨rfl, rfl, rfl, rfl, rfl, rfl, rfl, -⟩ := he
      exact any_done (by kernel_rfl) hK
def base17 (q y : Int) : List (Nat × FE) := [(6, ⟨[], .sv (.slice none 0 0)⟩), (7, ⟨[], .sp 2 0⟩), (19, ⟨[], .sp 35 0⟩), (22, ⟨[], .agg [.si .i64 q, .si .i64 y]⟩)]
def H17 (it ag : Int) (n : Nat) (r : Nat → Pp) : List (Nat × HB) := [(0, .ro 5 n fun i => ppC (r i)), (35, .cells 108 (ofC 0 36 it ag)), (36, .mp []), (2, .cells 27 [.si .i64 0])]
def Ht17 (n : Nat) (r : Nat → Pp) (C : Fam) : List (Nat × HB) := [(0, .ro 5 n fun i => ppC (r i)), (2, .cells 27 [.si .i64 0]), (55, .fam 1 C)]
theorem reg17 {G : Base} (hG : ∀ j, 1 ≤ j → G.ρ j = none) {it ag : Int} {n : Nat} {r : Nat → Pp} {q y : Int} {K : Ex → St → Prop} (hr : PpOk ag n r)
    (hk : ∀ (C2 : Fam) (v : Option Cv), v.map Cv.ch = bst ag n r q y → (∀ c, v = some c → tells C2 c) → K .normal ⟨slF (slo18 v) (base18 v) [true, true, true, true, true, true, true], [], (56, .cells 74 (cvC (chD v))) :: (56, .cells 74 (cvC cv0)) :: Ht17 n r C2, 57, D17⟩) :
    AnyS (X17 G) ops17 8 (firstE 12 17 20 false) ⟨base17 q y, [], H17 it ag n r, 55, D17⟩ K ∧ AnyS (X17 G) ops17 7 (firstE 12 17 20 true) ⟨(8, ⟨[], .sp 51 0⟩) :: base17 q y, [], (51, .cells 74 (cvC cv0)) :: H17 it ag n r, 55, D17⟩ K := by
  refine and_of ?_ fun h2 => ?_
  · refine any_step [12] x17_ok (by kernel_rfl) (by decide) ⟨?_, trivial⟩
    refine fb_fam0 1 x17_ok cont_any rfl ?_
    refine fb_call x17_ok cont_any rfl rfl rfl rfl ⟨b52, ?_⟩
    refine callS_at [.sp 1 0, .agg [.si .i64 q, .si .i64 y]] (ofH it ag n r [] C0) 4 (fun j => match j with | 0 => 0 | 1 => 35 | 2 => 36 | _ => 55) (by repeat' (first | exact trivial | exact rfl | refine And.intro ?_ ?_)) rfl (by repeat' (first | exact trivial | exact rfl | exact List.Perm.refl _ | (intro i hi; exact ⟨rfl, rfl⟩) | (intro v m g h; exact h) | refine And.intro ?_ ?_)) rfl rfl ?_
    refine s52 hr KtOk.nil fun C2 es2 v hC2 hK2 hv hvt => ?_
    refine ⟨rfl, (by repeat' (first | exact trivial | exact rfl | refine And.intro ?_ ?_)), (by repeat' (first | exact trivial | exact rfl | (intro i hi; exact rfl) | refine And.intro ?_ ?_)), ?_⟩
    have hW := (tail18 (G := G) (hk C2 v hv hvt)).2
    cases v with
    | none =>
      refine any_weaken 1 (fun j => match j with | 56 => 51 | j => j) hG ?_ hW
      refine ⟨?_, ?_, rfl, rfl, rfl, rfl, ⟨rfl, ⟨⟨rfl, rfl⟩, trivial⟩, rfl, trivial⟩⟩
      · repeat' (first | exact trivial | exact rfl | refine And.intro ?_ ?_)
      · repeat' (first | exact trivial | exact rfl | exact List.Perm.refl _ | (intro i hi; exact ⟨rfl, rfl⟩) | (intro v m g h; exact h) | refine And.intro ?_ ?_)
    | some c =>
      refine any_weaken 1 (fun j => match j with | 56 => 51 | j => j) hG ?_ hW
      refine ⟨?_, ?_, rfl, rfl, rfl, rfl, ⟨rfl, ⟨⟨rfl, rfl⟩, trivial⟩, rfl, trivial⟩⟩
      · repeat' (first | exact trivial | exact rfl | refine And.intro ?_ ?_)
      · repeat' (first | exact trivial | exact rfl | exact List.Perm.refl _ | (intro i hi; exact ⟨rfl, rfl⟩) | (intro v m g h; exact h) | refine And.intro ?_ ?_)
  · refine any_step [12, 17] x17_ok (by kernel_rfl) (by decide) ⟨?_, ?_, trivial⟩
    · refine fb_fam0 1 x17_ok cont_any rfl ?_
      refine fb_call x17_ok cont_any rfl rfl rfl rfl ⟨b52, ?_⟩
      refine callS_at [.sp 1 0, .agg [.si .i64 q, .si .i64 y]] (ofH it ag n r [] C0) 4 (fun j => match j with | 0 => 0 | 1 => 35 | 2 => 36 | _ => 55) (by repeat' (first | exact trivial | exact rfl | refine And.intro ?_ ?_)) rfl (by repeat' (first | exact trivial | exact rfl | exact List.Perm.refl _ | (intro i hi; exact ⟨rfl, rfl⟩) | (intro v m g h; exact h) | refine And.intro ?_ ?_)) rfl rfl ?_
      refine s52 hr KtOk.nil fun C2 es2 v hC2 hK2 hv hvt => ?_
      refine ⟨rfl, (by repeat' (first | exact trivial | exact rfl | refine And.intro ?_ ?_)), (by repeat' (first | exact trivial | exact rfl | (intro i hi; exact rfl) | refine And.intro ?_ ?_)), ?_⟩
      have hW := (tail18 (G := G) (hk C2 v hv hvt)).1
      cases v with
      | none =>
        refine any_weaken 1 (fun j => j) hG ?_ hW
        refine ⟨?_, ?_, rfl, rfl, rfl, rfl, ⟨rfl, ⟨⟨rfl, rfl⟩, trivial⟩, rfl, trivial⟩⟩
        · repeat' (first | exact trivial | exact rfl | refine And.intro ?_ ?_)
        · repeat' (first | exact trivial | exact rfl | exact List.Perm.refl _ | (intro i hi; exact ⟨rfl, rfl⟩) | (intro v m g h; exact h) | refine And.intro ?_ ?_)
      | some c =>
        refine any_weaken 1 (fun j => j) hG ?_ hW
        refine ⟨?_, ?_, rfl, rfl, rfl, rfl, ⟨rfl, ⟨⟨rfl, rfl⟩, trivial⟩, rfl, trivial⟩⟩
        · repeat' (first | exact trivial | exact rfl | refine And.intro ?_ ?_)
        · repeat' (first | exact trivial | exact rfl | exact List.Perm.refl _ | (intro i hi; exact ⟨rfl, rfl⟩) | (intro v m g h; exact h) | refine And.intro ?_ ?_)
    · refine any_weaken 1 (fun j => match j with | 51 => 55 | j => j) hG ?_ h2
      refine ⟨?_, ?_, rfl, rfl, rfl, rfl, ⟨rfl, ⟨⟨rfl, rfl⟩, trivial⟩, rfl, trivial⟩⟩
      · repeat' (first | exact trivial | exact rfl | refine And.intro ?_ ?_)
      · repeat' (first | exact trivial | exact rfl | exact List.Perm.refl _ | (intro i hi; exact ⟨rfl, rfl⟩) | (intro v m g h; exact h) | refine And.intro ?_ ?_)
end Go.X.Ps
end
