/- Bound, Until, Known of the document. -/
import Derived.Test.YtknjpbmkpjcgjaaOW
import Derived.Test.YtknjpbmkpjcgjaaOS

section
set_option linter.unusedVariables false
set_option linter.unusedSimpArgs false
set_option linter.unusedSectionVars false
/- Pass: what the document says of bounds (printed by gen-en.py). -/
set_option linter.unusedVariables false
set_option linter.unusedSimpArgs false
set_option maxRecDepth 10000
set_option maxHeartbeats 4000000
namespace Go.X.Ps
open Go Go.Proofs Go.X
theorem errO_ok {v is : Bool} (h : errO v is = 0) : v = true ∧ is = true := by
  unfold errO at h
  cases v
  · simp at h
  · cases is
    · simp at h
    · exact ⟨rfl, rfl⟩
theorem inB_ok {z lo hi : Int} (h : inB z lo hi = true) : lo ≤ z ∧ z ≤ hi := by
  unfold inB at h
  simpa using h
theorem ppb_L {ag : Int} {n : Nat} {L : Nat → Pp} (hr : PpOk ag n L) : PpB ag n L := fun j hj => ⟨(hr.2.2 j hj).1.1, (hr.2.2 j hj).2.2.1⟩
theorem bst_pos {ag : Int} {n : Nat} {L : Nat → Pp} {q y : Int} {c : Ch} (hr : PpOk ag n L) (h : some c = bst ag n L q y) : 0 ≤ c.w := walkC_w (ppb_L hr) (bst_some h.symm)

def c58 : Ct := fun fr args H => match args with
  | [.agg l, .si .i64 q, .si .i64 y, .si .i64 lim] => passK H l fun i1 it ag n get => some ⟨some (Pps n get ∧ PpOk ag n (ppAt get) ∧ (∀ j, j < n → -1 ≤ (ppAt get j).by_) ∧ Few ag n (ppAt get) ∧ 0 ≤ q ∧ 0 ≤ y ∧ y ≤ 20), none, .sb (holdO lim (bst ag n (ppAt get) q y)), []⟩
  | _ => none
theorem c58_mono : CtMono c58 := by
  intro fr args H H' out hH h
  unfold c58 at h ⊢
  split at h
  · exact passK_mono hH h
  · cases h
theorem k58 {l : List (Nat × Ct)} (g0 : Good P T l) : COk P 58 c58 := by
  have g := g65 good0
  refine cok (C := tabC _) g.ok Try.func58 (c := code Try.f58) rfl fun fr args H out h hp => ?_
  unfold c58 at h
  split at h
  case h_2 => cases h
  rename_i l q y lim
  obtain ⟨i1, it, ag, n, get, rfl, e1, h⟩ := passK_some h
  cases h
  obtain ⟨hs, hr, hby, hn9, hq, hy⟩ : Pps n get ∧ PpOk ag n (ppAt get) ∧ (∀ j, j < n → -1 ≤ (ppAt get j).by_) ∧ Few ag n (ppAt get) ∧ 0 ≤ q ∧ 0 ≤ y ∧ y ≤ 20 := hp
  refine ⟨[(i1, .ro 5 n fun i => ppC (ppAt get i))], [.agg (paA 0 it ag), .si .i64 q, .si .i64 y, .si .i64 lim], [(0, .ro 5 n fun i => ppC (ppAt get i))], 1, [], rfl, rfl, Nat.le_of_ble_eq_true rfl, pp_hand e1 hs, rfl, rfl, fun G hG => ?_⟩
  generalize ppAt get = L at hr hby hn9 ⊢
  refine fb_call (g.ok _ _ _) cont_std rfl rfl rfl rfl ⟨b51, ?_⟩
  refine callS_at [.agg (paA 0 it ag), .si .i64 q, .si .i64 y] [(0, .ro 5 n fun i => ppC (L i))] 1 (fun j => j) (by repeat' (first | exact trivial | exact rfl | refine And.intro ?_ ?_)) rfl (by repeat' (first | exact trivial | exact rfl | (intro i hi; exact ⟨rfl, rfl⟩) | refine And.intro ?_ ?_)) rfl rfl ?_
  refine s51 hr hby hn9 hq hy (fun o LB e ho hLe => ?_)
  cases o with
  | none =>
    refine ⟨rfl, (by repeat' (first | exact trivial | exact rfl | refine And.intro ?_ ?_)), (by repeat' (first | exact trivial | exact rfl | (intro i hi; exact rfl) | refine And.intro ?_ ?_)), ?_⟩
    rw [← ho]
    exact ⟨.inl rfl, end_noid rfl rfl rfl (by repeat' (first | exact trivial | exact rfl | (intro i hi; exact ⟨rfl, rfl⟩) | refine And.intro ?_ ?_))⟩
  | some c =>
    refine ⟨rfl, (by repeat' (first | exact trivial | exact rfl | refine And.intro ?_ ?_)), (by repeat' (first | exact trivial | exact rfl | (intro i hi; exact rfl) | refine And.intro ?_ ?_)), ?_⟩
    have hw := bst_pos hr ho
    rw [← ho]
    refine ⟨.inl rfl, end_noid ?_ rfl rfl (by repeat' (first | exact trivial | exact rfl | (intro i hi; exact ⟨rfl, rfl⟩) | refine And.intro ?_ ?_))⟩
    show inB c.w 0 lim = holdO lim (some c)
    unfold inB holdO
    simp [hw]
    rfl
theorem g58 {l : List (Nat × Ct)} (g : Good P T l) : Good P T ((58, c58) :: l) := g.add (k58 g) c58_mono (body_of Try.func58 (c := code Try.f58) rfl (by decide))
end Go.X.Ps
end

section
set_option linter.unusedVariables false
set_option linter.unusedSimpArgs false
set_option linter.unusedSectionVars false
/- Pass: Until and Known of the document (printed by gen-en.py). -/
set_option linter.unusedVariables false
set_option linter.unusedSimpArgs false
set_option maxRecDepth 10000
set_option maxHeartbeats 4000000
namespace Go.X.Ps
open Go Go.Proofs Go.X

end Go.X.Ps
end
