/- The walk of PassLooks. -/
import Derived.Test.YtknjpbmkpjcgjaaOZ

section
set_option linter.unusedVariables false
set_option linter.unusedSimpArgs false
set_option linter.unusedSectionVars false
/- Pass: PassLooks answers true (first printed by gen-en5.py). -/
set_option linter.unusedVariables false
set_option linter.unusedSimpArgs false
set_option maxRecDepth 10000
set_option maxHeartbeats 4000000
namespace Go.X.Ps
open Go Go.Proofs Go.X
def c4 : Ct := fun fr args H => match args with
  | [.agg l, .si .i64 q, .si .i64 y, .si .i64 lim, .si .i64 S, .si .i64 k] => passK H l fun i1 it ag n get => some ⟨some (Pps n get), none, .sb true, []⟩
  | _ => none
theorem k4 {l : List (Nat × Ct)} (g0 : Good P T l) : COk P 4 c4 := by
  have g := g13 (g14 (g22 (g23 (g24 (gd25 (g26 (g27 good0)))))))
  refine cok (C := tabC _) g.ok Try.func4 (c := code Try.f4) rfl fun fr args H out h hp => ?_
  unfold c4 at h
  split at h
  case h_2 => cases h
  rename_i l q y lim S k
  obtain ⟨i1, it, ag, n, get, rfl, e1, h⟩ := passK_some h
  cases h
  have hs : Pps n get := hp
  refine ⟨[(i1, .ro 5 n fun i => ppC (ppAt get i))], [.agg (paA 0 it ag), .si .i64 q, .si .i64 y, .si .i64 lim, .si .i64 S, .si .i64 k], [(0, .ro 5 n fun i => ppC (ppAt get i))], 1, [], rfl, rfl, Nat.le_of_ble_eq_true rfl, pp_hand e1 hs, rfl, rfl, fun G hG => ?_⟩
  generalize ppAt get = L
  refine Chk.mk (pps_i _ _) ?_
  refine Br.mk (fun h => ?_) (fun h => ?_)
  · exact ⟨.inl rfl, end_noid rfl rfl rfl (by repeat' (first | exact trivial | exact rfl | (intro i hi; exact ⟨rfl, rfl⟩) | refine And.intro ?_ ?_))⟩
  have h : decide ((40 : Int) < (n : Int)) = false := h
  have hn : n ≤ 1000000 := by simp at h; omega
  refine Chk.mk ⟨pps_i _ _, hn⟩ (Chk.mk ⟨pps_i _ _, hn⟩ (Chk.mk ⟨pps_i _ _, hn⟩ (Chk.mk ⟨pps_i _ _, hn⟩ (Chk.mk ⟨pps_i _ _, hn⟩ (Chk.mk ⟨pps_i _ _, hn⟩ ?_)))))
  exact ⟨.inl rfl, end_noid (show SVeq _ _ from by simp only [decide_true, Bool.and_true]; rfl) rfl rfl (by repeat' (first | exact trivial | exact rfl | (intro i hi; exact ⟨rfl, rfl⟩) | refine And.intro ?_ ?_))⟩
end Go.X.Ps
end
