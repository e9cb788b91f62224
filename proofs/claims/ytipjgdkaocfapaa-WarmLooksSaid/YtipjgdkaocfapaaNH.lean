/- The walk of WarmLooks, and how its arguments are opened. -/
import Derived.Test.YtipjgdkaocfapaaNE
import Derived.Test.YtipjgdkaocfapaaNF

section
set_option linter.unusedVariables false
set_option linter.unusedSimpArgs false
set_option linter.unusedSectionVars false
/- Warm: WarmLooks answers true. -/
set_option linter.unusedVariables false
set_option linter.unusedSimpArgs false
set_option maxRecDepth 10000
set_option maxHeartbeats 4000000
namespace Go.X.W
open Go Go.Proofs Go.X

def c23s : Ct := fun fr args H =>
  match args with
  | [.agg [.si .i64 mk, .si .i64 l1, .si .i64 l2, .si .i64 c1, .si .i64 c2, .sl id], .sl oid] => (match sliceOf 4 H id, sliceOf 1 H oid with
    | some (n, get), some (m, og) => some ⟨some (Rds n get ∧ Ints m og), none, .sb (decide ((40 : Int) < max (n : Int) (m : Int))), []⟩
    | _, _ => none)
  | _ => none
theorem c23s_mono : CtMono c23s := by
  intro fr args H H' out hH h
  unfold c23s at h ⊢
  split at h
  · split at h
    · rename_i e e'
      simp only [sliceOf_mono hH e, sliceOf_mono hH e']
      exact h
    · cases h
  · cases h
theorem k23s {l : List (Nat × Ct)} (g : Good P T l) : COk P 23 c23s := by
  refine cok (C := tabC _) g.ok Try.func23 (c := code Try.f23) rfl fun fr args H out h hp => ?_
  unfold c23s at h
  split at h
  · rename_i mk l1 l2 c1 c2 id oid
    split at h
    · rename_i n get m og e e2
      cases h
      obtain ⟨hs, hs2⟩ : Rds n get ∧ Ints m og := hp
      have hh : Hand H [(id, .ro 4 n fun i => rdC (rdAt get i)), (oid, .ro 1 m fun i => [.si .i64 (intAt og i)])] := hand_mk ⟨sliceOf_piece e fun i hi => by rw [hs i hi]; rfl, sliceOf_piece e2 fun i hj => by rw [hs2 i hj]; rfl, trivial⟩
        (by repeat' (first | exact trivial | (intro i hi; exact ⟨trivial, trivial, trivial, trivial, trivial⟩) | (intro i hi; exact ⟨trivial, trivial⟩) | refine And.intro ?_ ?_ | exact (by decide : (1 : Nat) < 4) | exact (by decide : (2 : Nat) < 4))) rfl
      refine ⟨_, [wA mk l1 l2 c1 c2 0, .sl 1], [(0, .ro 4 n fun i => rdC (rdAt get i)), (1, .ro 1 m fun i => [.si .i64 (intAt og i)])], 2, [], rfl, rfl, Nat.le_of_ble_eq_true rfl, hh, rfl, rfl, fun G hG => ?_⟩
      exact ⟨.inl rfl, end_noid rfl rfl rfl ⟨trivial, trivial, trivial⟩⟩
    · cases h
  · cases h
theorem g23s {l : List (Nat × Ct)} (g : Good P T l) : Good P T ((23, c23s) :: l) := g.add (k23s g) c23s_mono (body_of Try.func23 (c := code Try.f23) rfl (by decide))

def c5 : Ct := fun fr args H =>
  match args with
  | [.agg [.si .i64 mk, .si .i64 l1, .si .i64 l2, .si .i64 c1, .si .i64 c2, .sl id], .si .i64 off, .sl oid] => (match sliceOf 4 H id, sliceOf 1 H oid with
    | some (n, get), some (m, og) => some ⟨some (Rds n get ∧ Ints m og), none, .sb true, []⟩
    | _, _ => none)
  | _ => none
theorem k5 {l : List (Nat × Ct)} (g0 : Good P T l) : COk P 5 c5 := by
  have g := g23s (g24 (g22 (g32 (g33 (g34 (g35 (g36 good0)))))))
  refine cok (C := tabC _) g.ok Try.func5 (c := code Try.f5) rfl fun fr args H out h hp => ?_
  unfold c5 at h
  split at h
  · rename_i mk l1 l2 c1 c2 id off oid
    split at h
    · rename_i n get m og e e2
      cases h
      obtain ⟨hs, hs2⟩ : Rds n get ∧ Ints m og := hp
      have hh : Hand H [(id, .ro 4 n fun i => rdC (rdAt get i)), (oid, .ro 1 m fun i => [.si .i64 (intAt og i)])] := hand_mk ⟨sliceOf_piece e fun i hi => by rw [hs i hi]; rfl, sliceOf_piece e2 fun i hj => by rw [hs2 i hj]; rfl, trivial⟩
        (by repeat' (first | exact trivial | (intro i hi; exact ⟨trivial, trivial, trivial, trivial, trivial⟩) | (intro i hi; exact ⟨trivial, trivial⟩) | refine And.intro ?_ ?_ | exact (by decide : (1 : Nat) < 4) | exact (by decide : (2 : Nat) < 4))) rfl
      refine ⟨_, [wA mk l1 l2 c1 c2 0, .si .i64 off, .sl 1], [(0, .ro 4 n fun i => rdC (rdAt get i)), (1, .ro 1 m fun i => [.si .i64 (intAt og i)])], 2, [], rfl, rfl, Nat.le_of_ble_eq_true rfl, hh, rfl, rfl, fun G hG => ?_⟩
      generalize rdAt get = rd
      generalize intAt og = ov
      refine Chk.mk ⟨rds_rd _ _, ints_i _ _⟩ ?_
      refine Br.mk (fun h => ?_) (fun h => ?_)
      · exact ⟨.inl rfl, end_noid rfl rfl rfl ⟨trivial, trivial, trivial⟩⟩
      have h : ¬ (40 : Int) < max (n : Int) (m : Int) := of_decide_eq_false h
      have hm : m ≤ 40 := by omega
      refine Chk.mk ⟨rds_rd _ _, rfl, trivial⟩ ?_
      refine Chk.mk ⟨rds_rd _ _, rfl, trivial⟩ ?_
      refine Chk.mk ⟨rds_rd _ _, rfl, trivial⟩ ?_
      refine Chk.mk ⟨rds_rd _ _, rfl, trivial⟩ ?_
      refine Chk.mk ⟨rds_rd _ _, ints_i _ _, hm⟩ ?_
      refine Chk.mk ⟨rds_rd _ _, ints_i _ _, hm⟩ ?_
      refine ⟨.inl rfl, end_noid ?_ rfl rfl ⟨trivial, trivial, trivial⟩⟩
      show (_ : Bool) = true
      simp
    · cases h
  · cases h
end Go.X.W
end

section
set_option linter.unusedVariables false
set_option linter.unusedSimpArgs false
set_option linter.unusedSectionVars false
/- Warm: arguments opened: a block, a number and offers. -/
set_option linter.unusedVariables false
set_option linter.unusedSimpArgs false
set_option linter.unusedSectionVars false
set_option maxRecDepth 100000
set_option maxHeartbeats 1600000
namespace Go.X.W
open Go Go.Proofs Go.X Go.ChangeShapes Go.WideShapes Go.ChangeAt Go.RowKit Go.Joins

theorem und33 : Try.prog.underlying 33 = some (.slice 3) := by kernel_rfl
section
variable {H : Type} {enc : TypeId × Value → H} {W : World} {base : Nat}
theorem open_ints {v : Value} {d : DataW H} {p : List MemPlace} (h : DataW.Trod enc Try.prog W 0 (fun _ => true) true 33 v d p) (hv : ∃ a n c, v = .slice a n c) :
    ∃ (a : Option Addr) (n cap : Nat) (g : Nat → Int), v = .slice a n cap ∧ n ≤ maxLen ∧ ∀ ρ : Env, HBok ρ W (.ro 1 n fun i => [.si .i64 (g i)]) (.sl a n cap 1) := by
  obtain ⟨a0, n0, c0, rfl⟩ := hv
  obtain ⟨fuel, hf⟩ := h
  obtain ⟨a, n, cap, N, e1, hm, hN, _, hk⟩ := open_ro und33 lay3 cells3 (by decide) hf
  have e1 : [Value.slice a0 n0 c0] = [.slice a n cap] := e1
  cases e1
  refine ⟨_, _, _, fun i => (N i).getD 0 0, rfl, hm, fun ρ => ?_⟩
  have e : (fun i => intS [.i64] (N i)) = fun i => [.si .i64 ((N i).getD 0 0)] := by
    funext i
    have := hN i
    match hn : N i, this with
    | [x], _ => rfl
  have := hk ρ
  rw [e] at this
  exact this
/-- A block, a number and offers. -/
theorem opened_wo {a : Option Addr} {n cap : Nat} {rd : Nat → Rd} {mk l1 l2 c1 c2 : Int} (hb : ∀ ρ : Env, HBok ρ W (.ro 4 n fun i => rdC (rd i)) (.sl a n cap 4)) {off : Int}
    {a' : Option Addr} {m cap' : Nat} {g : Nat → Int} (hb' : ∀ ρ : Env, HBok ρ W (.ro 1 m fun i => [.si .i64 (g i)]) (.sl a' m cap' 1)) :
    Opened Try.prog 5 W [.agg #[.int .i64 mk, .int .i64 l1, .int .i64 l2, .int .i64 c1, .int .i64 c2, .slice a n cap], .int .i64 off, .slice a' m cap'] := by
  refine ⟨(fun j => if j = 0 then some (Nm.sl a n cap 4) else if j = 1 then some (Nm.sl a' m cap' 1) else none : Env), findH [(0, .ro 4 n fun i => rdC (rd i)), (1, .ro 1 m fun i => [.si .i64 (g i)])], [wA mk l1 l2 c1 c2 0, .si .i64 off, .sl 1], 2, c5, some (Rds n (fun i => rdC (rd i)) ∧ Ints m (fun i => [SV.si .i64 (g i)])), k5 good0, ?_, ?_, ?_, ?_, ?_⟩
  · intro id hb2 hf
    by_cases h0 : id = 0
    · subst h0
      have hf : some (HB.ro 4 n fun i => rdC (rd i)) = some hb2 := hf
      cases hf
      exact ⟨_, rfl, hb _, rfl⟩
    · by_cases h1 : id = 1
      · subst h1
        have hf : some (HB.ro 1 m fun i => [SV.si .i64 (g i)]) = some hb2 := hf
        cases hf
        exact ⟨_, rfl, hb' _, rfl⟩
      · have : findH [(0, HB.ro 4 n fun i => rdC (rd i)), (1, HB.ro 1 m fun i => [SV.si .i64 (g i)])] id = none := by simp [findH, Ne.symm h0, Ne.symm h1]
        rw [this] at hf; cases hf
  · intro j hj
    show (if j = 0 then _ else if j = 1 then _ else none) = none
    rw [if_neg (by omega), if_neg (by omega)]
  · simp [wA, den, denL, Value.oneCell']
  · rfl
  · exact ⟨rds_rd _ _, ints_i _ _⟩
end
end Go.X.W
end
