/- Wear: follow: back; TopWorn: the row. -/
import Derived.Test.YtfhkkhgbjbnenaaDoorTPE
import Derived.Test.YtfhkkhgbjbnenaaDoorTPD
import Derived.Test.YtfhkkhgbjbnenaaDoorTPC
import Derived.Test.YtfhkkhgbjbnenaaDoorRows
import Derived.ProofKit
import Derived.LaidMore
import Derived.Stop.Joined

section
set_option linter.unusedVariables false
set_option linter.unusedSimpArgs false
set_option linter.unusedSectionVars false
/- Wear: follow: back. -/
set_option linter.unusedVariables false
set_option linter.unusedSimpArgs false
set_option maxRecDepth 10000
set_option maxHeartbeats 4000000
namespace Go.X.Wr
open Go Go.Proofs Go.X
open Go.X.W (regO getS getF exM_all' clB_at)

def P3 (w : Wd) (i : Nat) : List (Nat × FE) := [(0, ⟨[], .fy 14⟩), (1, ⟨[], .sp 8 0⟩), (2, ⟨[], .sp 10 0⟩), (3, ⟨[], .sp 9 0⟩), (10, ⟨[], .sl 1⟩), (11, ⟨[], .si .i64 (w.n : Int)⟩), (12, ⟨[], .si .i64 (i : Int)⟩)]
section
variable {G : Base} {w : Wd} {q : Qn} {es : List (Qn × (Nat → Sp))} {K : Ex → St → Prop}
theorem bwd (hG : ∀ j, 4 ≤ j → G.ρ j = none) (hw : wdOk w = true) (hq : kc 0 (q.lo, q.hi)) (hr : q.reads < 256)
    (hK : ∀ fn, K .normal ⟨(48, ⟨[], fnE⟩) :: F3, [], (14, .dead) :: L3 .ready fn w q es (arB w q w.n), 15, [(MARK, [.sp 13 0]), (MARK, [.sp 11 0])]⟩) :
    SemC (X42 G) cB ⟨(48, ⟨[], fnE⟩) :: F3, [], E3 q ++ A2 w q es (arB w q 0), 13, [(MARK, [.sp 11 0])]⟩ K := by
  obtain ⟨_, hu, hn, hev⟩ := wdOk_b hw
  refine rangeFunc_ok (ok42 G) rfl rfl rfl b64 ?_
  intro fn
  refine callS_exec good0.ok Tryd.func64 (c := code Tryd.f64) rfl (Nat.le_of_ble_eq_true rfl) fun G2 hG2 => ?_
  have hkk : True := trivial
  refine loop_okR (good0.ok _ _ _) 15 (fun x : {i : Nat // i ≤ w.n} => ⟨P3 w x.1, [], L3 .ready fn w q es (arB w q x.1), 15, []⟩) (fun x => w.n - x.1) hG2 ⟨0, Nat.zero_le _⟩ (fun j => j) ?_ ?_
  · refine ⟨?_, ?_, rfl, rfl, rfl, rfl, trivial⟩ <;> repeat' (first | exact trivial | exact rfl | exact hkk | exact List.Perm.refl _ | (intro i hi; exact ⟨rfl, rfl⟩) | (intro v m g h; exact h) | refine findV_sub (List.forall_mem_cons.2 ⟨⟨rfl, rfl⟩, List.forall_mem_cons.2 ⟨⟨rfl, rfl⟩, List.forall_mem_cons.2 ⟨⟨rfl, rfl⟩, List.forall_mem_cons.2 ⟨⟨rfl, rfl⟩, List.forall_mem_cons.2 ⟨⟨rfl, rfl⟩, fun p hp => by cases hp⟩⟩⟩⟩⟩) (fun t v h => findV_mem h) | refine And.intro ?_ ?_)
  clear hkk
  rintro ⟨i, hi⟩
  have hi : i ≤ w.n := hi
  refine Br.mk (fun h => ?_) (fun h => ?_)
  · have h : (i : Int) < (w.n : Int) := of_decide_eq_true h
    refine Br.mk (fun _ => ?_) (fun h => by cases h)
    refine Chk.mk (show InK .i64 ((w.n : Int) - 1) from ⟨by omega, by omega⟩) (Chk.mk (show InK .i64 ((w.n : Int) - 1 - (i : Int)) from ⟨by omega, by omega⟩) ?_)
    obtain ⟨k, hk⟩ : ∃ k, w.n - 1 - i = k := ⟨_, rfl⟩
    have hkk : (w.n : Int) - 1 - (i : Int) = (k : Int) := by omega
    refine fb_call (good0.ok _ _ _) cont_std rfl rfl rfl rfl ⟨b65, ?_⟩
    refine callS_at [.sp 3 0, .si .i64 (k : Int), .si .u64 (q.reads : Int)] (bkS w (enM es)) 4 (fun j => j) (by repeat' (first | exact trivial | exact rfl | exact hkk | refine And.intro ?_ ?_)) rfl (by repeat' (first | exact trivial | exact rfl | exact List.Perm.refl _ | (intro i hi; exact ⟨rfl, rfl⟩) | (intro v m g h; exact h) | refine And.intro ?_ ?_)) rfl rfl ?_
    refine s65 hw (by omega) hr fun e he => ?_
    have heb : efB e := by rw [he]; exact efA_b hw q (by omega)
    have e0 : arB w q i k = fwV w q k := by unfold arB; rw [if_pos (by omega), if_neg (by omega)]
    have e1 : arB w q i (k + 1) = bkD w q i := by unfold arB; rw [if_pos (by omega), if_pos (by omega), show w.n - (k + 1) = i by omega]
    have hb := bkD_c hw hq i hi
    have hk0 : kbS (arB w q i k) := by rw [e0]; exact (fwV_c hw hq k (by omega)).kbS (by omega)
    have hk1 : kbS (arB w q i (k + 1)) := by rw [e1]; exact hb.kbS (by omega)
    have hk2 : kbS (befV e (arB w q i (k + 1))) := by rw [e1]; exact (bef_c heb (by omega) hb).kbS (by omega)
    have har : ∀ j, j < 9 → arB w q (i + 1) j = if j = k then bothV (arB w q i k) (befV e (arB w q i (k + 1))) else arB w q i j := fun j _ => by
      by_cases h1 : j = k
      · subst h1
        rw [if_pos rfl, e0, e1, he]
        unfold arB
        rw [if_pos (by omega), if_pos (by omega), show w.n - j = i + 1 by omega]
        show bothV (fwV w q (w.n - (i + 1))) _ = _
        rw [show w.n - (i + 1) = j by omega]
        rfl
      · rw [if_neg h1]
        unfold arB
        by_cases h2 : j ≤ w.n
        · rw [if_pos h2, if_pos h2]
          by_cases h3 : w.n - j ≤ i
          · rw [if_pos h3, if_pos (by omega)]
          · rw [if_neg h3, if_neg (by omega)]
        · rw [if_neg h2, if_neg h2]
    have heo := heb.ok
    clear he heb
    cases e
    all_goals
      refine ⟨rfl, (by repeat' (first | exact trivial | exact rfl | (intro i hi; exact ⟨rfl, rfl⟩) | refine And.intro ?_ ?_)), (by repeat' (first | exact trivial | exact rfl | (intro i hi; exact rfl) | refine And.intro ?_ ?_)), ?_⟩
      refine fb_yield 14 good0.ok (good0.ok _ _ _) cont_std rfl rfl rfl rfl rfl rfl rfl rfl rfl (by decide) ?_
      intro G3 r hG3
      refine any_region fol ?_
      refine any_weaken (st' := ⟨b14 k _, [], L3 .busy fn w q es (arB w q i), 16, []⟩) 15 (fun j => j) hG3 ?_ (reg14 (r := r) hG3 (by omega) heo hk0 hk1 hk2 har ?_)
      · refine ⟨?_, ?_, rfl, rfl, rfl, rfl, trivial⟩ <;> repeat' (first | exact trivial | exact rfl | exact hkk | exact List.Perm.refl _ | (intro i hi; exact ⟨rfl, rfl⟩) | (intro v m g h; exact h) | refine findV_sub (List.forall_mem_cons.2 ⟨⟨rfl, rfl⟩, List.forall_mem_cons.2 ⟨⟨rfl, rfl⟩, List.forall_mem_cons.2 ⟨⟨rfl, rfl⟩, List.forall_mem_cons.2 ⟨⟨rfl, rfl⟩, List.forall_mem_cons.2 ⟨⟨rfl, rfl⟩, fun p hp => by cases hp⟩⟩⟩⟩⟩) (fun t v h => findV_mem h) | refine And.intro ?_ ?_)
      refine Br.mk (fun h => by cases h) (fun _ => ?_)
      refine Chk.mk (show InK .i64 ((i : Int) + 1) from ⟨by omega, by omega⟩) ⟨⟨i + 1, by omega⟩, (fun j => j), ?_, by show w.n - (i + 1) < w.n - i; omega⟩
      refine ⟨?_, ?_, rfl, rfl, rfl, rfl, trivial⟩ <;> repeat' (first | exact trivial | exact rfl | exact hkk | exact List.Perm.refl _ | (intro i hi; exact ⟨rfl, rfl⟩) | (intro v m g h; exact h) | refine findV_sub (List.forall_mem_cons.2 ⟨⟨rfl, rfl⟩, List.forall_mem_cons.2 ⟨⟨rfl, rfl⟩, List.forall_mem_cons.2 ⟨⟨rfl, rfl⟩, List.forall_mem_cons.2 ⟨⟨rfl, rfl⟩, List.forall_mem_cons.2 ⟨⟨rfl, rfl⟩, fun p hp => by cases hp⟩⟩⟩⟩⟩) (fun t v h => findV_mem h) | refine And.intro ?_ ?_)
  · have h : ¬ (i : Int) < (w.n : Int) := of_decide_eq_false h
    obtain rfl : i = w.n := by omega
    exact hK fn
end
end Go.X.Wr
end

section
set_option linter.unusedVariables false
set_option linter.unusedSimpArgs false
set_option linter.unusedSectionVars false
/- Wear: follow. -/
set_option linter.unusedVariables false
set_option linter.unusedSimpArgs false
set_option maxRecDepth 10000
set_option maxHeartbeats 4000000
namespace Go.X.Wr
open Go Go.Proofs Go.X
open Go.X.W (regO getS getF exM_all' clB_at)

noncomputable def o15 : Array Oper := regO 15 (code Tryd.f42)
def ix15 (j : Nat) : Option Nat := if j < 6 then some j else none
def an15 : Nat → List Nat
  | 1 => [0]
  | 2 => [1]
  | 3 => [2]
  | _ => []
theorem an15_lt : ∀ i, ∀ j ∈ an15 i, j < i := by
  intro i j hj
  unfold an15 at hj
  split at hj <;> simp at hj <;> omega
theorem lat15 : symX o15 7 6 ix15 (fun i => i) an15 z1 = true := by kernel_rfl
noncomputable def ar15 : List Bool → Array Bool := arrZ 7 ix15 z1
def sl15 (q : Qn) (ar : Nat → Sp) : Nat → List (Nat × FE)
  | 0 => [(65, ⟨[], .sp 3 0⟩)]
  | 1 => [(66, ⟨[], .sp 3 0⟩)]
  | 2 => [(67, ⟨[], .sp 3 5⟩)]
  | 3 => [(68, ⟨[], .sm 2⟩)]
  | 4 => [(69, ⟨[], qnS q⟩)]
  | 5 => [(70, ⟨[], encL ar⟩)]
  | _ => []
def H15 (w : Wd) (q : Qn) (es : List (Qn × (Nat → Sp))) (ar : Nat → Sp) : List (Nat × HB) := (13, .dfr) :: (11, .dfr) :: A2 w q es ar
def D15 : List SDef := [(MARK, [.sp 13 0]), (MARK, [.sp 11 0])]
section
variable {G : Base} {w : Wd} {q : Qn} {es : List (Qn × (Nat → Sp))} {ar : Nat → Sp} {K : Ex → St → Prop}
def St15 (G : Base) (w : Wd) (q : Qn) (es : List (Qn × (Nat → Sp))) (ar : Nat → Sp) (j : Nat) : Prop := ∃ o, o15[j]? = some o ∧ o.guard = none ∧ ∀ (tail : List (Nat × FE)) (Q : Exit → Act → World → Prop) (Kn : St → Prop), Cont (X42 G) Q Kn (fun _ _ => False) → Kn ⟨sl15 q ar j ++ ((an15 j).flatMap (sl15 q ar) ++ (F2 ++ tail)), [], H15 w q es ar, 15, D15⟩ →
  execL (X42 G) [o] Q Kn (fun _ _ => False) 0 [o] ⟨(an15 j).flatMap (sl15 q ar) ++ (F2 ++ tail), [], H15 w q es ar, 15, D15⟩
theorem st15 (j : Nat) (hj : j < 6) : St15 G w q es ar j := by
  rcases (show j = 5 ∨ j = 0 ∨ j = 1 ∨ j = 2 ∨ j = 3 ∨ j = 4 by omega) with rfl | rfl | rfl | rfl | rfl | rfl
  · exact ⟨_, rfl, rfl, fun tail Q Kn hC hK => fb_loadA 7 9 2 (ok42 G) hC rfl rfl rfl rfl rfl rfl rfl rfl (by decide) rfl hK⟩
  all_goals exact ⟨_, rfl, rfl, fun tail Q Kn hC hK => hK⟩
theorem reg15 (hG : ∀ j, 4 ≤ j → G.ρ j = none) (hK : K .normal ⟨F2, [], H15 w q (updA es q ar) ar, 15, D15⟩) : AnyS (X42 G) o15 7 (Array.replicate 7 false) ⟨F2, [], H15 w q es ar, 15, D15⟩ K := by
  refine any_latN (D := D15) (ok42 G) 6 ar15 (fun i => i) (exM 6) (sl15 q ar) F2 (fun _ => H15 w q es ar) (fun _ => 15) an15 1 4 hG (fun a ha j hj => by have := an15_lt a j hj; omega) (latX_sym lat15) ?_ ?_ ?_ (List.replicate 6 false) rfl (by decide)
  · repeat' (first | exact trivial | exact ⟨rfl, rfl⟩ | refine And.intro ?_ ?_)
  · intro j hj l hl' hf ha hcl
    obtain ⟨o, q1, q2, q3⟩ := st15 (G := G) (w := w) (q := q) (es := es) (ar := ar) j hj
    exact ⟨o, q1, q2, .inl q3⟩
  · intro l hl he
    obtain rfl := exM_all' hl he
    refine any_step [6] (ok42 G) (by kernel_rfl) (by decide) ⟨?_, trivial⟩
    refine fb_update qnS encL es q ar (updA es q ar) rfl 2 (ok42 G) cont_any rfl (.inl rfl) rfl rfl rfl rfl qnS_key encL_cl rfl rfl rfl rfl ?_
    intro _
    refine any_weaken 4 (fun j => j) hG ?_ (any_done (by kernel_rfl) hK)
    refine ⟨?_, ?_, rfl, rfl, rfl, rfl, ?_⟩ <;> repeat' (first | exact trivial | exact rfl | exact List.Perm.refl _ | (intro i hi; exact ⟨rfl, rfl⟩) | (intro v m g h; exact h) | refine And.intro ?_ ?_)
end
theorem lookA_updW {κ ν : Type} [DecidableEq κ] {k k' : κ} {v : ν} : ∀ {l : List (κ × ν)}, lookA (updA l k v) k' = if k = k' then some v else lookA l k'
  | [] => by simp [updA, lookA]
  | p :: l => by
    have ih := lookA_updW (k := k) (k' := k') (v := v) (l := l)
    by_cases h : p.1 = k
    · subst h
      by_cases h2 : p.1 = k' <;> simp [updA, lookA, h2]
    · by_cases h2 : p.1 = k'
      · subst h2
        simp [updA, lookA, h, Ne.symm h]
      · by_cases h3 : k = k'
        · subst h3; simp [updA, lookA, h, ih]
        · simp [updA, lookA, h, h2, h3, ih]

theorem kOk.upd {w : Wd} {es : List (Qn × (Nat → Sp))} (h : kOk w es) (q : Qn) : kOk w (updA es q (lgV w q)) := by
  intro k lv e
  rw [lookA_updW] at e
  split at e
  · rename_i h1
    cases e; subst h1; rfl
  · exact h k lv e
theorem b42 : Body P 42 := body_of Tryd.func42 (c := code Tryd.f42) rfl (by decide)
section
variable {w : Wd} {q : Qn} {es : List (Qn × (Nat → Sp))} {Rv : SV → List (Nat × HB) → Nat → Prop} {Rp : List PanicEntry → List (Nat × HB) → Nat → Prop}
theorem s42 (hw : wdOk w = true) (hq : kc 0 (q.lo, q.hi)) (hr : q.reads < 256) (hkk : kOk w es) (hRv : ∀ es', kOk w es' → Rv (encL (lgV w q)) (bkS w (enM es')) 4) : CallS P 42 [.sp 3 0, qnS q] (bkS w (enM es)) 4 Rv Rp := by
  refine callS_toEM (ι := {es' // kOk w es'}) good0.ok Tryd.func42 (c := code Tryd.f42) rfl (Nat.le_of_ble_eq_true rfl) (fun _ => encL (lgV w q)) (fun x => bkS w (enM x.1)) 4 (fun G hG => ?_) (fun x => hRv x.1 x.2)
  refine (show SemC _ _ _ _ from ?_)
  refine any_region fol ?_
  refine any_weaken (st' := ⟨b1, [], H1 w q es, 6, []⟩) 4 (fun j => j) hG (by
    refine ⟨?_, ?_, rfl, rfl, rfl, rfl, trivial⟩ <;> repeat' (first | exact trivial | exact rfl | exact List.Perm.refl _ | (intro i hi; exact ⟨rfl, rfl⟩) | (intro v m g h; exact h) | refine And.intro ?_ ?_)) ?_
  cases hl : lookA es q with
  | some lv =>
    obtain rfl := hkk q lv hl
    refine reg1w (f := true) (lv := lgV w q) hG (.inl ⟨rfl, hl⟩) ?_
    refine Br.mk (fun _ => ?_) (fun h => by cases h)
    refine ⟨⟨es, hkk⟩, (fun j => j), ?_, ?_, rfl, rfl, rfl, rfl⟩ <;> repeat' (first | exact trivial | exact rfl | exact List.Perm.refl _ | (intro i hi; exact ⟨rfl, rfl⟩) | (intro v m g h; exact h) | refine And.intro ?_ ?_)
  | none =>
    refine reg1w (f := false) (lv := zl) hG (.inr ⟨rfl, hl, rfl⟩) ?_
    refine Br.mk (fun h => by cases h) (fun _ => ?_)
    refine Chk.mk ⟨by decide, by decide⟩ ?_
    refine fb_call (ok42 G) cont_std rfl rfl rfl rfl ⟨b55, ?_⟩
    refine callS_exec good0.ok Tryd.func55 (c := code Tryd.f55) rfl (Nat.le_of_ble_eq_true rfl) fun G2 hG2 => ?_
    refine (show SemC _ _ _ _ from ?_)
    refine sem_asVec 7 7 9 2 (fun j => spC (arF w q 0 j)) ⟨rfl, rfl, by decide, by decide, fun i hi => ?_, ?_⟩
    · rcases (show i = 0 ∨ i = 1 ∨ i = 2 ∨ i = 3 ∨ i = 4 ∨ i = 5 ∨ i = 6 ∨ i = 7 ∨ i = 8 by omega) with rfl | rfl | rfl | rfl | rfl | rfl | rfl | rfl | rfl <;> rfl
    refine sem_weaken (st' := ⟨(30, ⟨[], fnE⟩) :: F2, [], E2 q false ++ A2 w q es (arF w q 0), 11, []⟩) 4 (fun j => match j with | 7 => 11 | j => j) hG (by
      refine ⟨?_, ?_, rfl, rfl, rfl, rfl, trivial⟩ <;> repeat' (first | exact trivial | exact rfl | exact List.Perm.refl _ | (intro i hi; exact ⟨rfl, rfl⟩) | (intro v m g h; exact h) | refine And.intro ?_ ?_)) ?_
    refine fwd hG hw hq hr fun fn => ?_
    refine fb_call (ok42 G) cont_std rfl rfl rfl rfl ⟨b55, ?_⟩
    refine callS_exec good0.ok Tryd.func55 (c := code Tryd.f55) rfl (Nat.le_of_ble_eq_true rfl) fun G3 hG3 => ?_
    refine (show SemC _ _ _ _ from ?_)
    refine sem_weaken (st' := ⟨(48, ⟨[], fnE⟩) :: F3, [], E3 q ++ A2 w q es (arB w q 0), 13, [(MARK, [.sp 11 0])]⟩) 4 (fun j => match j with | 8 => 14 | 9 => 15 | 10 => 16 | 12 => 13 | j => j) hG (by
      refine ⟨?_, ?_, rfl, rfl, rfl, rfl, ?_⟩ <;> repeat' (first | exact trivial | exact rfl | exact List.Perm.refl _ | (intro i hi; exact ⟨(congrFun (congrArg (fun f => fun j => spC (f j)) (arB_zero w q).symm) i), rfl⟩) | (intro i hi; exact ⟨rfl, rfl⟩) | (intro v m g h; exact h) | refine And.intro ?_ ?_)) ?_
    refine bwd hG hw hq hr fun fn => ?_
    refine (show SemC _ _ _ _ from ?_)
    refine any_region fol ?_
    refine any_weaken (st' := ⟨F2, [], H15 w q es (lgV w q), 15, D15⟩) 4 (fun j => j) hG ?_ (reg15 (ar := lgV w q) hG ?_)
    · refine ⟨?_, ?_, rfl, rfl, rfl, rfl, ?_⟩ <;> repeat' (first | exact trivial | exact rfl | exact List.Perm.refl _ | (intro i hi; exact ⟨(congrFun (congrArg (fun f => fun j => spC (f j)) (arB_full w q)) i), rfl⟩) | (intro i hi; exact ⟨rfl, rfl⟩) | (intro v m g h; exact h) | refine And.intro ?_ ?_)
    refine fb_loadA 7 9 2 (ok42 G) cont_std rfl rfl rfl rfl rfl rfl rfl rfl (by decide) rfl ?_
    refine ⟨⟨updA es q (lgV w q), hkk.upd q⟩, (fun j => j), ?_, ?_, rfl, rfl, rfl, rfl⟩ <;> repeat' (first | exact trivial | exact rfl | exact List.Perm.refl _ | (intro i hi; exact ⟨rfl, rfl⟩) | (intro v m g h; exact h) | refine And.intro ?_ ?_)
end
end Go.X.Wr
end

section
set_option linter.unusedVariables false
set_option linter.unusedSimpArgs false
set_option linter.unusedSectionVars false
/- Calls with a deferred answer, and calls that may panic, by the ids of the caller. -/
set_option linter.unusedVariables false
set_option linter.unusedSimpArgs false
set_option maxRecDepth 10000
namespace Go.X
open Go
theorem callS_execD {P : Program} {T : Tab} {C : Nat → Option Ct} (hX : ∀ G r nt, (⟨P, T, C, G, r, nt⟩ : Cx).Ok) {na tRef tErr : Nat} (hA : AnswerOk P na tRef tErr) {n : Nat} {fn : Func} {c : Code} (hf : P.funcs[n]? = some fn) (hb : fn.body = some c)
    {l : List SV} (hlen : l.length ≤ fn.ntmps) {H : List (Nat × HB)} {nx : Nat} {Rv : SV → List (Nat × HB) → Nat → Prop} {Rp : List PanicEntry → List (Nat × HB) → Nat → Prop}
    (h : ∀ G : Base, (∀ j, nx ≤ j → G.ρ j = none) → exec ⟨P, T, C, G, none, fn.ntmps⟩ c (start l H nx) (FinD ⟨P, T, C, G, none, fn.ntmps⟩ na tRef tErr fn.results.toList (fun v st => Rv v st.H st.nx))) :
    CallS P n l H nx Rv Rp := by
  intro ρ w vals hm hnx hd
  have hcall := calls_of_execD (X := ⟨P, T, C, ⟨w, Own ρ (findH H), ρ, Fz (findH H)⟩, none, fn.ntmps⟩) (hX _ _ _) rfl hA hf hb rfl hd hlen hm rfl hnx (h _ hnx)
  refine hcall.mono ?_
  rintro e w' (⟨v, st, ρ', u, rfl, hv, hmh, hr⟩ | ⟨ch, st, ρ', rfl, hmh, hr⟩)
  · exact .inl ⟨v, st.H, st.nx, ρ', u, rfl, hv, hmh.hm, hmh.kp, hmh.nx, hr⟩
  · exact hr.elim
/-- What came back, under the numbers of the caller. -/
theorem callS_endR {ι κ : Type} {P : Program} {n : Nat} {l : List SV}
    {H : List (Nat × HB)} {nx : Nat} {Rv : SV → List (Nat × HB) → Nat → Prop} {Rp : List PanicEntry → List (Nat × HB) → Nat → Prop} (v' : ι → SV) (H' : ι → List (Nat × HB)) (nx' : Nat) (ch' : κ → List PanicEntry) (Hp : κ → List (Nat × HB)) (np : Nat)
    (h : CallS P n l H nx (fun v H₁ nx₁ => ∃ x s, EndR nx v H₁ nx₁ (v' x) (H' x) nx' s) (fun ch H₁ nx₁ => ∃ y s, ch = ch' y ∧ EndR nx (.tup []) H₁ nx₁ (.tup []) (Hp y) np s))
    (hk : ∀ x, Rv (v' x) (H' x) nx') (hp : ∀ y, Rp (ch' y) (Hp y) np) : CallS P n l H nx Rv Rp := by
  intro ρ w vals hm hnx hd
  refine (h ρ w vals hm hnx hd).mono ?_
  rintro e w' (⟨v, H₁, nx₁, ρ₁, u, rfl, h1, h2, h3, h4, x, s, hs⟩ | ⟨ch, H₁, nx₁, ρ₁, rfl, h2, h3, h4, y, s, rfl, hs⟩)
  · have hm1 : Mod ⟨P, fun _ => none, fun _ => none, ⟨w, Own ρ (findH H), ρ, Fz (findH H)⟩, none, 0⟩ ρ₁ ⟨[], [], H₁, nx₁, []⟩ { tmps := #[], defers := [] } w' := {
      fm := fun t e hf => by cases hf
      gs := fun t e hf => by cases hf
      df := trivial
      hm := h2
      kp := h3
      nx := h4
      sz := rfl }
    have hm2 := hm1.ren (n0 := nx) (s := s) (st' := ⟨[], [], H' x, nx', []⟩) ⟨trivial, hs.H, hs.inj, hs.fix, hs.ge, rfl, trivial⟩ hnx
    exact .inl ⟨v' x, H' x, nx', _, u, rfl, by rw [den_envR _ hs.vi, ← SVeq_eq _ _ hs.v]; exact h1, hm2.hm, hm2.kp, hm2.nx, hk x⟩
  · have hm1 : Mod ⟨P, fun _ => none, fun _ => none, ⟨w, Own ρ (findH H), ρ, Fz (findH H)⟩, none, 0⟩ ρ₁ ⟨[], [], H₁, nx₁, []⟩ { tmps := #[], defers := [] } w' := {
      fm := fun t e hf => by cases hf
      gs := fun t e hf => by cases hf
      df := trivial
      hm := h2
      kp := h3
      nx := h4
      sz := rfl }
    have hm2 := hm1.ren (n0 := nx) (s := s) (st' := ⟨[], [], Hp y, np, []⟩) ⟨trivial, hs.H, hs.inj, hs.fix, hs.ge, rfl, trivial⟩ hnx
    exact .inr ⟨ch' y, Hp y, np, _, rfl, hm2.hm, hm2.kp, hm2.nx, hp y⟩
end Go.X
end

section
set_option linter.unusedVariables false
set_option linter.unusedSimpArgs false
set_option linter.unusedSectionVars false
/- Wear: can; told. -/
set_option linter.unusedVariables false
set_option linter.unusedSimpArgs false
set_option maxRecDepth 10000
set_option maxHeartbeats 4000000
namespace Go.X.Wr
open Go Go.Proofs Go.X

theorem b40 : Body P 40 := body_of Tryd.func40 (c := code Tryd.f40) rfl (by decide)
theorem b20 : Body P 20 := body_of Tryd.func20 (c := code Tryd.f20) rfl (by decide)
section
variable {w : Wd} {q : Qn} {es : List (Qn × (Nat → Sp))} {Rv : SV → List (Nat × HB) → Nat → Prop} {Rp : List PanicEntry → List (Nat × HB) → Nat → Prop}
theorem s40 (hw : wdOk w = true) (hq : kc 0 (q.lo, q.hi)) (hr : q.reads < 256) (hkk : kOk w es) (hRv : ∀ es', kOk w es' → Rv (.sb (decide ((lgV w q 0).1 ≤ (lgV w q 0).2))) (bkS w (enM es')) 4) : CallS P 40 [.sp 3 0, qnS q] (bkS w (enM es)) 4 Rv Rp := by
  have g := g53 good0
  refine callS_toE (ι := {es' // kOk w es'}) g.ok Tryd.func40 (c := code Tryd.f40) rfl (Nat.le_of_ble_eq_true rfl) (fun _ => .sb (decide ((lgV w q 0).1 ≤ (lgV w q 0).2))) (fun x => bkS w (enM x.1)) 4 (fun G hG => ?_) (fun x => hRv x.1 x.2)
  refine fb_call (g.ok _ _ _) cont_std rfl rfl rfl rfl ⟨b42, ?_⟩
  refine callS_at [.sp 3 0, qnS q] (bkS w (enM es)) 4 (fun j => j) (by repeat' (first | exact trivial | exact rfl | refine And.intro ?_ ?_)) rfl (by repeat' (first | exact trivial | exact rfl | exact List.Perm.refl _ | (intro i hi; exact ⟨rfl, rfl⟩) | (intro v m g h; exact h) | refine And.intro ?_ ?_)) rfl rfl ?_
  refine s42 hw hq hr hkk fun es' hk' => ⟨rfl, (by repeat' (first | exact trivial | exact rfl | (intro i hi; exact ⟨rfl, rfl⟩) | refine And.intro ?_ ?_)), (by repeat' (first | exact trivial | exact rfl | (intro i hi; exact rfl) | refine And.intro ?_ ?_)), ?_⟩
  refine Chk.mk ⟨by decide, by decide⟩ ?_
  refine ⟨⟨es', hk'⟩, (fun j => j), ?_, ?_, rfl, rfl, rfl, rfl⟩ <;> repeat' (first | exact trivial | exact rfl | exact List.Perm.refl _ | (intro i hi; exact ⟨rfl, rfl⟩) | (intro v m g h; exact h) | refine And.intro ?_ ?_)
def canB (w : Wd) : Bool := decide ((lgV w (plQ w) 0).1 ≤ (lgV w (plQ w) 0).2)
theorem plQ_kc (hw : wdOk w = true) : kc 0 ((plQ w).lo, (plQ w).hi) := by
  obtain ⟨h1, _⟩ := wdOk_b hw
  refine ⟨⟨?_, ?_⟩, ?_, ?_⟩ <;> simp only [plQ] <;> omega
theorem plQ_r (hw : wdOk w = true) : (plQ w).reads < 256 := rdN_256 (w := w) (i := w.n) (wdOk_b hw).2.2.1
theorem s20 (hw : wdOk w = true) (hkk : kOk w es) (hRv : canB w = true → ∀ es', kOk w es' → Rv (encL (lgV w (plQ w))) (bkS w (enM es')) 4) (hRp : canB w = false → ∀ es', kOk w es' → Rp (refP 10) (bkS w (enM es')) 4) : CallS P 20 [.sp 3 0] (bkS w (enM es)) 4 Rv Rp := by
  have g := g30 good0
  refine callS_endR (ι := {es' // canB w = true ∧ kOk w es'}) (κ := {es' // canB w = false ∧ kOk w es'}) (fun _ => encL (lgV w (plQ w))) (fun x => bkS w (enM x.1)) 4 (fun _ => refP 10) (fun x => bkS w (enM x.1)) 4 (callS_exec g.ok Tryd.func20 (c := code Tryd.f20) rfl (Nat.le_of_ble_eq_true rfl) (fun G hG => ?_)) (fun x => hRv x.2.1 x.1 x.2.2) (fun x => hRp x.2.1 x.1 x.2.2)
  refine fb_call (g.ok _ _ _) cont_std rfl rfl rfl rfl ⟨b41, ?_⟩
  refine callS_at [.sp 3 0] (bkS w (enM es)) 4 (fun j => j) (by repeat' (first | exact trivial | exact rfl | refine And.intro ?_ ?_)) rfl (by repeat' (first | exact trivial | exact rfl | exact List.Perm.refl _ | (intro i hi; exact ⟨rfl, rfl⟩) | (intro v m g h; exact h) | refine And.intro ?_ ?_)) rfl rfl ?_
  refine s41 hw ⟨rfl, (by repeat' (first | exact trivial | exact rfl | (intro i hi; exact ⟨rfl, rfl⟩) | refine And.intro ?_ ?_)), (by repeat' (first | exact trivial | exact rfl | (intro i hi; exact rfl) | refine And.intro ?_ ?_)), ?_⟩
  refine fb_call (g.ok _ _ _) cont_std rfl rfl rfl rfl ⟨b40, ?_⟩
  refine callS_at [.sp 3 0, qnS (plQ w)] (bkS w (enM es)) 4 (fun j => j) (by repeat' (first | exact trivial | exact rfl | refine And.intro ?_ ?_)) rfl (by repeat' (first | exact trivial | exact rfl | exact List.Perm.refl _ | (intro i hi; exact ⟨rfl, rfl⟩) | (intro v m g h; exact h) | refine And.intro ?_ ?_)) rfl rfl ?_
  refine s40 hw (plQ_kc hw) (plQ_r hw) hkk fun es' hk' => ⟨rfl, (by repeat' (first | exact trivial | exact rfl | (intro i hi; exact ⟨rfl, rfl⟩) | refine And.intro ?_ ?_)), (by repeat' (first | exact trivial | exact rfl | (intro i hi; exact rfl) | refine And.intro ?_ ?_)), ?_⟩
  refine Br.mk (fun hc => ?_) (fun hc => ?_)
  · have hc : (!canB w) = true := hc
    have hc : canB w = false := by simpa using hc
    refine ⟨⟨es', hc, hk'⟩, (fun j => j), rfl, ?_, ?_, rfl, rfl, rfl, rfl⟩ <;> repeat' (first | exact trivial | exact rfl | exact List.Perm.refl _ | (intro i hi; exact ⟨rfl, rfl⟩) | (intro v m g h; exact h) | refine And.intro ?_ ?_)
  have hc : (!canB w) = false := hc
  have hc : canB w = true := by simpa using hc
  refine fb_call (g.ok _ _ _) cont_std rfl rfl rfl rfl ⟨b41, ?_⟩
  refine callS_at [.sp 3 0] (bkS w (enM es')) 4 (fun j => j) (by repeat' (first | exact trivial | exact rfl | refine And.intro ?_ ?_)) rfl (by repeat' (first | exact trivial | exact rfl | exact List.Perm.refl _ | (intro i hi; exact ⟨rfl, rfl⟩) | (intro v m g h; exact h) | refine And.intro ?_ ?_)) rfl rfl ?_
  refine s41 hw ⟨rfl, (by repeat' (first | exact trivial | exact rfl | (intro i hi; exact ⟨rfl, rfl⟩) | refine And.intro ?_ ?_)), (by repeat' (first | exact trivial | exact rfl | (intro i hi; exact rfl) | refine And.intro ?_ ?_)), ?_⟩
  refine fb_call (g.ok _ _ _) cont_std rfl rfl rfl rfl ⟨b42, ?_⟩
  refine callS_at [.sp 3 0, qnS (plQ w)] (bkS w (enM es')) 4 (fun j => j) (by repeat' (first | exact trivial | exact rfl | refine And.intro ?_ ?_)) rfl (by repeat' (first | exact trivial | exact rfl | exact List.Perm.refl _ | (intro i hi; exact ⟨rfl, rfl⟩) | (intro v m g h; exact h) | refine And.intro ?_ ?_)) rfl rfl ?_
  refine s42 hw (plQ_kc hw) (plQ_r hw) hk' fun es2 hk2 => ⟨rfl, (by repeat' (first | exact trivial | exact rfl | (intro i hi; exact ⟨rfl, rfl⟩) | refine And.intro ?_ ?_)), (by repeat' (first | exact trivial | exact rfl | (intro i hi; exact rfl) | refine And.intro ?_ ?_)), ?_⟩
  refine ⟨⟨es2, hc, hk2⟩, (fun j => j), ?_, ?_, rfl, rfl, rfl, rfl⟩ <;> repeat' (first | exact trivial | exact rfl | exact List.Perm.refl _ | (intro i hi; exact ⟨rfl, rfl⟩) | (intro v m g h; exact h) | refine And.intro ?_ ?_)
end
end Go.X.Wr
end

section
set_option linter.unusedVariables false
set_option linter.unusedSimpArgs false
set_option linter.unusedSectionVars false
/- Regions of any order in which a call may panic. -/
set_option linter.unusedVariables false
set_option linter.unusedSimpArgs false
set_option maxRecDepth 10000
namespace Go.X
open Go
def filtF (ds : List Nat) : List (Nat × FE) → List (Nat × FE)
  | [] => []
  | (t, e) :: r => match ds.any (Nat.beq t) with
    | true => filtF ds r
    | false => (match e.gp with
      | [] => (t, e) :: filtF ds r
      | _ => [])
theorem filtF_ok {ds : List Nat} : ∀ {F : List (Nat × FE)} {t : Nat} {e : FE}, findF (filtF ds F) t = some e → findF F t = some e ∧ e.gp = [] ∧ t ∉ ds
  | [], t, e, h => by cases h
  | (s, x) :: r, t, e, h => by
    unfold filtF at h
    split at h
    · rename_i h1
      have ih := filtF_ok h
      refine ⟨?_, ih.2⟩
      simp only [findF]
      split
      · rename_i h2
        have h2 : s = t := by simpa using h2
        subst h2
        have : s ∈ ds := by simpa using h1
        exact absurd this ih.2.2
      · exact ih.1
    · rename_i h1
      split at h
      · rename_i h3
        simp only [findF] at h ⊢
        split at h
        · rename_i h2
          have h2' : s = t := by simpa using h2
          cases h
          rw [if_pos h2]
          refine ⟨rfl, h3, ?_⟩
          intro hm
          have h1 : ∀ x ∈ ds, ¬ s = x := by simpa using h1
          exact h1 t hm h2'
        · rename_i h2
          rw [if_neg h2]
          exact filtF_ok h
      · cases h
def dstsOf (ops : Array Oper) : List Nat := ops.toList.filterMap (·.dst)
def Qp (X : Cx) (ops : Array Oper) (K : Ex → St → Prop) : Exit → Act → World → Prop := fun e a w => match e with
  | .panic ch => ∃ st ρ, (∀ t e, findF st.F t = some e → e.gp = [] ∧ t ∉ dstsOf ops) ∧ Mod X ρ st a w ∧ K (.panic ch) st
  | e => Qof X K e a w
/-- As AnyS, but an operation may panic. -/
structure AnyP (X : Cx) (ops : Array Oper) (fuel : Nat) (listed : Array Bool) (st : St) (K : Ex → St → Prop) : Prop where
  h : ∀ ρ a w, Mod X ρ st a w → wpAnyIn (FW X.r) 0 X.P .any ops (Qp X ops K) fuel listed a w
theorem any_regionP {X : Cx} {st : St} {K : Ex → St → Prop} {id : Nat} {ops : Array Oper} (hm : X.P.follows .mixedOrders = true) (h : AnyP X ops ops.size (Array.replicate ops.size false) st K) : SemC X (.region id ops true) st K := by
  intro ρ a w hmod
  have hmod' : Mod X ρ st a { w with drawn := w.drawn + 1 } := {
    fm := hmod.fm, gs := hmod.gs, df := hmod.df, hm := hmod.hm.world (Nat.le_refl _) (fun _ _ => rfl), kp := hmod.kp.world (Nat.le_refl _) (fun _ _ => rfl), nx := hmod.nx, sz := hmod.sz }
  refine wpIn_mono (Q := Qp X ops K) (wpIn_region_any hm (h.h ρ a _ hmod')) ?_
  intro e a' w' hq
  cases e with
  | panic ch => obtain ⟨st', ρ', _, h2, h3⟩ := hq; exact ⟨.panic ch, st', ρ', rfl, h2, h3⟩
  | _ => exact hq
theorem any_doneP {X : Cx} {st : St} {K : Ex → St → Prop} {ops : Array Oper} {fuel : Nat} {listed : Array Bool} (hr : Region.ready .any ops listed = []) (h : K .normal st) : AnyP X ops fuel listed st K :=
  ⟨fun ρ a w hm => wpAnyIn_done hr ⟨.normal, st, ρ, rfl, hm, h⟩ fuel⟩
theorem get_put {a : Act} {d t : Nat} {v : Value} (h : t ≠ d) : (a.put (some d) v).tmps[t]? = a.tmps[t]? := by
  show (a.tmps.setIfInBounds d v)[t]? = _
  rw [Array.getElem?_setIfInBounds]
  rw [if_neg (Ne.symm h)]
theorem Qp_put {X : Cx} {ops : Array Oper} {K : Ex → St → Prop} {ch : List PanicEntry} {d : Nat} (hd : d ∈ dstsOf ops) {v : Value} {a : Act} {w : World} (h : Qp X ops K (.panic ch) (a.put (some d) v) w) : Qp X ops K (.panic ch) a w := by
  obtain ⟨st, ρ, h1, h2, h3⟩ := h
  refine ⟨st, ρ, h1, ?_, h3⟩
  exact {
    fm := fun t e he => by
      obtain ⟨g1, g2⟩ := h1 t e he
      have hk := h2.fm t e he
      have hne : t ≠ d := by rintro rfl; exact g2 hd
      rw [get_put hne] at hk
      have hs : ∀ a : Act, GPsat a e.gp := fun a x hx => by rw [g1] at hx; cases hx
      exact ⟨fun _ => hk.1 (hs _), fun hn => absurd (hs _) hn⟩
    gs := h2.gs
    df := h2.df
    hm := h2.hm
    kp := h2.kp
    nx := h2.nx
    sz := by have := h2.sz; simpa [Act.put] using this }
theorem any_takeP {X : Cx} {st : St} {K : Ex → St → Prop} (i : Nat) {d : Nat} {o : Oper} {pre : Option Prop} {v : SV} {ops : Array Oper} {fuel : Nat} {listed : Array Bool} (hX : X.Ok) (hr : X.r = none) (ho : ops[i]? = some o) (hd : o.dst = some d) (hg : o.guard = none)
    (hc : core X.T (findF st.F) [] (fun _ => none) st.nx o.op = some ⟨pre, v, .no⟩) (hnc : isCall o.op = none) (hp : putN st.gs X.nt (some d) = false) (hs : Region.noSelect ops = true) (hf : Region.free .any ops listed i = true)
    (hrd : (Region.ready .any ops listed).contains i = true)
    (h : ChkO pre (stK st fun F gs H nx D => fSV v fun v' => AnyP X ops fuel (listed.setIfInBounds i true) ⟨(d, ⟨[], v'⟩) :: F, gs, H, nx, D⟩ K)) : AnyP X ops (fuel + 1) listed st K := by
  refine ⟨fun ρ a w hm => ?_⟩
  have hsat : GPsat a [] := fun x hx => by cases hx
  have hHρ : ∀ w : World, HM ρ (fun _ => none) w := fun w => {
    ok := fun _ _ h => by cases h
    sep := fun _ _ _ _ _ _ _ h => by cases h
    ro := fun _ _ _ _ _ _ h => by cases h
    fam := fun _ ⟨_, _, _, _, _, _, h, _⟩ => by cases h }
  have hk := ChkO_k h
  rw [stK_eq, fSV_eq] at hk
  have hall : ∀ w : World, ∃ u, (execOp a.eval o).run X.P w = .ok (.value u) w ∧ den ρ v = some u := fun w => by
    exact core_ok hX.tab hm.fm hsat (hHρ w) (hm.nx _ (Nat.le_refl _)) hc (ChkO_pre h)
  obtain ⟨u, _, hu⟩ := hall w
  have hy : YieldsFenced X.P ops o u a := by
    refine ⟨.inl ⟨guard_none hg _, fun w => ?_⟩, fun w => ?_⟩
    · obtain ⟨u', h1, h2⟩ := hall w
      rw [hu] at h2; cases h2
      exact h1
    · unfold Oper.about
      cases hop : o.op <;> first | rfl | (rw [hop] at hnc; cases hnc)
  have hmem : d ∈ dstsOf ops := by
    unfold dstsOf
    rw [List.mem_filterMap]
    exact ⟨o, List.mem_of_getElem? (by rw [Array.getElem?_toList]; exact ho), hd⟩
  refine wpAnyIn_take (by rw [FW_round, hr]) ho hs hf hrd (fun c a w h => by rw [hd] at h; exact Qp_put hmem h) hy ?_
  rw [hd]
  exact hk.h ρ _ w (hm.put hp hu)
def QstP (X : Cx) (ops : Array Oper) (fuel : Nat) (listed : Array Bool) (K : Ex → St → Prop) : Exit → Act → World → Prop := fun e a w => match e with
  | .normal => wpAnyIn (FW X.r) 0 X.P .any ops (Qp X ops K) fuel listed a w
  | e => Qp X ops K e a w
def panSt (ops : Array Oper) (K : Ex → St → Prop) (ch : List PanicEntry) : St → Prop
  | ⟨F, gs, H, nx, D⟩ => K (.panic ch) ⟨filtF (dstsOf ops) F, gs, H, nx, D⟩
theorem cont_anyP {X : Cx} {ops : Array Oper} {fuel : Nat} {listed : Array Bool} {K : Ex → St → Prop} : Cont X (QstP X ops fuel listed K) (fun st => AnyP X ops fuel listed st K) (fun ch st => panSt ops K ch st) where
  k ρ' st' a' w' hm' hk := hk.h ρ' a' w' hm'
  p ch ρ' st' a' w' hm' hk := by
    obtain ⟨F, gs, H, nx, D⟩ := st'
    refine ⟨⟨filtF (dstsOf ops) F, gs, H, nx, D⟩, ρ', fun t e he => (filtF_ok he).2, {
      fm := fun t e he => hm'.fm t e (filtF_ok he).1
      gs := fun t e he => hm'.gs t e (filtF_ok he).1
      df := hm'.df
      hm := hm'.hm
      kp := hm'.kp
      nx := hm'.nx
      sz := hm'.sz }, hk⟩
def stepsP (X : Cx) (ops : Array Oper) (fuel : Nat) (listed : Array Bool) (st : St) (K : Ex → St → Prop) : List Nat → Prop
  | [] => True
  | i :: r => (match nth ops.toList i with
    | some o => (match o.guard with
      | none => execL X [o] (QstP X ops fuel (listed.setIfInBounds i true) K) (fun st' => AnyP X ops fuel (listed.setIfInBounds i true) st' K) (fun ch st' => panSt ops K ch st') 0 [o] st
      | some _ => False)
    | none => False) ∧ stepsP X ops fuel listed st K r
theorem stepsP_ok {X : Cx} {ops : Array Oper} {fuel : Nat} {listed : Array Bool} {st : St} {K : Ex → St → Prop} (hX : X.Ok) : ∀ {l : List Nat}, stepsP X ops fuel listed st K l → ∀ i ∈ l, ∀ ρ a w, Mod X ρ st a w →
    wpOpIn (FW X.r) 0 X.P ops (Qp X ops K) i (wpAnyIn (FW X.r) 0 X.P .any ops (Qp X ops K) fuel (listed.setIfInBounds i true)) a w
  | j :: r, h, i, hi, ρ, a, w, hm => by
    rcases List.mem_cons.1 hi with rfl | hi
    · have h1 := h.1
      split at h1
      · rename_i o e
        rw [nth_eq] at e
        have e : ops[i]? = some o := by simpa [Array.getElem?_toList] using e
        split at h1
        · rename_i hg
          have h2 := execL_ok hX (cont_anyP (X := X) (ops := ops) (fuel := fuel) (listed := listed.setIfInBounds i true) (K := K)).k cont_anyP.p [o] 0 ρ st a w rfl h1 hm
          have h2 : wpOpsIn (FW X.r) 0 X.P #[o] (QstP X ops fuel (listed.setIfInBounds i true) K) [0] a w := h2
          simp only [wpOpsIn] at h2
          have hw0 : ∀ y, Region.wanted o y = true := fun y => guard_none hg y
          simp only [List.getElem?_toArray, List.getElem?_cons_zero, hw0, if_true] at h2
          unfold wpOpIn
          simp only [e, hw0, if_true]
          have h3 : Oper.wpIn (FW X.r) 0 X.P o a w (wpAnyIn (FW X.r) 0 X.P .any ops (Qp X ops K) fuel (listed.setIfInBounds i true)) (QstP X ops fuel (listed.setIfInBounds i true) K) := h2
          unfold Oper.wpIn at h3 ⊢
          refine ⟨h3.1, ?_⟩
          have h4 := h3.2
          generalize (o.semAt (FW X.r).round a.eval).run X.P w = res at h4 ⊢
          cases res with
          | ok x w' => cases x <;> exact h4
          | halt x w' => cases x <;> exact h4
        · exact h1.elim
      · exact h1.elim
    · exact stepsP_ok hX h.2 i hi ρ a w hm
theorem any_stepP {X : Cx} {st : St} {K : Ex → St → Prop} {ops : Array Oper} {fuel : Nat} {listed : Array Bool} (rs : List Nat) (hX : X.Ok) (hr : Region.ready .any ops listed = rs) (hne : rs ≠ []) (h : stepsP X ops fuel listed st K rs) : AnyP X ops (fuel + 1) listed st K :=
  ⟨fun ρ a w hm => wpAnyIn_all hr hne fun i hi => stepsP_ok hX h i hi ρ a w hm⟩
end Go.X
end

section
set_option linter.unusedVariables false
set_option linter.unusedSimpArgs false
set_option linter.unusedSectionVars false
/- Wear: what is left at last. -/
set_option linter.unusedVariables false
set_option linter.unusedSimpArgs false
set_option maxRecDepth 10000
set_option maxHeartbeats 4000000
namespace Go.X.Wr
open Go Go.Proofs Go.X

theorem b29 : Body P 29 := body_of Tryd.func29 (c := code Tryd.f29) rfl (by decide)
section
variable {w : Wd} {es : List (Qn × (Nat → Sp))} {Rv : SV → List (Nat × HB) → Nat → Prop} {Rp : List PanicEntry → List (Nat × HB) → Nat → Prop}
theorem s29 (hw : wdOk w = true) (hkk : kOk w es) (hRv : canB w = true → ∀ es', kOk w es' → Rv (.agg (spC (lgV w (plQ w) w.n))) (bkS w (enM es')) 4) (hRp : canB w = false → ∀ es', kOk w es' → Rp (refP 10) (bkS w (enM es')) 4) : CallS P 29 [.sp 3 0] (bkS w (enM es)) 4 Rv Rp := by
  have g := good0
  refine callS_endR (ι := {es' // canB w = true ∧ kOk w es'}) (κ := {es' // canB w = false ∧ kOk w es'}) (fun _ => .agg (spC (lgV w (plQ w) w.n))) (fun x => bkS w (enM x.1)) 4 (fun _ => refP 10) (fun x => bkS w (enM x.1)) 4 ?_ (fun x => hRv x.2.1 x.1 x.2.2) (fun x => hRp x.2.1 x.1 x.2.2)
  refine callS_exec g.ok Tryd.func29 (c := code Tryd.f29) rfl (Nat.le_of_ble_eq_true rfl) (fun G hG => ?_)
  obtain ⟨_, _, hn, _⟩ := wdOk_b hw
  clear hRv hRp
  obtain ⟨l1, l2, u1, u2, n, ev⟩ := w
  have hn : n ≤ 8 := hn
  rcases (show n = 0 ∨ n = 1 ∨ n = 2 ∨ n = 3 ∨ n = 4 ∨ n = 5 ∨ n = 6 ∨ n = 7 ∨ n = 8 by omega) with rfl | rfl | rfl | rfl | rfl | rfl | rfl | rfl | rfl
  all_goals
    refine (show SemC _ _ _ _ from ?_)
    refine any_regionP fol ?_
    refine any_takeP 0 (g.ok _ _ _) rfl rfl rfl rfl rfl rfl rfl (by kernel_rfl) (by kernel_rfl) (by kernel_rfl) ?_
    refine any_takeP 2 (g.ok _ _ _) rfl rfl rfl rfl rfl rfl rfl (by kernel_rfl) (by kernel_rfl) (by kernel_rfl) ?_
    refine any_takeP 3 (g.ok _ _ _) rfl rfl rfl rfl rfl rfl rfl (by kernel_rfl) (by kernel_rfl) (by kernel_rfl) ?_
    refine any_takeP 4 (g.ok _ _ _) rfl rfl rfl rfl rfl rfl rfl (by kernel_rfl) (by kernel_rfl) (by kernel_rfl) ?_
    refine any_takeP 5 (g.ok _ _ _) rfl rfl rfl rfl rfl rfl rfl (by kernel_rfl) (by kernel_rfl) (by kernel_rfl) ?_
    refine any_stepP [1, 6] (g.ok _ _ _) (by kernel_rfl) (by decide) ⟨?_, ?_, trivial⟩
    · refine fb_call (g.ok _ _ _) cont_anyP rfl rfl rfl rfl ⟨b20, ?_⟩
      refine callS_at [.sp 3 0] (bkS _ (enM es)) 4 (fun j => j) (by repeat' (first | exact trivial | exact rfl | refine And.intro ?_ ?_)) rfl (by repeat' (first | exact trivial | exact rfl | exact List.Perm.refl _ | (intro i hi; exact ⟨rfl, rfl⟩) | (intro v m g h; exact h) | refine And.intro ?_ ?_)) rfl rfl ?_
      refine s20 hw hkk (fun hc es' hk' => ⟨rfl, (by repeat' (first | exact trivial | exact rfl | (intro i hi; exact ⟨rfl, rfl⟩) | refine And.intro ?_ ?_)), (by repeat' (first | exact trivial | exact rfl | (intro i hi; exact rfl) | refine And.intro ?_ ?_)), ?_⟩) (fun hc es' hk' => ⟨rfl, (by repeat' (first | exact trivial | exact rfl | (intro i hi; exact ⟨rfl, rfl⟩) | refine And.intro ?_ ?_)), (by repeat' (first | exact trivial | exact rfl | (intro i hi; exact rfl) | refine And.intro ?_ ?_)), ?_⟩)
      · refine any_stepP [6] (g.ok _ _ _) (by kernel_rfl) (by decide) ⟨?_, trivial⟩
        refine any_stepP [7] (g.ok _ _ _) (by kernel_rfl) (by decide) ⟨?_, trivial⟩
        refine any_stepP [8] (g.ok _ _ _) (by kernel_rfl) (by decide) ⟨?_, trivial⟩
        refine Chk.mk ⟨by dsimp only; decide, by dsimp only; decide⟩ ?_
        refine any_stepP [9] (g.ok _ _ _) (by kernel_rfl) (by decide) ⟨?_, trivial⟩
        refine any_doneP (by kernel_rfl) ?_
        refine ⟨⟨es', hc, hk'⟩, (fun j => j), ?_, ?_, rfl, rfl, rfl, rfl⟩ <;> repeat' (first | exact trivial | exact rfl | exact List.Perm.refl _ | (intro i hi; exact ⟨rfl, rfl⟩) | (intro v m g h; exact h) | refine And.intro ?_ ?_)
      · refine ⟨⟨es', hc, hk'⟩, (fun j => j), rfl, ?_, ?_, rfl, rfl, rfl, rfl⟩ <;> repeat' (first | exact trivial | exact rfl | exact List.Perm.refl _ | (intro i hi; exact ⟨rfl, rfl⟩) | (intro v m g h; exact h) | refine And.intro ?_ ?_)
    · refine any_stepP [1, 7] (g.ok _ _ _) (by kernel_rfl) (by decide) ⟨?_, ?_, trivial⟩
      · refine fb_call (g.ok _ _ _) cont_anyP rfl rfl rfl rfl ⟨b20, ?_⟩
        refine callS_at [.sp 3 0] (bkS _ (enM es)) 4 (fun j => j) (by repeat' (first | exact trivial | exact rfl | refine And.intro ?_ ?_)) rfl (by repeat' (first | exact trivial | exact rfl | exact List.Perm.refl _ | (intro i hi; exact ⟨rfl, rfl⟩) | (intro v m g h; exact h) | refine And.intro ?_ ?_)) rfl rfl ?_
        refine s20 hw hkk (fun hc es' hk' => ⟨rfl, (by repeat' (first | exact trivial | exact rfl | (intro i hi; exact ⟨rfl, rfl⟩) | refine And.intro ?_ ?_)), (by repeat' (first | exact trivial | exact rfl | (intro i hi; exact rfl) | refine And.intro ?_ ?_)), ?_⟩) (fun hc es' hk' => ⟨rfl, (by repeat' (first | exact trivial | exact rfl | (intro i hi; exact ⟨rfl, rfl⟩) | refine And.intro ?_ ?_)), (by repeat' (first | exact trivial | exact rfl | (intro i hi; exact rfl) | refine And.intro ?_ ?_)), ?_⟩)
        · refine any_stepP [7] (g.ok _ _ _) (by kernel_rfl) (by decide) ⟨?_, trivial⟩
          refine any_stepP [8] (g.ok _ _ _) (by kernel_rfl) (by decide) ⟨?_, trivial⟩
          refine Chk.mk ⟨by dsimp only; decide, by dsimp only; decide⟩ ?_
          refine any_stepP [9] (g.ok _ _ _) (by kernel_rfl) (by decide) ⟨?_, trivial⟩
          refine any_doneP (by kernel_rfl) ?_
          refine ⟨⟨es', hc, hk'⟩, (fun j => j), ?_, ?_, rfl, rfl, rfl, rfl⟩ <;> repeat' (first | exact trivial | exact rfl | exact List.Perm.refl _ | (intro i hi; exact ⟨rfl, rfl⟩) | (intro v m g h; exact h) | refine And.intro ?_ ?_)
        · refine ⟨⟨es', hc, hk'⟩, (fun j => j), rfl, ?_, ?_, rfl, rfl, rfl, rfl⟩ <;> repeat' (first | exact trivial | exact rfl | exact List.Perm.refl _ | (intro i hi; exact ⟨rfl, rfl⟩) | (intro v m g h; exact h) | refine And.intro ?_ ?_)
      · refine any_stepP [1] (g.ok _ _ _) (by kernel_rfl) (by decide) ⟨?_, trivial⟩
        refine fb_call (g.ok _ _ _) cont_anyP rfl rfl rfl rfl ⟨b20, ?_⟩
        refine callS_at [.sp 3 0] (bkS _ (enM es)) 4 (fun j => j) (by repeat' (first | exact trivial | exact rfl | refine And.intro ?_ ?_)) rfl (by repeat' (first | exact trivial | exact rfl | exact List.Perm.refl _ | (intro i hi; exact ⟨rfl, rfl⟩) | (intro v m g h; exact h) | refine And.intro ?_ ?_)) rfl rfl ?_
        refine s20 hw hkk (fun hc es' hk' => ⟨rfl, (by repeat' (first | exact trivial | exact rfl | (intro i hi; exact ⟨rfl, rfl⟩) | refine And.intro ?_ ?_)), (by repeat' (first | exact trivial | exact rfl | (intro i hi; exact rfl) | refine And.intro ?_ ?_)), ?_⟩) (fun hc es' hk' => ⟨rfl, (by repeat' (first | exact trivial | exact rfl | (intro i hi; exact ⟨rfl, rfl⟩) | refine And.intro ?_ ?_)), (by repeat' (first | exact trivial | exact rfl | (intro i hi; exact rfl) | refine And.intro ?_ ?_)), ?_⟩)
        · refine any_stepP [8] (g.ok _ _ _) (by kernel_rfl) (by decide) ⟨?_, trivial⟩
          refine Chk.mk ⟨by dsimp only; decide, by dsimp only; decide⟩ ?_
          refine any_stepP [9] (g.ok _ _ _) (by kernel_rfl) (by decide) ⟨?_, trivial⟩
          refine any_doneP (by kernel_rfl) ?_
          refine ⟨⟨es', hc, hk'⟩, (fun j => j), ?_, ?_, rfl, rfl, rfl, rfl⟩ <;> repeat' (first | exact trivial | exact rfl | exact List.Perm.refl _ | (intro i hi; exact ⟨rfl, rfl⟩) | (intro v m g h; exact h) | refine And.intro ?_ ?_)
        · refine ⟨⟨es', hc, hk'⟩, (fun j => j), rfl, ?_, ?_, rfl, rfl, rfl, rfl⟩ <;> repeat' (first | exact trivial | exact rfl | exact List.Perm.refl _ | (intro i hi; exact ⟨rfl, rfl⟩) | (intro v m g h; exact h) | refine And.intro ?_ ?_)
end
end Go.X.Wr
end

section
set_option linter.unusedVariables false
set_option linter.unusedSimpArgs false
set_option linter.unusedSectionVars false
/- Wear: events, as both packages ask of them. -/
set_option linter.unusedVariables false
set_option linter.unusedSimpArgs false
set_option maxRecDepth 10000
set_option maxHeartbeats 4000000
namespace Go.X.Wr
open Go Go.Proofs Go.X

def c39 : Ct := plainCt fun
  | [.agg [.si .i64 k, .si .i64 u, .si .i64 lo, .si .i64 hi]] => some ⟨none, none, .sb (evOk ⟨k, u, lo, hi⟩), []⟩
  | _ => none
theorem ev0 {k u lo hi : Int} (h : k = 0) : evOk ⟨k, u, lo, hi⟩ = (decide (0 ≤ u) && decide (u ≤ 20)) := by
  subst h; simp [evOk, isSp]
theorem ev1 {k u lo hi : Int} (h : k = 1) : evOk ⟨k, u, lo, hi⟩ = isSp lo hi (-1000) 1000 := by
  subst h; simp [evOk, isSp]
theorem ev2 {k u lo hi : Int} (h : k = 2) : evOk ⟨k, u, lo, hi⟩ = isSp lo hi 0 10 := by
  subst h; simp [evOk, isSp]
theorem ev3 {k u lo hi : Int} (h0 : ¬ k = 0) (h1 : ¬ k = 1) (h2 : ¬ k = 2) : evOk ⟨k, u, lo, hi⟩ = false := by
  simp [evOk, isSp, h0, h1, h2]
theorem k39 {l : List (Nat × Ct)} (g0 : Good P T l) : COk P 39 c39 := by
  have g := g19 (g36 g0)
  refine cok (C := tabC _) g.ok Tryd.func39 (c := code Tryd.f39) rfl fun fr args H out h hp => ?_
  simp only [c39, plainCt] at h
  split at h
  · rename_i k u lo hi
    cases h
    refine walk_plain rfl (Nat.le_of_ble_eq_true rfl) fun G hG => ?_
    refine Br.mk (fun h0 => ?_) (fun h0 => ?_)
    · have h0 : k = 0 := of_decide_eq_true h0
      rw [ev0 h0]
      exact ⟨.inl rfl, end_plain rfl rfl rfl⟩
    have h0 : ¬ k = 0 := of_decide_eq_false h0
    refine Br.mk (fun h1 => ?_) (fun h1 => ?_)
    · have h1 : k = 1 := of_decide_eq_true h1
      rw [ev1 h1]
      exact ⟨.inl rfl, end_plain rfl rfl rfl⟩
    have h1 : ¬ k = 1 := of_decide_eq_false h1
    refine Br.mk (fun h2 => ?_) (fun h2 => ?_)
    · have h2 : k = 2 := of_decide_eq_true h2
      rw [ev2 h2]
      exact ⟨.inl rfl, end_plain rfl rfl rfl⟩
    have h2 : ¬ k = 2 := of_decide_eq_false h2
    rw [ev3 h0 h1 h2]
    exact ⟨.inl rfl, end_plain rfl rfl rfl⟩
  · cases h
theorem g39 {l : List (Nat × Ct)} (g : Good P T l) : Good P T ((39, c39) :: l) := g.add (k39 g) (plainCt_mono _) (body_of Tryd.func39 (c := code Tryd.f39) rfl (by decide))
theorem k16 {l : List (Nat × Ct)} (g0 : Good P T l) : COk P 16 c39 := by
  have g := g35 (g15 g0)
  refine cok (C := tabC _) g.ok Tryd.func16 (c := code Tryd.f16) rfl fun fr args H out h hp => ?_
  simp only [c39, plainCt] at h
  split at h
  · rename_i k u lo hi
    cases h
    refine walk_plain rfl (Nat.le_of_ble_eq_true rfl) fun G hG => ?_
    refine Br.mk (fun h0 => ?_) (fun h0 => ?_)
    · have h0 : k = 0 := of_decide_eq_true h0
      rw [ev0 h0]
      exact ⟨.inl rfl, end_plain rfl rfl rfl⟩
    have h0 : ¬ k = 0 := of_decide_eq_false h0
    refine Br.mk (fun h1 => ?_) (fun h1 => ?_)
    · have h1 : k = 1 := of_decide_eq_true h1
      rw [ev1 h1]
      exact ⟨.inl rfl, end_plain rfl rfl rfl⟩
    have h1 : ¬ k = 1 := of_decide_eq_false h1
    refine Br.mk (fun h2 => ?_) (fun h2 => ?_)
    · have h2 : k = 2 := of_decide_eq_true h2
      rw [ev2 h2]
      exact ⟨.inl rfl, end_plain rfl rfl rfl⟩
    have h2 : ¬ k = 2 := of_decide_eq_false h2
    rw [ev3 h0 h1 h2]
    exact ⟨.inl rfl, end_plain rfl rfl rfl⟩
  · cases h
theorem g16 {l : List (Nat × Ct)} (g : Good P T l) : Good P T ((16, c39) :: l) := g.add (k16 g) (plainCt_mono _) (body_of Tryd.func16 (c := code Tryd.f16) rfl (by decide))
def c38 : Ct := plainCt fun
  | [.agg [.si .i64 k, .si .i64 u, .si .i64 lo, .si .i64 hi]] => some ⟨none, none, .sb (!evOk ⟨k, u, lo, hi⟩), []⟩
  | _ => none
theorem k38 {l : List (Nat × Ct)} (g0 : Good P T l) : COk P 38 c38 := by
  have g := g39 g0
  refine cok (C := tabC _) g.ok Tryd.func38 (c := code Tryd.f38) rfl fun fr args H out h hp => ?_
  simp only [c38, plainCt] at h
  split at h
  · cases h
    exact walk_plain rfl (Nat.le_of_ble_eq_true rfl) fun G hG => ⟨.inl rfl, end_plain rfl rfl rfl⟩
  · cases h
theorem g38 {l : List (Nat × Ct)} (g : Good P T l) : Good P T ((38, c38) :: l) := g.add (k38 g) (plainCt_mono _) (body_of Tryd.func38 (c := code Tryd.f38) rfl (by decide))
def evsH (n : Nat) (ev : Nat → Evn) : List (Nat × HB) := [(0, .ro 4 n fun i => evC (ev i))]
def fn38 : SV := .fn (.func 38) [] []
section
variable {n : Nat} {ev : Nat → Evn} {Rv : SV → List (Nat × HB) → Nat → Prop} {Rp : List PanicEntry → List (Nat × HB) → Nat → Prop}
end
end Go.X.Wr
end

section
set_option linter.unusedVariables false
set_option linter.unusedSimpArgs false
set_option linter.unusedSectionVars false
/- Wear: what is valid. -/
set_option linter.unusedVariables false
set_option linter.unusedSimpArgs false
set_option maxRecDepth 10000
set_option maxHeartbeats 4000000
namespace Go.X.Wr
open Go Go.Proofs Go.X

def evAt (get : Nat → List SV) (i : Nat) : Evn := match get i with
  | [.si .i64 k, .si .i64 u, .si .i64 lo, .si .i64 hi] => ⟨k, u, lo, hi⟩
  | _ => ⟨0, 0, 0, 0⟩
def Evs (n : Nat) (get : Nat → List SV) : Prop := ∀ i, i < n → get i = evC (evAt get i)
theorem evs_i (n : Nat) (ev : Nat → Evn) : Evs n (fun i => evC (ev i)) := fun i hi => rfl
def c52 : Ct := fun fr args H => match args with
  | [.sl id, .fn (.func 38) [] []] => (match sliceOf 4 H id with
    | some (n, get) => some ⟨some (n ≤ 8 ∧ Evs n get ∧ ∀ i, i < n → evOk (evAt get i) = true), none, .si .i64 (-1), []⟩
    | none => none)
  | _ => none
theorem c52_mono : CtMono c52 := by
  intro fr args H H' out hH h
  unfold c52 at h ⊢
  split at h
  · split at h
    · rename_i e1
      simp only [sliceOf_mono hH e1]
      exact h
    · cases h
  · cases h
theorem k52 {l : List (Nat × Ct)} (g0 : Good P T l) : COk P 52 c52 := by
  have g := g38 good0
  refine cok (C := tabC _) g.ok Tryd.func52 (c := code Tryd.f52) rfl fun fr args H out h hp => ?_
  unfold c52 at h
  split at h
  case h_2 => cases h
  rename_i id
  split at h
  case h_2 => cases h
  rename_i n get e1
  cases h
  obtain ⟨hn, hs, he⟩ : n ≤ 8 ∧ Evs n get ∧ ∀ i, i < n → evOk (evAt get i) = true := hp
  have hh : Hand H [(id, .ro 4 n fun i => evC (evAt get i))] := hand_one e1 (fun i => rfl) (fun i hi => (hs i hi).symm)
  refine ⟨[(id, .ro 4 n fun i => evC (evAt get i))], [.sl 0, fn38], evsH n (evAt get), 1, [], rfl, rfl, Nat.le_of_ble_eq_true rfl, hh, rfl, rfl, fun G hG => ?_⟩
  refine loop_okR (g.ok _ _ _) 1 (fun x : {i : Nat // i ≤ n} => ⟨[(0, ⟨[], .sl 0⟩), (1, ⟨[], fn38⟩), (7, ⟨[], .si .i64 (n : Int)⟩), (8, ⟨[], .si .i64 (x.1 : Int)⟩)], [], evsH n (evAt get), 1, []⟩) (fun x => n - x.1) hG ⟨0, Nat.zero_le _⟩ (fun j => j) ?_ ?_
  · refine ⟨?_, ?_, rfl, rfl, rfl, rfl, trivial⟩ <;> repeat' (first | exact trivial | exact rfl | exact List.Perm.refl _ | (intro i hi; exact ⟨rfl, rfl⟩) | (intro v m g h; exact h) | refine And.intro ?_ ?_)
  rintro ⟨i, hi⟩
  have hi : i ≤ n := hi
  refine Br.mk (fun h => ?_) (fun h => ?_)
  · have h : (i : Int) < (n : Int) := of_decide_eq_true h
    refine Chk.mk (show (0 : Int) ≤ (i : Int) ∧ (i : Int) < (n : Int) from ⟨by omega, h⟩) ?_
    refine Br.mk (fun h2 => ?_) (fun h2 => ?_)
    · have h2 : (!evOk (evAt get i)) = true := h2
      rw [he i (by omega)] at h2
      cases h2
    refine Chk.mk (show InK .i64 ((i : Int) + 1) from ⟨by omega, by omega⟩) ⟨⟨i + 1, by omega⟩, (fun j => j), ?_, by show n - (i + 1) < n - i; omega⟩
    refine ⟨?_, ?_, rfl, rfl, rfl, rfl, trivial⟩ <;> repeat' (first | exact trivial | exact rfl | exact List.Perm.refl _ | (intro i hi; exact ⟨rfl, rfl⟩) | (intro v m g h; exact h) | refine And.intro ?_ ?_)
  · exact ⟨.inl rfl, end_noid ⟨rfl, rfl⟩ rfl rfl (by repeat' (first | exact trivial | exact rfl | (intro i hi; exact ⟨rfl, rfl⟩) | refine And.intro ?_ ?_))⟩
theorem g52 {l : List (Nat × Ct)} (g : Good P T l) : Good P T ((52, c52) :: l) := g.add (k52 g) c52_mono (body_of Tryd.func52 (c := code Tryd.f52) rfl (by decide))
def c37 : Ct := fun fr args H => match args with
  | [.sl id, .fn (.func 38) [] []] => (match sliceOf 4 H id with
    | some (n, get) => some ⟨some (n ≤ 8 ∧ Evs n get ∧ ∀ i, i < n → evOk (evAt get i) = true), none, .sb false, []⟩
    | none => none)
  | _ => none
theorem c37_mono : CtMono c37 := by
  intro fr args H H' out hH h
  unfold c37 at h ⊢
  split at h
  · split at h
    · rename_i e1
      simp only [sliceOf_mono hH e1]
      exact h
    · cases h
  · cases h
theorem k37 {l : List (Nat × Ct)} (g0 : Good P T l) : COk P 37 c37 := by
  have g := g52 good0
  refine cok (C := tabC _) g.ok Tryd.func37 (c := code Tryd.f37) rfl fun fr args H out h hp => ?_
  unfold c37 at h
  split at h
  case h_2 => cases h
  rename_i id
  split at h
  case h_2 => cases h
  rename_i n get e1
  cases h
  obtain ⟨hn, hs, he⟩ : n ≤ 8 ∧ Evs n get ∧ ∀ i, i < n → evOk (evAt get i) = true := hp
  have hh : Hand H [(id, .ro 4 n fun i => evC (evAt get i))] := hand_one e1 (fun i => rfl) (fun i hi => (hs i hi).symm)
  refine ⟨[(id, .ro 4 n fun i => evC (evAt get i))], [.sl 0, fn38], evsH n (evAt get), 1, [], rfl, rfl, Nat.le_of_ble_eq_true rfl, hh, rfl, rfl, fun G hG => ?_⟩
  refine Chk.mk ⟨hn, evs_i _ _, he⟩ ?_
  exact ⟨.inl rfl, end_noid rfl rfl rfl (by repeat' (first | exact trivial | exact rfl | (intro i hi; exact ⟨rfl, rfl⟩) | refine And.intro ?_ ?_))⟩
theorem g37 {l : List (Nat × Ct)} (g : Good P T l) : Good P T ((37, c37) :: l) := g.add (k37 g) c37_mono (body_of Tryd.func37 (c := code Tryd.f37) rfl (by decide))
theorem isSp_b {a b lo hi : Int} (h : isSp a b lo hi = true) : lo ≤ a ∧ a ≤ b ∧ b ≤ hi := by
  simp only [isSp, Bool.and_eq_true, decide_eq_true_eq] at h
  omega
theorem wd_no {l1 l2 u1 u2 : Int} {n : Nat} {ev : Nat → Evn} (h : (!isSp l1 l2 0 300 || decide (20 < l2 - l1) || !isSp u1 u2 0 3 || decide (8 < (n : Int))) = true) : wdOk ⟨l1, l2, u1, u2, n, ev⟩ = false := by
  unfold wdOk
  dsimp only
  simp only [Bool.or_eq_true, Bool.not_eq_true', decide_eq_true_eq] at h
  rcases h with ((h | h) | h) | h
  · rw [h]; rfl
  · rw [show decide (l2 - l1 ≤ 20) = false from decide_eq_false (by omega)]; simp
  · rw [h]; simp
  · rw [show decide (n ≤ 8) = false from decide_eq_false (by omega)]; simp
theorem wd_yes {l1 l2 u1 u2 : Int} {n : Nat} {ev : Nat → Evn} (h : (!isSp l1 l2 0 300 || decide (20 < l2 - l1) || !isSp u1 u2 0 3 || decide (8 < (n : Int))) = false) : n ≤ 8 ∧ wdOk ⟨l1, l2, u1, u2, n, ev⟩ = (List.range n).all fun i => evOk (ev i) := by
  simp only [Bool.or_eq_false_iff, Bool.not_eq_false', decide_eq_false_iff_not] at h
  obtain ⟨⟨⟨h1, h2⟩, h3⟩, h4⟩ := h
  unfold wdOk
  dsimp only
  rw [h1, h3, decide_eq_true (show l2 - l1 ≤ 20 by omega), decide_eq_true (show n ≤ 8 by omega)]
  exact ⟨by omega, by simp⟩
theorem all_no {n i : Nat} {f : Nat → Bool} (hi : i < n) (h : f i = false) : (List.range n).all f = false := by
  rw [List.all_eq_false]
  exact ⟨i, List.mem_range.2 hi, by rw [h]; decide⟩
theorem all_yes {n : Nat} {f : Nat → Bool} (h : ∀ j, j < n → f j = true) : (List.range n).all f = true := by
  rw [List.all_eq_true]
  exact fun i hi => h i (List.mem_range.1 hi)
/-- The document's. -/
def c5 : Ct := fun fr args H => match args with
  | [.agg [.si .i64 l1, .si .i64 l2, .si .i64 u1, .si .i64 u2, .sl id]] => (match sliceOf 4 H id with
    | some (n, get) => some ⟨some (n ≤ 1000000 ∧ Evs n get), none, .sb (wdOk ⟨l1, l2, u1, u2, n, evAt get⟩), []⟩
    | none => none)
  | _ => none
theorem c5_mono : CtMono c5 := by
  intro fr args H H' out hH h
  unfold c5 at h ⊢
  split at h
  · split at h
    · rename_i e1
      simp only [sliceOf_mono hH e1]
      exact h
    · cases h
  · cases h
theorem k5 {l : List (Nat × Ct)} (g0 : Good P T l) : COk P 5 c5 := by
  have g := g15 (g16 good0)
  refine cok (C := tabC _) g.ok Tryd.func5 (c := code Tryd.f5) rfl fun fr args H out h hp => ?_
  unfold c5 at h
  split at h
  case h_2 => cases h
  rename_i l1 l2 u1 u2 id
  split at h
  case h_2 => cases h
  rename_i n get e1
  cases h
  obtain ⟨hn, hs⟩ : n ≤ 1000000 ∧ Evs n get := hp
  have hh : Hand H [(id, .ro 4 n fun i => evC (evAt get i))] := hand_one e1 (fun i => rfl) (fun i hi => (hs i hi).symm)
  refine ⟨[(id, .ro 4 n fun i => evC (evAt get i))], [.agg [.si .i64 l1, .si .i64 l2, .si .i64 u1, .si .i64 u2, .sl 0]], evsH n (evAt get), 1, [], rfl, rfl, Nat.le_of_ble_eq_true rfl, hh, rfl, rfl, fun G hG => ?_⟩
  refine Chk.mk (show (!isSp l1 l2 0 300) = false → InK .i64 (l2 - l1) from fun h => by
    have h : isSp l1 l2 0 300 = true := by simpa using h
    have := isSp_b h
    exact ⟨by omega, by omega⟩) ?_
  refine Br.mk (fun h => ?_) (fun h => ?_)
  · have h : (!isSp l1 l2 0 300 || decide (20 < l2 - l1) || !isSp u1 u2 0 3 || decide (8 < (n : Int))) = true := h
    rw [wd_no (ev := evAt get) h]
    exact ⟨.inl rfl, end_noid rfl rfl rfl (by repeat' (first | exact trivial | exact rfl | (intro i hi; exact ⟨rfl, rfl⟩) | refine And.intro ?_ ?_))⟩
  have h : (!isSp l1 l2 0 300 || decide (20 < l2 - l1) || !isSp u1 u2 0 3 || decide (8 < (n : Int))) = false := h
  obtain ⟨h8, hW⟩ := wd_yes (ev := evAt get) h
  rw [hW]
  refine loop_okR (g.ok _ _ _) 1 (fun x : {i : Nat // i ≤ n ∧ ∀ j, j < i → evOk (evAt get j) = true} => ⟨[(1, ⟨[], .sp 1 0⟩), (3, ⟨[], .si .i64 (x.1 : Int)⟩)], [], (1, .cells 33 [.si .i64 l1, .si .i64 l2, .si .i64 u1, .si .i64 u2, .sl 0]) :: evsH n (evAt get), 2, []⟩) (fun x => n - x.1) hG ⟨0, Nat.zero_le _, fun j hj => absurd hj (Nat.not_lt_zero _)⟩ (fun j => j) ?_ ?_
  · refine ⟨?_, ?_, rfl, rfl, rfl, rfl, trivial⟩ <;> repeat' (first | exact trivial | exact rfl | exact List.Perm.refl _ | (intro i hi; exact ⟨rfl, rfl⟩) | (intro v m g h; exact h) | refine And.intro ?_ ?_)
  rintro ⟨i, hi, hall⟩
  have hi : i ≤ n := hi
  refine Br.mk (fun h => ?_) (fun h => ?_)
  · have h : (i : Int) < (n : Int) := of_decide_eq_true h
    refine Chk.mk (show (0 : Int) ≤ (i : Int) ∧ (i : Int) < (n : Int) from ⟨by omega, h⟩) ?_
    refine Br.mk (fun h2 => ?_) (fun h2 => ?_)
    · have h2 : (!evOk (evAt get i)) = true := h2
      have h2 : evOk (evAt get i) = false := by simpa using h2
      rw [all_no (i := i) (n := n) (f := fun j => evOk (evAt get j)) (by omega) h2]
      exact ⟨.inl rfl, end_noid rfl rfl rfl (by repeat' (first | exact trivial | exact rfl | (intro i hi; exact ⟨rfl, rfl⟩) | refine And.intro ?_ ?_))⟩
    have h2 : (!evOk (evAt get i)) = false := h2
    have h2 : evOk (evAt get i) = true := by simpa using h2
    refine Chk.mk (show InK .i64 ((i : Int) + 1) from ⟨by omega, by omega⟩) ⟨⟨i + 1, by omega, fun j hj => by
      rcases Nat.lt_succ_iff_lt_or_eq.1 hj with hj | rfl
      · exact hall j hj
      · exact h2⟩, (fun j => j), ?_, by show n - (i + 1) < n - i; omega⟩
    refine ⟨?_, ?_, rfl, rfl, rfl, rfl, trivial⟩ <;> repeat' (first | exact trivial | exact rfl | exact List.Perm.refl _ | (intro i hi; exact ⟨rfl, rfl⟩) | (intro v m g h; exact h) | refine And.intro ?_ ?_)
  · have h : ¬ (i : Int) < (n : Int) := of_decide_eq_false h
    obtain rfl : i = n := by omega
    rw [all_yes (n := i) (f := fun j => evOk (evAt get j)) hall]
    exact ⟨.inl rfl, end_noid rfl rfl rfl (by repeat' (first | exact trivial | exact rfl | (intro i hi; exact ⟨rfl, rfl⟩) | refine And.intro ?_ ?_))⟩
theorem g5 {l : List (Nat × Ct)} (g : Good P T l) : Good P T ((5, c5) :: l) := g.add (k5 g) c5_mono (body_of Tryd.func5 (c := code Tryd.f5) rfl (by decide))
end Go.X.Wr
end

section
set_option linter.unusedVariables false
set_option linter.unusedSimpArgs false
set_option linter.unusedSectionVars false
/- Wear: open. -/
set_option linter.unusedVariables false
set_option linter.unusedSimpArgs false
set_option maxRecDepth 10000
set_option maxHeartbeats 4000000
namespace Go.X.Wr
open Go Go.Proofs Go.X

def wrS (w : Wd) (id : Nat) : SV := .agg [.si .i64 w.l1, .si .i64 w.l2, .si .i64 w.u1, .si .i64 w.u2, .sl id]
def inH (w : Wd) : List (Nat × HB) := [(0, .fam 2 gF), (1, .ro 4 w.n (evG w))]
def opH (w : Wd) (em : List (SV × SV)) : List (Nat × HB) := [(0, .fam 2 gF), (1, .ro 4 w.n (evG w)), (2, .vec 49 4 w.n (evG w)), (3, .mp em), (4, .cells 91 [.si .i64 w.l1, .si .i64 w.l2, .si .i64 w.u1, .si .i64 w.u2, .sl 2, .sm 3])]
theorem b18 : Body P 18 := body_of Tryd.func18 (c := code Tryd.f18) rfl (by decide)
section
variable {w : Wd} {Rv : SV → List (Nat × HB) → Nat → Prop} {Rp : List PanicEntry → List (Nat × HB) → Nat → Prop}
theorem s18 (hw : wdOk w = true) (hRv : Rv (.sp 4 0) (opH w []) 5) : CallS P 18 [wrS w 1, .si .i64 0, .sb true] (inH w) 2 Rv Rp := by
  have g := g30 (g36 (g37 good0))
  obtain ⟨h1, h2, h3, h4⟩ := wdOk_b hw
  refine callS_toE (ι := Unit) g.ok Tryd.func18 (c := code Tryd.f18) rfl (Nat.le_of_ble_eq_true rfl) (fun _ => .sp 4 0) (fun _ => opH w []) 5 (fun G hG => ?_) (fun _ => hRv)
  refine Chk.mk (fun _ => show InK .i64 (w.l2 - w.l1) from ⟨by omega, by omega⟩) ?_
  refine Chk.mk (fun _ => show w.n ≤ 8 ∧ Evs w.n (evG w) ∧ ∀ i, i < w.n → evOk (w.ev i) = true from ⟨h3, evs_i _ _, h4⟩) ?_
  have hq : (isSp w.l1 w.l2 0 300 && decide (w.l2 - w.l1 ≤ 20) && isSp w.u1 w.u2 0 3 && decide ((w.n : Int) ≤ 8) && !false) = true := by
    simp only [isSp, Bool.and_eq_true, decide_eq_true_eq]
    refine ⟨⟨⟨⟨⟨⟨?_, ?_⟩, ?_⟩, ?_⟩, ⟨?_, ?_⟩, ?_⟩, ?_⟩, rfl⟩ <;> omega
  refine Br.mk (fun h => ?_) (fun h => ?_)
  · exfalso
    have h : (!(isSp w.l1 w.l2 0 300 && decide (w.l2 - w.l1 ≤ 20) && isSp w.u1 w.u2 0 3 && decide ((w.n : Int) ≤ 8) && !false)) = true := h
    rw [hq] at h; cases h
  refine Br.mk (fun h => by cases h) (fun _ => ?_)
  refine Br.mk (fun h => by cases h) (fun _ => ?_)
  refine fb_makeVec w.n (g.ok _ _ _) cont_std rfl rfl rfl rfl rfl rfl rfl rfl rfl rfl (by decide) (by omega) rfl rfl ?_
  refine fb_copy 3 1 w.n w.n _ (evG w) (evG w) (g.ok _ _ _) cont_std rfl rfl rfl rfl rfl rfl rfl rfl rfl rfl rfl rfl rfl rfl rfl (by decide) (fun i hi => by rw [if_pos hi]) ?_
  refine fb_makeMap (g.ok _ _ _) cont_std rfl rfl rfl rfl rfl ?_
  refine ⟨(), (fun j => match j with | 2 => 3 | 3 => 4 | 4 => 5 | j => j), ?_, ?_, rfl, rfl, rfl, rfl⟩ <;> repeat' (first | exact trivial | exact rfl | exact List.Perm.refl _ | (intro i hi; exact ⟨rfl, rfl⟩) | (intro v m g h; exact h) | refine And.intro ?_ ?_)
end
end Go.X.Wr
end

section
set_option linter.unusedVariables false
set_option linter.unusedSimpArgs false
set_option linter.unusedSectionVars false
/- Wear: After. -/
set_option linter.unusedVariables false
set_option linter.unusedSimpArgs false
set_option maxRecDepth 10000
set_option maxHeartbeats 4000000
namespace Go.X.Wr
open Go Go.Proofs Go.X

theorem b6 : Body P 6 := body_of Tryd.func6 (c := code Tryd.f6) rfl (by decide)
def retA (w : Wd) (m : Nat) : SV := .tup [.agg (spC (if canB w then lgV w (plQ w) (m + 1) else (0, 0))), .si .i64 (if canB w then 0 else 10)]
section
variable {w : Wd} {Rv : SV → List (Nat × HB) → Nat → Prop} {Rp : List PanicEntry → List (Nat × HB) → Nat → Prop}
theorem s6 (hw : wdOk w = true) {m : Nat} (hm : m < w.n) (hRv : Rv (retA w m) (inH w) 2) : CallS P 6 [wrS w 1, .si .i64 (m : Int)] (inH w) 2 Rv Rp := by
  have g := g19 good0
  obtain ⟨h1, h2, h3, h4⟩ := wdOk_b hw
  refine callS_endR (ι := Unit) (κ := Empty) (fun _ => retA w m) (fun _ => inH w) 2 (fun _ => refP 10) (fun x => inH w) 2 (callS_execD g.ok answer_ok Tryd.func6 (c := code Tryd.f6) rfl (Nat.le_of_ble_eq_true rfl) (fun G hG => ?_)) (fun _ => hRv) (fun x => x.elim)
  refine fb_defer (g.ok _ _ _) rfl cont_std rfl rfl rfl rfl ?_
  have hin : (decide ((0 : Int) ≤ (m : Int)) && decide ((m : Int) ≤ (w.n : Int) - 1)) = true := by
    rw [decide_eq_true (by omega), decide_eq_true (by omega)]; rfl
  refine (show SemC _ _ _ _ from ?_)
  refine any_regionP fol ?_
  refine any_takeP 1 (g.ok _ _ _) rfl rfl rfl rfl rfl rfl rfl (by kernel_rfl) (by kernel_rfl) (by kernel_rfl) ?_
  refine any_takeP 2 (g.ok _ _ _) rfl rfl rfl rfl rfl rfl rfl (by kernel_rfl) (by kernel_rfl) (by kernel_rfl) ?_
  refine any_takeP 9 (g.ok _ _ _) rfl rfl rfl rfl rfl rfl rfl (by kernel_rfl) (by kernel_rfl) (by kernel_rfl) ?_
  refine any_takeP 10 (g.ok _ _ _) rfl rfl rfl rfl rfl rfl rfl (by kernel_rfl) (by kernel_rfl) (by kernel_rfl) (Chk.mk (show InK .i64 ((m : Int) + 1) from ⟨by omega, by omega⟩) ?_)
  refine any_stepP [0, 3] (g.ok _ _ _) (by kernel_rfl) (by decide) ⟨?_, ?_, trivial⟩
  · refine any_stepP [3] (g.ok _ _ _) (by kernel_rfl) (by decide) ⟨?_, trivial⟩
    refine any_stepP [4] (g.ok _ _ _) (by kernel_rfl) (by decide) ⟨?_, trivial⟩
    refine any_takeP 5 (g.ok _ _ _) rfl rfl rfl rfl rfl rfl rfl (by kernel_rfl) (by kernel_rfl) (by kernel_rfl) (Chk.mk (show InK .i64 ((w.n : Int) - 1) from ⟨by omega, by omega⟩) ?_)
    refine any_stepP [6] (g.ok _ _ _) (by kernel_rfl) (by decide) ⟨?_, trivial⟩
    refine any_stepP [7] (g.ok _ _ _) (by kernel_rfl) (by decide) ⟨?_, trivial⟩
    refine fb_call (g.ok _ _ _) cont_anyP rfl rfl rfl rfl ⟨b18, ?_⟩
    refine callS_at [wrS w 1, .si .i64 0, .sb true] (inH w) 2 (fun j => j) (by repeat' (first | exact trivial | exact rfl | exact hin | refine And.intro ?_ ?_)) rfl (by repeat' (first | exact trivial | exact rfl | exact List.Perm.refl _ | (intro i hi; exact ⟨rfl, rfl⟩) | (intro v m g h; exact h) | refine And.intro ?_ ?_)) rfl rfl ?_
    refine s18 hw ⟨rfl, (by repeat' (first | exact trivial | exact rfl | (intro i hi; exact ⟨rfl, rfl⟩) | refine And.intro ?_ ?_)), (by repeat' (first | exact trivial | exact rfl | (intro i hi; exact rfl) | refine And.intro ?_ ?_)), ?_⟩
    refine any_stepP [8] (g.ok _ _ _) (by kernel_rfl) (by decide) ⟨?_, trivial⟩
    refine fb_call (g.ok _ _ _) cont_anyP rfl rfl rfl rfl ⟨b20, ?_⟩
    refine callS_at [.sp 3 0] (bkS w (enM [])) 4 (fun j => match j with | 1 => 5 | 2 => 6 | 3 => 7 | j => j) (by repeat' (first | exact trivial | exact rfl | refine And.intro ?_ ?_)) rfl (by repeat' (first | exact trivial | exact rfl | exact List.Perm.refl _ | (intro i hi; exact ⟨rfl, rfl⟩) | (intro v m g h; exact h) | refine And.intro ?_ ?_)) rfl rfl ?_
    refine s20 hw (fun q lv h => by cases h) (fun hc es' hk' => ⟨rfl, (by repeat' (first | exact trivial | exact rfl | (intro i hi; exact ⟨rfl, rfl⟩) | refine And.intro ?_ ?_)), (by repeat' (first | exact trivial | exact rfl | (intro i hi; exact rfl) | refine And.intro ?_ ?_)), ?_⟩) (fun hc es' hk' => ⟨rfl, (by repeat' (first | exact trivial | exact rfl | (intro i hi; exact ⟨rfl, rfl⟩) | refine And.intro ?_ ?_)), (by repeat' (first | exact trivial | exact rfl | (intro i hi; exact rfl) | refine And.intro ?_ ?_)), ?_⟩)
    · have hA1 : (lgV w (plQ w) (m + 1)).1 = (if canB w then lgV w (plQ w) (m + 1) else (0, 0)).1 := by rw [if_pos hc]
      have hA2 : (lgV w (plQ w) (m + 1)).2 = (if canB w then lgV w (plQ w) (m + 1) else (0, 0)).2 := by rw [if_pos hc]
      have hA3 : (0 : Int) = (if canB w then 0 else 10) := by rw [if_pos hc]
      rcases (show m = 0 ∨ m = 1 ∨ m = 2 ∨ m = 3 ∨ m = 4 ∨ m = 5 ∨ m = 6 ∨ m = 7 by omega) with rfl | rfl | rfl | rfl | rfl | rfl | rfl | rfl
      all_goals
        refine any_stepP [11] (g.ok _ _ _) (by kernel_rfl) (by decide) ⟨?_, trivial⟩
        refine Chk.mk ⟨by decide, by decide⟩ ?_
        refine any_stepP [12] (g.ok _ _ _) (by kernel_rfl) (by decide) ⟨?_, trivial⟩
        refine any_stepP [13] (g.ok _ _ _) (by kernel_rfl) (by decide) ⟨?_, trivial⟩
        refine any_stepP [14] (g.ok _ _ _) (by kernel_rfl) (by decide) ⟨?_, trivial⟩
        refine any_doneP (by kernel_rfl) ?_
        refine ⟨(), (fun j => j), ?_, ?_, rfl, rfl, rfl, rfl⟩ <;> repeat' (first | exact hA1 | exact hA2 | exact hA3 | exact trivial | exact rfl | exact List.Perm.refl _ | (intro i hi; exact ⟨rfl, rfl⟩) | (intro v m g h; exact h) | refine And.intro ?_ ?_)
    · have hA1 : (0 : Int) = (if canB w then lgV w (plQ w) (m + 1) else (0, 0)).1 := by rw [hc]; rfl
      have hA2 : (0 : Int) = (if canB w then lgV w (plQ w) (m + 1) else (0, 0)).2 := by rw [hc]; rfl
      have hA3 : (10 : Int) = (if canB w then 0 else 10) := by rw [hc]; rfl
      refine ⟨(), (fun j => j), ?_, ?_, rfl, rfl, rfl, rfl⟩ <;> repeat' (first | exact hA1 | exact hA2 | exact hA3 | exact trivial | exact rfl | exact List.Perm.refl _ | (intro i hi; exact ⟨rfl, rfl⟩) | (intro v m g h; exact h) | refine And.intro ?_ ?_)
  · refine any_stepP [0, 4] (g.ok _ _ _) (by kernel_rfl) (by decide) ⟨?_, ?_, trivial⟩
    · refine any_stepP [4] (g.ok _ _ _) (by kernel_rfl) (by decide) ⟨?_, trivial⟩
      refine any_takeP 5 (g.ok _ _ _) rfl rfl rfl rfl rfl rfl rfl (by kernel_rfl) (by kernel_rfl) (by kernel_rfl) (Chk.mk (show InK .i64 ((w.n : Int) - 1) from ⟨by omega, by omega⟩) ?_)
      refine any_stepP [6] (g.ok _ _ _) (by kernel_rfl) (by decide) ⟨?_, trivial⟩
      refine any_stepP [7] (g.ok _ _ _) (by kernel_rfl) (by decide) ⟨?_, trivial⟩
      refine fb_call (g.ok _ _ _) cont_anyP rfl rfl rfl rfl ⟨b18, ?_⟩
      refine callS_at [wrS w 1, .si .i64 0, .sb true] (inH w) 2 (fun j => j) (by repeat' (first | exact trivial | exact rfl | exact hin | refine And.intro ?_ ?_)) rfl (by repeat' (first | exact trivial | exact rfl | exact List.Perm.refl _ | (intro i hi; exact ⟨rfl, rfl⟩) | (intro v m g h; exact h) | refine And.intro ?_ ?_)) rfl rfl ?_
      refine s18 hw ⟨rfl, (by repeat' (first | exact trivial | exact rfl | (intro i hi; exact ⟨rfl, rfl⟩) | refine And.intro ?_ ?_)), (by repeat' (first | exact trivial | exact rfl | (intro i hi; exact rfl) | refine And.intro ?_ ?_)), ?_⟩
      refine any_stepP [8] (g.ok _ _ _) (by kernel_rfl) (by decide) ⟨?_, trivial⟩
      refine fb_call (g.ok _ _ _) cont_anyP rfl rfl rfl rfl ⟨b20, ?_⟩
      refine callS_at [.sp 3 0] (bkS w (enM [])) 4 (fun j => match j with | 1 => 5 | 2 => 6 | 3 => 7 | j => j) (by repeat' (first | exact trivial | exact rfl | refine And.intro ?_ ?_)) rfl (by repeat' (first | exact trivial | exact rfl | exact List.Perm.refl _ | (intro i hi; exact ⟨rfl, rfl⟩) | (intro v m g h; exact h) | refine And.intro ?_ ?_)) rfl rfl ?_
      refine s20 hw (fun q lv h => by cases h) (fun hc es' hk' => ⟨rfl, (by repeat' (first | exact trivial | exact rfl | (intro i hi; exact ⟨rfl, rfl⟩) | refine And.intro ?_ ?_)), (by repeat' (first | exact trivial | exact rfl | (intro i hi; exact rfl) | refine And.intro ?_ ?_)), ?_⟩) (fun hc es' hk' => ⟨rfl, (by repeat' (first | exact trivial | exact rfl | (intro i hi; exact ⟨rfl, rfl⟩) | refine And.intro ?_ ?_)), (by repeat' (first | exact trivial | exact rfl | (intro i hi; exact rfl) | refine And.intro ?_ ?_)), ?_⟩)
      · have hA1 : (lgV w (plQ w) (m + 1)).1 = (if canB w then lgV w (plQ w) (m + 1) else (0, 0)).1 := by rw [if_pos hc]
        have hA2 : (lgV w (plQ w) (m + 1)).2 = (if canB w then lgV w (plQ w) (m + 1) else (0, 0)).2 := by rw [if_pos hc]
        have hA3 : (0 : Int) = (if canB w then 0 else 10) := by rw [if_pos hc]
        rcases (show m = 0 ∨ m = 1 ∨ m = 2 ∨ m = 3 ∨ m = 4 ∨ m = 5 ∨ m = 6 ∨ m = 7 by omega) with rfl | rfl | rfl | rfl | rfl | rfl | rfl | rfl
        all_goals
          refine any_stepP [11] (g.ok _ _ _) (by kernel_rfl) (by decide) ⟨?_, trivial⟩
          refine Chk.mk ⟨by decide, by decide⟩ ?_
          refine any_stepP [12] (g.ok _ _ _) (by kernel_rfl) (by decide) ⟨?_, trivial⟩
          refine any_stepP [13] (g.ok _ _ _) (by kernel_rfl) (by decide) ⟨?_, trivial⟩
          refine any_stepP [14] (g.ok _ _ _) (by kernel_rfl) (by decide) ⟨?_, trivial⟩
          refine any_doneP (by kernel_rfl) ?_
          refine ⟨(), (fun j => j), ?_, ?_, rfl, rfl, rfl, rfl⟩ <;> repeat' (first | exact hA1 | exact hA2 | exact hA3 | exact trivial | exact rfl | exact List.Perm.refl _ | (intro i hi; exact ⟨rfl, rfl⟩) | (intro v m g h; exact h) | refine And.intro ?_ ?_)
      · have hA1 : (0 : Int) = (if canB w then lgV w (plQ w) (m + 1) else (0, 0)).1 := by rw [hc]; rfl
        have hA2 : (0 : Int) = (if canB w then lgV w (plQ w) (m + 1) else (0, 0)).2 := by rw [hc]; rfl
        have hA3 : (10 : Int) = (if canB w then 0 else 10) := by rw [hc]; rfl
        refine ⟨(), (fun j => j), ?_, ?_, rfl, rfl, rfl, rfl⟩ <;> repeat' (first | exact hA1 | exact hA2 | exact hA3 | exact trivial | exact rfl | exact List.Perm.refl _ | (intro i hi; exact ⟨rfl, rfl⟩) | (intro v m g h; exact h) | refine And.intro ?_ ?_)
    · refine any_takeP 5 (g.ok _ _ _) rfl rfl rfl rfl rfl rfl rfl (by kernel_rfl) (by kernel_rfl) (by kernel_rfl) (Chk.mk (show InK .i64 ((w.n : Int) - 1) from ⟨by omega, by omega⟩) ?_)
      refine any_stepP [0, 6] (g.ok _ _ _) (by kernel_rfl) (by decide) ⟨?_, ?_, trivial⟩
      · refine any_stepP [6] (g.ok _ _ _) (by kernel_rfl) (by decide) ⟨?_, trivial⟩
        refine any_stepP [7] (g.ok _ _ _) (by kernel_rfl) (by decide) ⟨?_, trivial⟩
        refine fb_call (g.ok _ _ _) cont_anyP rfl rfl rfl rfl ⟨b18, ?_⟩
        refine callS_at [wrS w 1, .si .i64 0, .sb true] (inH w) 2 (fun j => j) (by repeat' (first | exact trivial | exact rfl | exact hin | refine And.intro ?_ ?_)) rfl (by repeat' (first | exact trivial | exact rfl | exact List.Perm.refl _ | (intro i hi; exact ⟨rfl, rfl⟩) | (intro v m g h; exact h) | refine And.intro ?_ ?_)) rfl rfl ?_
        refine s18 hw ⟨rfl, (by repeat' (first | exact trivial | exact rfl | (intro i hi; exact ⟨rfl, rfl⟩) | refine And.intro ?_ ?_)), (by repeat' (first | exact trivial | exact rfl | (intro i hi; exact rfl) | refine And.intro ?_ ?_)), ?_⟩
        refine any_stepP [8] (g.ok _ _ _) (by kernel_rfl) (by decide) ⟨?_, trivial⟩
        refine fb_call (g.ok _ _ _) cont_anyP rfl rfl rfl rfl ⟨b20, ?_⟩
        refine callS_at [.sp 3 0] (bkS w (enM [])) 4 (fun j => match j with | 1 => 5 | 2 => 6 | 3 => 7 | j => j) (by repeat' (first | exact trivial | exact rfl | refine And.intro ?_ ?_)) rfl (by repeat' (first | exact trivial | exact rfl | exact List.Perm.refl _ | (intro i hi; exact ⟨rfl, rfl⟩) | (intro v m g h; exact h) | refine And.intro ?_ ?_)) rfl rfl ?_
        refine s20 hw (fun q lv h => by cases h) (fun hc es' hk' => ⟨rfl, (by repeat' (first | exact trivial | exact rfl | (intro i hi; exact ⟨rfl, rfl⟩) | refine And.intro ?_ ?_)), (by repeat' (first | exact trivial | exact rfl | (intro i hi; exact rfl) | refine And.intro ?_ ?_)), ?_⟩) (fun hc es' hk' => ⟨rfl, (by repeat' (first | exact trivial | exact rfl | (intro i hi; exact ⟨rfl, rfl⟩) | refine And.intro ?_ ?_)), (by repeat' (first | exact trivial | exact rfl | (intro i hi; exact rfl) | refine And.intro ?_ ?_)), ?_⟩)
        · have hA1 : (lgV w (plQ w) (m + 1)).1 = (if canB w then lgV w (plQ w) (m + 1) else (0, 0)).1 := by rw [if_pos hc]
          have hA2 : (lgV w (plQ w) (m + 1)).2 = (if canB w then lgV w (plQ w) (m + 1) else (0, 0)).2 := by rw [if_pos hc]
          have hA3 : (0 : Int) = (if canB w then 0 else 10) := by rw [if_pos hc]
          rcases (show m = 0 ∨ m = 1 ∨ m = 2 ∨ m = 3 ∨ m = 4 ∨ m = 5 ∨ m = 6 ∨ m = 7 by omega) with rfl | rfl | rfl | rfl | rfl | rfl | rfl | rfl
          all_goals
            refine any_stepP [11] (g.ok _ _ _) (by kernel_rfl) (by decide) ⟨?_, trivial⟩
            refine Chk.mk ⟨by decide, by decide⟩ ?_
            refine any_stepP [12] (g.ok _ _ _) (by kernel_rfl) (by decide) ⟨?_, trivial⟩
            refine any_stepP [13] (g.ok _ _ _) (by kernel_rfl) (by decide) ⟨?_, trivial⟩
            refine any_stepP [14] (g.ok _ _ _) (by kernel_rfl) (by decide) ⟨?_, trivial⟩
            refine any_doneP (by kernel_rfl) ?_
            refine ⟨(), (fun j => j), ?_, ?_, rfl, rfl, rfl, rfl⟩ <;> repeat' (first | exact hA1 | exact hA2 | exact hA3 | exact trivial | exact rfl | exact List.Perm.refl _ | (intro i hi; exact ⟨rfl, rfl⟩) | (intro v m g h; exact h) | refine And.intro ?_ ?_)
        · have hA1 : (0 : Int) = (if canB w then lgV w (plQ w) (m + 1) else (0, 0)).1 := by rw [hc]; rfl
          have hA2 : (0 : Int) = (if canB w then lgV w (plQ w) (m + 1) else (0, 0)).2 := by rw [hc]; rfl
          have hA3 : (10 : Int) = (if canB w then 0 else 10) := by rw [hc]; rfl
          refine ⟨(), (fun j => j), ?_, ?_, rfl, rfl, rfl, rfl⟩ <;> repeat' (first | exact hA1 | exact hA2 | exact hA3 | exact trivial | exact rfl | exact List.Perm.refl _ | (intro i hi; exact ⟨rfl, rfl⟩) | (intro v m g h; exact h) | refine And.intro ?_ ?_)
      · refine any_stepP [0] (g.ok _ _ _) (by kernel_rfl) (by decide) ⟨?_, trivial⟩
        refine any_stepP [7] (g.ok _ _ _) (by kernel_rfl) (by decide) ⟨?_, trivial⟩
        refine fb_call (g.ok _ _ _) cont_anyP rfl rfl rfl rfl ⟨b18, ?_⟩
        refine callS_at [wrS w 1, .si .i64 0, .sb true] (inH w) 2 (fun j => j) (by repeat' (first | exact trivial | exact rfl | exact hin | refine And.intro ?_ ?_)) rfl (by repeat' (first | exact trivial | exact rfl | exact List.Perm.refl _ | (intro i hi; exact ⟨rfl, rfl⟩) | (intro v m g h; exact h) | refine And.intro ?_ ?_)) rfl rfl ?_
        refine s18 hw ⟨rfl, (by repeat' (first | exact trivial | exact rfl | (intro i hi; exact ⟨rfl, rfl⟩) | refine And.intro ?_ ?_)), (by repeat' (first | exact trivial | exact rfl | (intro i hi; exact rfl) | refine And.intro ?_ ?_)), ?_⟩
        refine any_stepP [8] (g.ok _ _ _) (by kernel_rfl) (by decide) ⟨?_, trivial⟩
        refine fb_call (g.ok _ _ _) cont_anyP rfl rfl rfl rfl ⟨b20, ?_⟩
        refine callS_at [.sp 3 0] (bkS w (enM [])) 4 (fun j => match j with | 1 => 5 | 2 => 6 | 3 => 7 | j => j) (by repeat' (first | exact trivial | exact rfl | refine And.intro ?_ ?_)) rfl (by repeat' (first | exact trivial | exact rfl | exact List.Perm.refl _ | (intro i hi; exact ⟨rfl, rfl⟩) | (intro v m g h; exact h) | refine And.intro ?_ ?_)) rfl rfl ?_
        refine s20 hw (fun q lv h => by cases h) (fun hc es' hk' => ⟨rfl, (by repeat' (first | exact trivial | exact rfl | (intro i hi; exact ⟨rfl, rfl⟩) | refine And.intro ?_ ?_)), (by repeat' (first | exact trivial | exact rfl | (intro i hi; exact rfl) | refine And.intro ?_ ?_)), ?_⟩) (fun hc es' hk' => ⟨rfl, (by repeat' (first | exact trivial | exact rfl | (intro i hi; exact ⟨rfl, rfl⟩) | refine And.intro ?_ ?_)), (by repeat' (first | exact trivial | exact rfl | (intro i hi; exact rfl) | refine And.intro ?_ ?_)), ?_⟩)
        · have hA1 : (lgV w (plQ w) (m + 1)).1 = (if canB w then lgV w (plQ w) (m + 1) else (0, 0)).1 := by rw [if_pos hc]
          have hA2 : (lgV w (plQ w) (m + 1)).2 = (if canB w then lgV w (plQ w) (m + 1) else (0, 0)).2 := by rw [if_pos hc]
          have hA3 : (0 : Int) = (if canB w then 0 else 10) := by rw [if_pos hc]
          rcases (show m = 0 ∨ m = 1 ∨ m = 2 ∨ m = 3 ∨ m = 4 ∨ m = 5 ∨ m = 6 ∨ m = 7 by omega) with rfl | rfl | rfl | rfl | rfl | rfl | rfl | rfl
          all_goals
            refine any_stepP [11] (g.ok _ _ _) (by kernel_rfl) (by decide) ⟨?_, trivial⟩
            refine Chk.mk ⟨by decide, by decide⟩ ?_
            refine any_stepP [12] (g.ok _ _ _) (by kernel_rfl) (by decide) ⟨?_, trivial⟩
            refine any_stepP [13] (g.ok _ _ _) (by kernel_rfl) (by decide) ⟨?_, trivial⟩
            refine any_stepP [14] (g.ok _ _ _) (by kernel_rfl) (by decide) ⟨?_, trivial⟩
            refine any_doneP (by kernel_rfl) ?_
            refine ⟨(), (fun j => j), ?_, ?_, rfl, rfl, rfl, rfl⟩ <;> repeat' (first | exact hA1 | exact hA2 | exact hA3 | exact trivial | exact rfl | exact List.Perm.refl _ | (intro i hi; exact ⟨rfl, rfl⟩) | (intro v m g h; exact h) | refine And.intro ?_ ?_)
        · have hA1 : (0 : Int) = (if canB w then lgV w (plQ w) (m + 1) else (0, 0)).1 := by rw [hc]; rfl
          have hA2 : (0 : Int) = (if canB w then lgV w (plQ w) (m + 1) else (0, 0)).2 := by rw [hc]; rfl
          have hA3 : (10 : Int) = (if canB w then 0 else 10) := by rw [hc]; rfl
          refine ⟨(), (fun j => j), ?_, ?_, rfl, rfl, rfl, rfl⟩ <;> repeat' (first | exact hA1 | exact hA2 | exact hA3 | exact trivial | exact rfl | exact List.Perm.refl _ | (intro i hi; exact ⟨rfl, rfl⟩) | (intro v m g h; exact h) | refine And.intro ?_ ?_)
end
end Go.X.Wr
end

section
set_option linter.unusedVariables false
set_option linter.unusedSimpArgs false
set_option linter.unusedSectionVars false
/- Wear: Until. -/
set_option linter.unusedVariables false
set_option linter.unusedSimpArgs false
set_option maxRecDepth 10000
set_option maxHeartbeats 4000000
namespace Go.X.Wr
open Go Go.Proofs Go.X

theorem b12 : Body P 12 := body_of Tryd.func12 (c := code Tryd.f12) rfl (by decide)
def lftV (w : Wd) : Int := (lgV w (plQ w) w.n).1
def retU (w : Wd) (lim : Int) : SV := .tup [.si .i64 (if w.u2 = 0 then 100 else min 100 ((lftV w - lim).tdiv w.u2)), .si .i64 0]
theorem tdiv_b {a b : Int} (ha : 0 ≤ a) (hb : 0 ≤ b) (hm : a ≤ 3000000) : (-9223372036854775808 ≤ a.tdiv b ∧ a.tdiv b ≤ 9223372036854775807) := by
  have h1 := Int.tdiv_nonneg ha hb
  have h2 : a.tdiv b ≤ a := Int.tdiv_le_self b ha
  omega
theorem lgV_n (w : Wd) (q : Qn) : lgV w q w.n = fwV w q w.n := by
  unfold lgV
  rw [if_pos (Nat.le_refl _), Nat.sub_self]; rfl
section
variable {w : Wd} {Rv : SV → List (Nat × HB) → Nat → Prop} {Rp : List PanicEntry → List (Nat × HB) → Nat → Prop}
theorem s12 (hw : wdOk w = true) (hc : canB w = true) {lim : Int} (hl1 : -1000 ≤ lim) (hl2 : lim ≤ 1000) (hle : lim ≤ lftV w) (hRv : Rv (retU w lim) (inH w) 2) : CallS P 12 [wrS w 1, .si .i64 lim] (inH w) 2 Rv Rp := by
  have g := g28 (g30 good0)
  obtain ⟨h1, h2, h3, h4⟩ := wdOk_b hw
  have hlb : -1200000 ≤ lftV w ∧ lftV w ≤ 1200000 := by
    have := (fwV_c hw (plQ_kc hw) w.n (Nat.le_refl _)).1
    unfold lftV; rw [lgV_n]; omega
  refine callS_endR (ι := Unit) (κ := Empty) (fun _ => retU w lim) (fun _ => inH w) 2 (fun _ => refP 10) (fun x => inH w) 2 (callS_execD g.ok answer_ok Tryd.func12 (c := code Tryd.f12) rfl (Nat.le_of_ble_eq_true rfl) (fun G hG => ?_)) (fun _ => hRv) (fun x => x.elim)
  refine fb_defer (g.ok _ _ _) rfl cont_std rfl rfl rfl rfl ?_
  have hin : (decide ((-1000 : Int) ≤ lim) && decide (lim ≤ 1000)) = true := by
    rw [decide_eq_true hl1, decide_eq_true hl2]; rfl
  refine (show SemC _ _ _ _ from ?_)
  refine any_region fol ?_
  refine any_take 1 (g.ok _ _ _) rfl rfl rfl rfl rfl rfl rfl (by kernel_rfl) (by kernel_rfl) (by kernel_rfl) ?_
  refine any_step [0, 2] (g.ok _ _ _) (by kernel_rfl) (by decide) ⟨?_, ?_, trivial⟩
  · refine any_step [2] (g.ok _ _ _) (by kernel_rfl) (by decide) ⟨?_, trivial⟩
    refine any_step [3] (g.ok _ _ _) (by kernel_rfl) (by decide) ⟨?_, trivial⟩
    refine fb_call (g.ok _ _ _) cont_any rfl rfl rfl rfl ⟨b18, ?_⟩
    refine callS_at [wrS w 1, .si .i64 0, .sb true] (inH w) 2 (fun j => j) (by repeat' (first | exact trivial | exact rfl | exact hin | refine And.intro ?_ ?_)) rfl (by repeat' (first | exact trivial | exact rfl | exact List.Perm.refl _ | (intro i hi; exact ⟨rfl, rfl⟩) | (intro v m g h; exact h) | refine And.intro ?_ ?_)) rfl rfl ?_
    refine s18 hw ⟨rfl, (by repeat' (first | exact trivial | exact rfl | (intro i hi; exact ⟨rfl, rfl⟩) | refine And.intro ?_ ?_)), (by repeat' (first | exact trivial | exact rfl | (intro i hi; exact rfl) | refine And.intro ?_ ?_)), ?_⟩
    refine any_step [4] (g.ok _ _ _) (by kernel_rfl) (by decide) ⟨?_, trivial⟩
    refine fb_call (g.ok _ _ _) cont_any rfl rfl rfl rfl ⟨b29, ?_⟩
    refine callS_at [.sp 3 0] (bkS w (enM [])) 4 (fun j => match j with | 1 => 4 | 2 => 5 | 3 => 6 | j => j) (by repeat' (first | exact trivial | exact rfl | refine And.intro ?_ ?_)) rfl (by repeat' (first | exact trivial | exact rfl | exact List.Perm.refl _ | (intro i hi; exact ⟨rfl, rfl⟩) | (intro v m g h; exact h) | refine And.intro ?_ ?_)) rfl rfl ?_
    refine s29 hw (fun q lv h => by cases h) (fun hc es' hk' => ⟨rfl, (by repeat' (first | exact trivial | exact rfl | (intro i hi; exact ⟨rfl, rfl⟩) | refine And.intro ?_ ?_)), (by repeat' (first | exact trivial | exact rfl | (intro i hi; exact rfl) | refine And.intro ?_ ?_)), ?_⟩) (fun hc' _ _ => by rw [hc] at hc'; cases hc')
    refine any_take 5 (g.ok _ _ _) rfl rfl rfl rfl rfl rfl rfl (by kernel_rfl) (by kernel_rfl) (by kernel_rfl) ?_
    refine any_take 6 (g.ok _ _ _) rfl rfl rfl rfl rfl rfl rfl (by kernel_rfl) (by kernel_rfl) (by kernel_rfl) ?_
    refine any_step [7] (g.ok _ _ _) (by kernel_rfl) (by decide) ⟨?_, trivial⟩
    refine any_done (by kernel_rfl) ?_
    refine Br.mk (fun h => ?_) (fun _ => ?_)
    · exfalso
      have h : (!decide (lim ≤ lftV w)) = true := h
      rw [decide_eq_true hle] at h; cases h
    refine Br.mk (fun h => ?_) (fun h => ?_)
    · have h : w.u2 = 0 := of_decide_eq_true h
      have hA1 : (100 : Int) = (if w.u2 = 0 then 100 else min 100 ((lftV w - lim).tdiv w.u2)) := by rw [if_pos h]
      refine ⟨(), (fun j => j), ?_, ?_, rfl, rfl, rfl, rfl⟩ <;> repeat' (first | exact hA1 | exact trivial | exact rfl | exact List.Perm.refl _ | (intro i hi; exact ⟨rfl, rfl⟩) | (intro v m g h; exact h) | refine And.intro ?_ ?_)
    have h : ¬ w.u2 = 0 := of_decide_eq_false h
    refine Chk.mk (show InK .i64 (lftV w - lim) from ⟨by omega, by omega⟩) ?_
    refine Chk.mk ⟨h, (show InK .i64 ((lftV w - lim).tdiv w.u2) from tdiv_b (by omega) (by omega) (by omega))⟩ ?_
    have hA1 : min 100 ((lftV w - lim).tdiv w.u2) = (if w.u2 = 0 then 100 else min 100 ((lftV w - lim).tdiv w.u2)) := by rw [if_neg h]
    refine ⟨(), (fun j => j), ?_, ?_, rfl, rfl, rfl, rfl⟩ <;> repeat' (first | exact hA1 | exact trivial | exact rfl | exact List.Perm.refl _ | (intro i hi; exact ⟨rfl, rfl⟩) | (intro v m g h; exact h) | refine And.intro ?_ ?_)
  · refine any_step [0] (g.ok _ _ _) (by kernel_rfl) (by decide) ⟨?_, trivial⟩
    refine any_step [3] (g.ok _ _ _) (by kernel_rfl) (by decide) ⟨?_, trivial⟩
    refine fb_call (g.ok _ _ _) cont_any rfl rfl rfl rfl ⟨b18, ?_⟩
    refine callS_at [wrS w 1, .si .i64 0, .sb true] (inH w) 2 (fun j => j) (by repeat' (first | exact trivial | exact rfl | exact hin | refine And.intro ?_ ?_)) rfl (by repeat' (first | exact trivial | exact rfl | exact List.Perm.refl _ | (intro i hi; exact ⟨rfl, rfl⟩) | (intro v m g h; exact h) | refine And.intro ?_ ?_)) rfl rfl ?_
    refine s18 hw ⟨rfl, (by repeat' (first | exact trivial | exact rfl | (intro i hi; exact ⟨rfl, rfl⟩) | refine And.intro ?_ ?_)), (by repeat' (first | exact trivial | exact rfl | (intro i hi; exact rfl) | refine And.intro ?_ ?_)), ?_⟩
    refine any_step [4] (g.ok _ _ _) (by kernel_rfl) (by decide) ⟨?_, trivial⟩
    refine fb_call (g.ok _ _ _) cont_any rfl rfl rfl rfl ⟨b29, ?_⟩
    refine callS_at [.sp 3 0] (bkS w (enM [])) 4 (fun j => match j with | 1 => 4 | 2 => 5 | 3 => 6 | j => j) (by repeat' (first | exact trivial | exact rfl | refine And.intro ?_ ?_)) rfl (by repeat' (first | exact trivial | exact rfl | exact List.Perm.refl _ | (intro i hi; exact ⟨rfl, rfl⟩) | (intro v m g h; exact h) | refine And.intro ?_ ?_)) rfl rfl ?_
    refine s29 hw (fun q lv h => by cases h) (fun hc es' hk' => ⟨rfl, (by repeat' (first | exact trivial | exact rfl | (intro i hi; exact ⟨rfl, rfl⟩) | refine And.intro ?_ ?_)), (by repeat' (first | exact trivial | exact rfl | (intro i hi; exact rfl) | refine And.intro ?_ ?_)), ?_⟩) (fun hc' _ _ => by rw [hc] at hc'; cases hc')
    refine any_take 5 (g.ok _ _ _) rfl rfl rfl rfl rfl rfl rfl (by kernel_rfl) (by kernel_rfl) (by kernel_rfl) ?_
    refine any_take 6 (g.ok _ _ _) rfl rfl rfl rfl rfl rfl rfl (by kernel_rfl) (by kernel_rfl) (by kernel_rfl) ?_
    refine any_step [7] (g.ok _ _ _) (by kernel_rfl) (by decide) ⟨?_, trivial⟩
    refine any_done (by kernel_rfl) ?_
    refine Br.mk (fun h => ?_) (fun _ => ?_)
    · exfalso
      have h : (!decide (lim ≤ lftV w)) = true := h
      rw [decide_eq_true hle] at h; cases h
    refine Br.mk (fun h => ?_) (fun h => ?_)
    · have h : w.u2 = 0 := of_decide_eq_true h
      have hA1 : (100 : Int) = (if w.u2 = 0 then 100 else min 100 ((lftV w - lim).tdiv w.u2)) := by rw [if_pos h]
      refine ⟨(), (fun j => j), ?_, ?_, rfl, rfl, rfl, rfl⟩ <;> repeat' (first | exact hA1 | exact trivial | exact rfl | exact List.Perm.refl _ | (intro i hi; exact ⟨rfl, rfl⟩) | (intro v m g h; exact h) | refine And.intro ?_ ?_)
    have h : ¬ w.u2 = 0 := of_decide_eq_false h
    refine Chk.mk (show InK .i64 (lftV w - lim) from ⟨by omega, by omega⟩) ?_
    refine Chk.mk ⟨h, (show InK .i64 ((lftV w - lim).tdiv w.u2) from tdiv_b (by omega) (by omega) (by omega))⟩ ?_
    have hA1 : min 100 ((lftV w - lim).tdiv w.u2) = (if w.u2 = 0 then 100 else min 100 ((lftV w - lim).tdiv w.u2)) := by rw [if_neg h]
    refine ⟨(), (fun j => j), ?_, ?_, rfl, rfl, rfl, rfl⟩ <;> repeat' (first | exact hA1 | exact trivial | exact rfl | exact List.Perm.refl _ | (intro i hi; exact ⟨rfl, rfl⟩) | (intro v m g h; exact h) | refine And.intro ?_ ?_)
end
end Go.X.Wr
end

section
set_option linter.unusedVariables false
set_option linter.unusedSimpArgs false
set_option linter.unusedSectionVars false
/- Calls, from the code as it is. -/
set_option linter.unusedVariables false
set_option linter.unusedSimpArgs false
set_option maxRecDepth 10000
namespace Go.X
open Go
section
variable {X : Cx} {ρ : Env} {w : World}
theorem calls_of_sem (hX : X.Ok) (hr : X.r = none) {f : Nat} {fn : Func} {c : Code} (hf : X.P.funcs[f]? = some fn) (hb : fn.body = some c) (hnt : fn.ntmps = X.nt)
    {args : List SV} {vals : List Value} {H : List (Nat × HB)} {nx : Nat} (hd : denL ρ args = some vals) (hlen : args.length ≤ X.nt) (hH : HM ρ (findH H) w)
    (hG : X.G = ⟨w, Own ρ (findH H), ρ, Fz (findH H)⟩) (hnx : ∀ j, nx ≤ j → ρ j = none) {Rv : SV → St → Prop} {Rp : List PanicEntry → St → Prop}
    (h : SemC X c (start args H nx) (Fin X fn.results.toList Rv Rp)) : Calls X.P f vals.toArray w (CEnd X Rv Rp) := by
  refine (callsIn_wide (n := 0)).1 ?_
  have hm := start_mod (X := X) hd hlen hH hG hnx
  have hw := h ρ _ w hm
  rw [hr] at hw
  refine callsIn_of_wp (F := Fence.wide) hf hb trivial (wpIn_mono (by rw [hnt]; exact hw) ?_)
  rintro e a' w' ⟨x, st', ρ', rfl, hm', hk⟩
  cases x with
  | normal =>
    simp only [Fin] at hk
    split at hk
    · rename_i l e1 e2
      rw [fSVL_eq] at hk
      obtain ⟨u, h1, h2⟩ := results_ok hX hm' e1
      exact ⟨DefOk_nil (by rw [← e2]; exact hm'.df), u, h1, .inl ⟨_, st', ρ', u, rfl, h2, hm'.mh, hk⟩⟩
    · exact hk.elim
  | ret =>
    simp only [Fin] at hk
    split at hk
    · rename_i l e1 e2
      rw [fSVL_eq] at hk
      obtain ⟨u, h1, h2⟩ := results_ok hX hm' e1
      exact ⟨DefOk_nil (by rw [← e2]; exact hm'.df), u, h1, .inl ⟨_, st', ρ', u, rfl, h2, hm'.mh, hk⟩⟩
    · exact hk.elim
  | panic ch =>
    simp only [Fin] at hk
    split at hk
    · rename_i e2
      exact ⟨DefOk_nil (by rw [← e2]; exact hm'.df), .inr ⟨ch, st', ρ', rfl, hm'.mh, hk⟩⟩
    · exact hk.elim
  | exit n => exact hk.elim
theorem callS_sem {P : Program} {T : Tab} {C : Nat → Option Ct} (hX : ∀ G r nt, (⟨P, T, C, G, r, nt⟩ : Cx).Ok) {n : Nat} {fn : Func} {c : Code} (hf : P.funcs[n]? = some fn) (hb : fn.body = some c)
    {l : List SV} (hlen : l.length ≤ fn.ntmps) {H : List (Nat × HB)} {nx : Nat} {Rv : SV → List (Nat × HB) → Nat → Prop} {Rp : List PanicEntry → List (Nat × HB) → Nat → Prop}
    (h : ∀ G : Base, (∀ j, nx ≤ j → G.ρ j = none) → SemC ⟨P, T, C, G, none, fn.ntmps⟩ c (start l H nx) (Fin ⟨P, T, C, G, none, fn.ntmps⟩ fn.results.toList (fun v st => Rv v st.H st.nx) (fun ch st => Rp ch st.H st.nx))) :
    CallS P n l H nx Rv Rp := by
  intro ρ w vals hm hnx hd
  have hcall := calls_of_sem (X := ⟨P, T, C, ⟨w, Own ρ (findH H), ρ, Fz (findH H)⟩, none, fn.ntmps⟩) (hX _ _ _) rfl hf hb rfl hd hlen hm rfl hnx (h _ hnx)
  refine hcall.mono ?_
  rintro e w' (⟨v, st, ρ', u, rfl, hv, hmh, hr⟩ | ⟨ch, st, ρ', rfl, hmh, hr⟩)
  · exact .inl ⟨v, st.H, st.nx, ρ', u, rfl, hv, hmh.hm, hmh.kp, hmh.nx, hr⟩
  · exact .inr ⟨ch, st.H, st.nx, ρ', rfl, hmh.hm, hmh.kp, hmh.nx, hr⟩
end
end Go.X
end

section
set_option linter.unusedVariables false
set_option linter.unusedSimpArgs false
set_option linter.unusedSectionVars false
/- Wear: awake06. -/
set_option linter.unusedVariables false
set_option linter.unusedSimpArgs false
set_option maxRecDepth 10000
set_option maxHeartbeats 4000000
namespace Go.X.Wr
open Go Go.Proofs Go.X

theorem g8w {l : List (Nat × Ct)} (g : Good P T l) : Good P T ((8, W.c18t) :: l) := g.add (W.k18t W.good0) (plainCt_mono _) (body_of Tryd.func8 (c := code Tryd.f8) rfl (by decide))
theorem g14w {l : List (Nat × Ct)} (g : Good P T l) : Good P T ((14, W.c14) :: l) := g.add (W.k14 W.good0) (plainCt_mono _) (body_of Tryd.func14 (c := code Tryd.f14) rfl (by decide))
def ev0W (i : Nat) : Evn := match i with
  | 0 => ⟨0, 10, 0, 0⟩
  | _ => ⟨1, 0, 85, 95⟩
def w0 : Wd := ⟨100, 102, 0, 2, 2, ev0W⟩
theorem w0_ok : wdOk w0 = true := by decide +kernel
theorem w0_can : canB w0 = true := by decide +kernel
theorem w0_lg : lgV w0 (plQ w0) 1 = (85, 95) := by decide +kernel
theorem w0_lft : lftV w0 = 85 := by decide +kernel
theorem w0_ret : retA w0 0 = .tup [.agg [.si .i64 85, .si .i64 95], .si .i64 0] := by
  unfold retA
  rw [w0_can, w0_lg]; rfl
theorem w0_ret2 : retU w0 81 = .tup [.si .i64 2, .si .i64 0] := by
  unfold retU
  rw [w0_lft]; rfl
section
variable {Rv : SV → List (Nat × HB) → Nat → Prop} {Rp : List PanicEntry → List (Nat × HB) → Nat → Prop}
theorem a6 (hRv : Rv (.tup [.agg [.si .i64 85, .si .i64 95], .si .i64 0]) (inH w0) 2) : CallS P 6 [wrS w0 1, .si .i64 0] (inH w0) 2 Rv Rp :=
  s6 w0_ok (m := 0) (by decide) (by rw [w0_ret]; exact hRv)
theorem a12 (hRv : Rv (.tup [.si .i64 2, .si .i64 0]) (inH w0) 2) : CallS P 12 [wrS w0 1, .si .i64 81] (inH w0) 2 Rv Rp :=
  s12 w0_ok w0_can (by decide) (by decide) (by rw [w0_lft]; decide) (by rw [w0_ret2]; exact hRv)
theorem s4 : CallS P 4 [] [(0, .fam 2 gF)] 1 (fun v _ _ => v = .sb true) (fun _ _ _ => False) := by
  have g := g8w (g14w good0)
  refine callS_sem g.ok Tryd.func4 (c := code Tryd.f4) rfl (Nat.le_of_ble_eq_true rfl) (fun G hG => ?_)
  refine sem_seq (exec_ok (g.ok _ _ _) _ _ _ ?_)
  refine (show SemC _ _ _ _ from ?_)
  refine sem_seq (exec_ok (g.ok _ _ _) _ _ _ ?_)
  refine (show SemC _ _ _ _ from ?_)
  refine sem_weaken (st' := ⟨[(1, ⟨[], .sp 2 0⟩)], [], [(0, .fam 2 gF), (1, .vec 49 4 2 (evG w0)), (2, .cells 33 [.si .i64 100, .si .i64 102, .si .i64 0, .si .i64 2, .sl 1])], 3, []⟩) 1 (fun j => j) hG (by
    refine ⟨?_, ?_, rfl, rfl, rfl, rfl, trivial⟩ <;> repeat' (first | exact trivial | exact rfl | exact List.Perm.refl _ | (intro i hi; rcases (show i = 0 ∨ i = 1 by have : i < 2 := hi; omega) with rfl | rfl <;> exact ⟨rfl, rfl⟩) | (intro v m g h; exact h) | refine And.intro ?_ ?_)) ?_
  refine sem_roCell 1 2 33 49 4 2 (evG w0) _ [.si .i64 100, .si .i64 102, .si .i64 0, .si .i64 2, .sl 3] rfl rfl rfl ?_
  refine exec_ok (g.ok _ _ _) _ _ _ ?_
  refine fb_call (g.ok _ _ _) cont_std rfl rfl rfl rfl ⟨b6, ?_⟩
  refine callS_at [wrS w0 1, .si .i64 0] (inH w0) 2 (fun j => match j with | 1 => 3 | j => j) (by repeat' (first | exact trivial | exact rfl | refine And.intro ?_ ?_)) rfl (by repeat' (first | exact trivial | exact rfl | exact List.Perm.refl _ | (intro i hi; exact ⟨rfl, rfl⟩) | (intro v m g h; exact h) | refine And.intro ?_ ?_)) rfl rfl ?_
  refine a6 ⟨rfl, (by repeat' (first | exact trivial | exact rfl | (intro i hi; exact ⟨rfl, rfl⟩) | refine And.intro ?_ ?_)), (by repeat' (first | exact trivial | exact rfl | (intro i hi; exact rfl) | refine And.intro ?_ ?_)), ?_⟩
  refine fb_call (g.ok _ _ _) cont_std rfl rfl rfl rfl ⟨b12, ?_⟩
  refine callS_at [wrS w0 1, .si .i64 81] (inH w0) 2 (fun j => match j with | 1 => 3 | j => j) (by repeat' (first | exact trivial | exact rfl | refine And.intro ?_ ?_)) rfl (by repeat' (first | exact trivial | exact rfl | exact List.Perm.refl _ | (intro i hi; exact ⟨rfl, rfl⟩) | (intro v m g h; exact h) | refine And.intro ?_ ?_)) rfl rfl ?_
  refine a12 ⟨rfl, (by repeat' (first | exact trivial | exact rfl | (intro i hi; exact ⟨rfl, rfl⟩) | refine And.intro ?_ ?_)), (by repeat' (first | exact trivial | exact rfl | (intro i hi; exact rfl) | refine And.intro ?_ ?_)), ?_⟩
  refine drawn_ok (g.ok _ _ _) fol [0,0,3,7,15,31,63,127,255,511,1023,2047,4095,8191,16383,32767,65535,131071,262143] [] 19 (by kernel_rfl) ?_
  exact rfl
end
def c4 : Ct := fun fr args H => match args with
  | [] => (match H 0 with
    | some (.fam s C) => some ⟨some (s = 2 ∧ C = gF), none, .sb true, []⟩
    | _ => none)
  | _ => none
theorem c4_mono : CtMono c4 := by
  intro fr args H H' out hH h
  unfold c4 at h ⊢
  split at h
  · split at h
    · rename_i e1
      rw [hH _ _ e1]
      exact h
    · cases h
  · cases h
theorem k4 : COk P 4 c4 := by
  refine cokC (T := T) (C := tabC []) (nt := 41) fun fr args H out h hp => ?_
  unfold c4 at h
  split at h
  case h_2 => cases h
  split at h
  case h_2 => cases h
  rename_i s C e1
  cases h
  obtain ⟨rfl, rfl⟩ : s = 2 ∧ C = gF := hp
  refine ⟨[(0, .fam 2 gF)], [], [(0, .fam 2 gF)], 1, [], rfl, rfl, Nat.zero_le _, ?_, rfl, rfl, fun ρ w vals hd hm hnx => ?_⟩
  · refine hand_mk ?_ ?_ rfl
    · exact ⟨e1, trivial⟩
    · exact ⟨trivial, trivial⟩
  · refine (s4 ρ w vals hm hnx hd).mono ?_
    rintro e w' (⟨v, H', nx', ρ', u, rfl, h1, h2, h3, h4, rfl⟩ | ⟨_, _, _, _, _, _, _, _, hF⟩)
    · exact .inl ⟨.sb true, ⟨[], [], H', nx', []⟩, ρ', u, rfl, h1, ⟨h2, h3, h4⟩, .inl rfl, end_noid rfl rfl rfl ⟨trivial, trivial⟩⟩
    · exact hF.elim
theorem g4 {l : List (Nat × Ct)} (g : Good P T l) : Good P T ((4, c4) :: l) := g.add k4 c4_mono (body_of Tryd.func4 (c := code Tryd.f4) rfl (by decide))
end Go.X.Wr
end

section
set_option linter.unusedVariables false
set_option linter.unusedSimpArgs false
set_option linter.unusedSectionVars false
/- TopWorn: what came in; the loop over blocks. -/
set_option linter.unusedVariables false
set_option linter.unusedSimpArgs false
set_option maxRecDepth 10000
set_option maxHeartbeats 4000000
namespace Go.X.Wm
open Go Go.Proofs Go.X Go.X.Wr
open Go.X.W (drawV dA s53 bd53 s15 bd15)
/-- A block whose events are said by their value. -/
structure Wb where
  l1 : Int
  l2 : Int
  u1 : Int
  u2 : Int
  n : Nat
  ev : Nat → Evn
  v : Value
def wbC (x : Wb) : List SV := [.si .i64 x.l1, .si .i64 x.l2, .si .i64 x.u1, .si .i64 x.u2, .sv x.v]
def wbS (x : Wb) (id : Nat) : List SV := [.si .i64 x.l1, .si .i64 x.l2, .si .i64 x.u1, .si .i64 x.u2, .sl id]
def evH (ev : Nat → Evn) (j : Nat) : List SV := evC (ev j)
def wbF (N : Nat) (g : Nat → Wb) : Value → Nat → (Nat → List SV) → Prop := fun v n get => ∃ i, i < N ∧ v = (g i).v ∧ n = (g i).n ∧ get = evH (g i).ev
structure Par where
  at_ : Int
  wide : Int
  N : Nat
  g : Nat → Wb
  m : Nat
  o : Nat → Int
  flo : Int
  fhi : Int
def inWd (x : Wb) : Wd := ⟨x.l1, x.l2, x.u1, x.u2, x.n, x.ev⟩
def spW (p : Par) (i : Nat) : Span := lgV (inWd (p.g i)) (plQ (inWd (p.g i))) (p.g i).n
structure ParOk (p : Par) : Prop where
  m : p.m ≤ maxLen
  o : ∀ i, i < p.m → 0 ≤ p.o i ∧ p.o i < 65536
  N : p.N ≤ 8
  at_ : 0 ≤ p.at_ ∧ p.at_ < 65536
  wide : 0 ≤ p.wide ∧ p.wide < 256
  told : ∀ i, i < p.N → isSl (p.g i).v (p.g i).n
theorem isSl_told {v : Value} {n : Nat} (h : isSl v n) {C : Value → Nat → (Nat → List SV) → Prop} {get : Nat → List SV} (hC : C v n get) : toldV C v n get := by
  rcases h with h | ⟨ad, c, rfl⟩
  · exact .inl h
  · exact .inr ⟨ad, c, rfl, hC⟩
theorem wbF_at (p : Par) {i : Nat} (hi : i < p.N) : wbF p.N p.g (p.g i).v (p.g i).n (evH (p.g i).ev) := ⟨i, hi, rfl, rfl, rfl⟩
theorem g7w {l : List (Nat × Ct)} (g : Good P T l) : Good P T ((7, S.c34) :: l) := g.add (S.k34 S.good0) (S.stCt_mono _) (body_of Tryd.func7 (c := code Tryd.f7) rfl (by decide))
theorem g9w {l : List (Nat × Ct)} (g : Good P T l) : Good P T ((9, S.c21) :: l) := g.add (S.k21 S.good0) (S.stCt_mono _) (body_of Tryd.func9 (c := code Tryd.f9) rfl (by decide))
theorem g10w {l : List (Nat × Ct)} (g : Good P T l) : Good P T ((10, S.c15) :: l) := g.add (S.k15 S.good0) (S.stCt_mono _) (body_of Tryd.func10 (c := code Tryd.f10) rfl (by decide))
theorem g11w {l : List (Nat × Ct)} (g : Good P T l) : Good P T ((11, S.c36) :: l) := g.add (S.k36 S.good0) (plainCt_mono _) (body_of Tryd.func11 (c := code Tryd.f11) rfl (by decide))
noncomputable abbrev L3 : List (Nat × Ct) := [(4, c4), (5, c5), (7, S.c34), (8, W.c18t), (9, S.c21), (10, S.c15), (11, S.c36)]
theorem good3 : Good P T L3 := g4 (g5 (g7w (g8w (g9w (g10w (g11w good0))))))
noncomputable abbrev X3 (G : Base) : Cx := ⟨P, T, tabC L3, G, none, Tryd.f3.ntmps⟩
theorem ok3 (G : Base) : (X3 G).Ok := good3.ok _ _ _
def H3 (p : Par) : List (Nat × HB) := [(0, .fam 2 gF), (1, .ro 5 p.N fun i => wbC (p.g i)), (2, .ro 1 p.m fun i => [.si .u16 (p.o i)]), (3, .fam 4 (wbF p.N p.g))]
def A3 (p : Par) : List SV := [.sl 1, .agg [.si .i64 p.flo, .si .i64 p.fhi], .sl 2, .si .u16 p.at_, .si .u8 p.wide]
def bF (p : Par) (i : Nat) : List (Nat × FE) := [(0, ⟨[], .sl 1⟩), (2, ⟨[], .sl 2⟩), (3, ⟨[], .si .u16 p.at_⟩), (4, ⟨[], .si .u8 p.wide⟩), (6, ⟨[], .sp 4 0⟩), (11, ⟨[], .sp 5 0⟩), (40, ⟨[], .sl 1⟩), (41, ⟨[], .si .i64 (p.N : Int)⟩), (42, ⟨[], .si .i64 (i : Int)⟩)]
def hB (p : Par) (i : Nat) : List (Nat × HB) := [(0, .fam 2 gF), (1, .ro 5 p.N fun i => wbC (p.g i)), (2, .ro 1 p.m fun i => [.si .u16 (p.o i)]), (3, .fam 4 (wbF p.N p.g)), (4, .cells 24 [.si .i64 p.flo, .si .i64 p.fhi]), (5, .cells 30 [.sl 6, .si .i64 p.flo, .si .i64 p.fhi]), (6, .vec 24 2 i fun j => spanC (spW p j))]
/-- What is known of a block. -/
def blkI (p : Par) (j : Nat) : Prop := wdOk (inWd (p.g j)) = true ∧ canB (inWd (p.g j)) = true ∧ 0 < (p.g j).n
section
variable {G : Base} {p : Par} {K : Ex → St → Prop}
theorem blkLoop (hG : ∀ j, 4 ≤ j → G.ρ j = none) (hp : ParOk p) (hR : ∀ F gs H nx, K .ret ⟨(10, ⟨[], .sb true⟩) :: F, gs, H, nx, []⟩)
    (hK : (∀ j, j < p.N → blkI p j) → K (.exit 0) ⟨(43, ⟨[], .sb (decide ((p.N : Int) < (p.N : Int)))⟩) :: bF p p.N, [], hB p p.N, 7, []⟩) :
    SemC (X3 G) (lpB 0 (code Tryd.f3)) ⟨bF p 0, [], hB p 0, 7, []⟩ K := by
  have hN := hp.N
  refine loop_okS 4 (fun x : {i : Nat // i ≤ p.N ∧ ∀ j, j < i → blkI p j} => ⟨bF p x.1, [], hB p x.1, 7, []⟩) (fun x => p.N - x.1) hG ⟨0, Nat.zero_le _, fun j hj => absurd hj (Nat.not_lt_zero _)⟩ (fun j => j) ?_ ?_
  · refine ⟨?_, ?_, rfl, rfl, rfl, rfl, trivial⟩ <;> repeat' (first | exact trivial | exact rfl | (intro i hi; exact ⟨rfl, rfl⟩) | (intro v m g h; exact h) | refine And.intro ?_ ?_)
  rintro ⟨i, hi, hok⟩
  have hi : i ≤ p.N := hi
  refine sem_seq (exec_ok (ok3 G) _ _ _ ?_)
  refine (show KSeq _ _ _ .normal _ from ?_)
  refine sem_seq (exec_ok (ok3 G) _ _ _ ?_)
  refine Br.mk (fun h => ?_) (fun h => ?_)
  · have h : (i : Int) < (p.N : Int) := of_decide_eq_true h
    have hiN : i < p.N := by omega
    have htd := hp.told i hiN
    refine (show KSeq _ _ _ .normal _ from ?_)
    refine sem_seq (sem_block (sem_seq (exec_ok (ok3 G) _ _ _ ?_)))
    refine Chk.mk (show (0 : Int) ≤ (i : Int) ∧ (i : Int) < (p.N : Int) from ⟨by omega, h⟩) ?_
    refine (show KSeq _ _ _ .normal _ from ?_)
    refine sem_lookCell 3 7 33 (p.g i).n 4 (p.g i).v (evH (p.g i).ev) _ (wbS (p.g i) 8) rfl rfl (isSl_told htd (wbF_at p hiN)) rfl ?_
    refine (exec_ok (ok3 G) _ _ _ ?_)
    refine Chk.mk (show (decide ((40 : Int) < ((p.g i).n : Int)) || decide (((p.g i).n : Int) = 0)) = false → ((p.g i).n ≤ 1000000 ∧ Evs (p.g i).n (evH (p.g i).ev)) from fun hh => ⟨by
      simp only [Bool.or_eq_false_iff, decide_eq_false_iff_not] at hh; omega, evs_i _ _⟩) ?_
    refine Br.mk (fun h2 => ?_) (fun h2 => ?_)
    · refine Chk.mk ⟨rfl, rfl⟩ ?_
      exact hR _ _ _ _
    have h2 : (decide ((40 : Int) < ((p.g i).n : Int)) || decide (((p.g i).n : Int) = 0) || !wdOk (inWd (p.g i))) = false := h2
    simp only [Bool.or_eq_false_iff, decide_eq_false_iff_not, Bool.not_eq_false'] at h2
    obtain ⟨⟨hn1, hn2⟩, hB⟩ := h2
    have hn0 : 0 < (p.g i).n := by omega
    refine Chk.mk (show InK .i64 (((p.g i).n : Int) - 1) from ⟨by omega, by omega⟩) ?_
    have hm1 : ((p.g i).n : Int) - 1 = (((p.g i).n - 1 : Nat) : Int) := by omega
    refine fb_call (ok3 G) cont_std rfl rfl rfl rfl ⟨b6, ?_⟩
    refine callS_at [wrS (inWd (p.g i)) 1, .si .i64 (((p.g i).n - 1 : Nat) : Int)] (inH (inWd (p.g i))) 2 (fun j => match j with | 1 => 8 | j => j) (by repeat' (first | exact trivial | exact rfl | exact hm1 | refine And.intro ?_ ?_)) rfl (by repeat' (first | exact trivial | exact rfl | exact List.Perm.refl _ | (intro i hi; exact ⟨rfl, rfl⟩) | (intro v m g h; exact h) | refine And.intro ?_ ?_)) rfl rfl ?_
    refine s6 hB (show (p.g i).n - 1 < (p.g i).n by omega) ⟨rfl, (by repeat' (first | exact trivial | exact rfl | (intro i hi; exact ⟨rfl, rfl⟩) | refine And.intro ?_ ?_)), (by repeat' (first | exact trivial | exact rfl | (intro i hi; exact rfl) | refine And.intro ?_ ?_)), ?_⟩
    refine Br.mk (fun h3 => ?_) (fun h3 => ?_)
    · have h3 : (!decide ((if canB (inWd (p.g i)) then (0 : Int) else 10) = 0)) = true := h3
      have hc : canB (inWd (p.g i)) = false := by
        cases hc : canB (inWd (p.g i)) with
        | false => rfl
        | true => rw [hc] at h3; simp at h3
      refine Chk.mk (fun _ => ⟨rfl, rfl⟩) ?_
      have e : SV.sb (decide ((if canB (inWd (p.g i)) then (0 : Int) else 10) = 10) && true) = .sb true := by rw [hc]; rfl
      refine (show K .ret ⟨(10, ⟨[], .sb (decide ((if canB (inWd (p.g i)) then (0 : Int) else 10) = 10) && true)⟩) :: _, _, _, _, []⟩ from ?_)
      rw [e]
      exact hR _ _ _ _
    have h3 : (!decide ((if canB (inWd (p.g i)) then (0 : Int) else 10) = 0)) = false := h3
    have hc : canB (inWd (p.g i)) = true := by
      cases hc : canB (inWd (p.g i)) with
      | true => rfl
      | false => rw [hc] at h3; simp at h3
    have hspw : spW p i = lgV (inWd (p.g i)) (plQ (inWd (p.g i))) ((p.g i).n - 1 + 1) := by unfold spW; rw [show (p.g i).n - 1 + 1 = (p.g i).n by omega]
    have e1 : (if canB (inWd (p.g i)) then lgV (inWd (p.g i)) (plQ (inWd (p.g i))) ((p.g i).n - 1 + 1) else (0, 0)) = spW p i := by rw [if_pos hc, hspw]
    refine fb_append (Te := 0) 6 10 i 1 _ _ (fun j => spanC (spW p j)) (ok3 G) cont_std rfl rfl rfl rfl rfl rfl rfl rfl rfl rfl rfl rfl (by decide) (by decide) rfl rfl rfl rfl (by omega) (fun k hk => ?_) ?_
    · rcases Nat.lt_or_ge k i with h1 | h1
      · rw [if_pos h1]
      · obtain rfl : k = i := by omega
        rw [if_neg (by omega), show k - k = 0 by omega]
        exact (congrArg spanC e1).symm
    refine (show KSeq _ _ _ .normal _ from ?_)
    refine exec_ok (ok3 G) _ _ _ ?_
    refine Chk.mk (show InK .i64 ((i : Int) + 1) from ⟨by omega, by omega⟩) ⟨⟨i + 1, (by omega : i + 1 ≤ p.N), fun j hj => ?_⟩, (fun j => match j with | 6 => 11 | j => j), ?_, by show p.N - (i + 1) < p.N - i; omega⟩
    · rcases Nat.lt_succ_iff_lt_or_eq.1 hj with h1 | rfl
      · exact hok j h1
      · exact ⟨hB, hc, hn0⟩
    · refine ⟨?_, ?_, rfl, rfl, rfl, rfl, trivial⟩ <;> repeat' (first | exact trivial | exact rfl | (intro k hk; exact ⟨rfl, rfl⟩) | (intro v m g h; exact h) | refine And.intro ?_ ?_)
  · have h : ¬ (i : Int) < (p.N : Int) := of_decide_eq_false h
    obtain rfl : i = p.N := by omega
    exact hK hok
end
end Go.X.Wm
end

section
set_option linter.unusedVariables false
set_option linter.unusedSimpArgs false
set_option linter.unusedSectionVars false
/- TopWorn: how often all may be used. -/
set_option linter.unusedVariables false
set_option linter.unusedSimpArgs false
set_option maxRecDepth 10000
set_option maxHeartbeats 4000000
namespace Go.X.Wm
open Go Go.Proofs Go.X Go.X.Wr
open Go.X.W (regO)
/-- A stack is found: which, want, share. -/
structure Fnd where
  x : Nat
  lo : Int
  hi : Int
  sh : Int
def uV (p : Par) (sh : Int) (i : Nat) : Int := if (p.g i).u2 = 0 then 100 else min 100 ((lftV (inWd (p.g i)) - ((spW p i).1 - sh)).tdiv (p.g i).u2)
def rmU (p : Par) (f : Fnd) : Nat → Int
  | 0 => 100
  | i + 1 => if f.x.testBit i then min (rmU p f i) (uV p f.sh i) else rmU p f i
theorem lft_eq (p : Par) (i : Nat) : lftV (inWd (p.g i)) = (spW p i).1 := rfl
theorem uV_b {p : Par} {sh : Int} {i : Nat} (hs : 0 ≤ sh) (hu : 0 ≤ (p.g i).u2) : 0 ≤ uV p sh i ∧ uV p sh i ≤ 100 ∧ (p.g i).u2 * uV p sh i ≤ sh ∧ (uV p sh i < 100 → sh < (p.g i).u2 * (uV p sh i + 1)) := by
  unfold uV
  rw [lft_eq]
  rw [show (spW p i).1 - ((spW p i).1 - sh) = sh by omega]
  split
  · rename_i h
    rw [h]; omega
  · have h0 : 0 < (p.g i).u2 := by omega
    have h1 := Int.tdiv_nonneg hs hu
    have h2 : (p.g i).u2 * sh.tdiv (p.g i).u2 + sh.tmod (p.g i).u2 = sh := Int.mul_tdiv_add_tmod sh _
    have h3 := Int.tmod_nonneg (p.g i).u2 hs
    have h4 := Int.tmod_lt_of_pos sh h0
    generalize hq : sh.tdiv (p.g i).u2 = q at *
    rcases Int.le_total 100 q with h5 | h5
    · rw [Int.min_eq_left h5]
      have : (p.g i).u2 * 100 ≤ (p.g i).u2 * q := Int.mul_le_mul_of_nonneg_left h5 hu
      omega
    · rw [Int.min_eq_right h5, Int.mul_add]
      omega
theorem rmU_b {p : Par} {f : Fnd} (hs : 0 ≤ f.sh) : ∀ i, (∀ j, j < i → 0 ≤ (p.g j).u2) → 0 ≤ rmU p f i ∧ rmU p f i ≤ 100
  | 0, _ => by unfold rmU; omega
  | i + 1, h => by
    have h1 := rmU_b (p := p) (f := f) hs i fun j hj => h j (by omega)
    have h2 := uV_b (p := p) (i := i) hs (h i (by omega))
    unfold rmU
    split <;> omega
theorem rmU_le {p : Par} {f : Fnd} : ∀ i j, j < i → f.x.testBit j = true → rmU p f i ≤ uV p f.sh j
  | i + 1, j, hj, hb => by
    rcases Nat.lt_or_ge j i with h | h
    · have := rmU_le (p := p) (f := f) i j h hb
      unfold rmU
      split <;> omega
    · obtain rfl : j = i := by omega
      unfold rmU
      rw [if_pos hb]
      omega
def b28 (p : Par) (f : Fnd) (i : Nat) : List (Nat × FE) := [(0, ⟨[], .sl 1⟩), (2, ⟨[], .sl 2⟩), (6, ⟨[], .sp 4 0⟩), (11, ⟨[], .sp 5 0⟩), (17, ⟨[], .sp 7 0⟩), (18, ⟨[], .si .i64 (f.x : Int)⟩), (23, ⟨[], .si .i64 f.sh⟩), (24, ⟨[], .si .i64 (rmU p f i)⟩), (140, ⟨[], .sl 1⟩), (141, ⟨[], .si .i64 (p.N : Int)⟩), (142, ⟨[], .si .i64 (i : Int)⟩)]
def h28 (p : Par) (f : Fnd) : List (Nat × HB) := (7, .cells 24 [.si .i64 f.lo, .si .i64 f.hi]) :: hB p p.N
def F30 (p : Par) (f : Fnd) (i : Nat) : List (Nat × FE) := (25, ⟨[], .si .i64 (i : Int)⟩) :: (26, ⟨[], .sp 8 0⟩) :: b28 p f i
def h31 (p : Par) (f : Fnd) (i : Nat) : List (Nat × HB) := (8, .cells 33 (wbS (p.g i) 9)) :: (9, .ro 4 (p.g i).n (evH (p.g i).ev)) :: h28 p f
noncomputable def o31 : Array Oper := regO 31 (code Tryd.f3)
section
variable {G : Base} {p : Par} {f : Fnd} {i : Nat} {K : Ex → St → Prop}
theorem reg31 (hG : ∀ j, 4 ≤ j → G.ρ j = none) (hi : i < p.N) (hb : blkI p i) (hsh : 0 ≤ f.sh ∧ f.sh ≤ 600) (hl : 1 ≤ (spW p i).1 ∧ (spW p i).1 ≤ 500)
    (hK : K .normal ⟨(27, ⟨[], .si .i64 (uV p f.sh i)⟩) :: (28, ⟨[], .si .i64 0⟩) :: F30 p f i, [], h31 p f i, 10, []⟩) : AnyS (X3 G) o31 15 (Array.replicate 15 false) ⟨F30 p f i, [], h31 p f i, 10, []⟩ K := by
  obtain ⟨hW, hc, hn⟩ := hb
  refine any_take 1 (ok3 G) rfl rfl rfl rfl rfl rfl rfl (by kernel_rfl) (by kernel_rfl) (by kernel_rfl) ?_
  refine any_take 3 (ok3 G) rfl rfl rfl rfl rfl rfl rfl (by kernel_rfl) (by kernel_rfl) (by kernel_rfl) ?_
  refine any_take 7 (ok3 G) rfl rfl rfl rfl rfl rfl rfl (by kernel_rfl) (by kernel_rfl) (by kernel_rfl) ?_
  refine any_step [0, 2] (ok3 G) (by kernel_rfl) (by decide) ⟨?_, ?_, trivial⟩
  · refine any_step [2] (ok3 G) (by kernel_rfl) (by decide) ⟨?_, trivial⟩
    refine any_step [4] (ok3 G) (by kernel_rfl) (by decide) ⟨?_, trivial⟩
    refine Chk.mk (show (0 : Int) ≤ (i : Int) ∧ (i : Int) < (p.N : Int) from ⟨by omega, by omega⟩) ?_
    refine any_take 5 (ok3 G) rfl rfl rfl rfl rfl rfl rfl (by kernel_rfl) (by kernel_rfl) (by kernel_rfl) ?_
    refine any_step [6] (ok3 G) (by kernel_rfl) (by decide) ⟨?_, trivial⟩
    refine any_take 8 (ok3 G) rfl rfl rfl rfl rfl rfl rfl (by kernel_rfl) (by kernel_rfl) (by kernel_rfl) (Chk.mk (show InK .i64 ((spW p i).1 - f.sh) from ⟨by omega, by omega⟩) ?_)
    refine any_step [9] (ok3 G) (by kernel_rfl) (by decide) ⟨?_, trivial⟩
    refine fb_call (ok3 G) cont_any rfl rfl rfl rfl ⟨b12, ?_⟩
    refine callS_at [wrS (inWd (p.g i)) 1, .si .i64 ((spW p i).1 - f.sh)] (inH (inWd (p.g i))) 2 (fun j => match j with | 1 => 9 | j => j) (by repeat' (first | exact trivial | exact rfl | refine And.intro ?_ ?_)) rfl (by repeat' (first | exact trivial | exact rfl | exact List.Perm.refl _ | (intro i hi; exact ⟨rfl, rfl⟩) | (intro v m g h; exact h) | refine And.intro ?_ ?_)) rfl rfl ?_
    refine s12 hW hc (by omega) (by omega) (by rw [lft_eq]; omega) ⟨rfl, (by repeat' (first | exact trivial | exact rfl | (intro i hi; exact ⟨rfl, rfl⟩) | refine And.intro ?_ ?_)), (by repeat' (first | exact trivial | exact rfl | (intro i hi; exact rfl) | refine And.intro ?_ ?_)), ?_⟩
    refine any_take 10 (ok3 G) rfl rfl rfl rfl rfl rfl rfl (by kernel_rfl) (by kernel_rfl) (by kernel_rfl) ?_
    refine any_take 11 (ok3 G) rfl rfl rfl rfl rfl rfl rfl (by kernel_rfl) (by kernel_rfl) (by kernel_rfl) ?_
    refine any_take 12 (ok3 G) rfl rfl rfl rfl rfl rfl rfl (by kernel_rfl) (by kernel_rfl) (by kernel_rfl) ?_
    refine any_step [13] (ok3 G) (by kernel_rfl) (by decide) ⟨?_, trivial⟩
    refine any_step [14] (ok3 G) (by kernel_rfl) (by decide) ⟨?_, trivial⟩
    refine any_weaken 4 (fun j => j) hG ?_ (any_done (by kernel_rfl) hK)
    refine ⟨?_, ?_, rfl, rfl, rfl, rfl, trivial⟩ <;> repeat' (first | exact trivial | exact rfl | exact List.Perm.refl _ | (intro i hi; exact ⟨rfl, rfl⟩) | (intro v m g h; exact h) | refine And.intro ?_ ?_)
  · refine any_step [0, 4] (ok3 G) (by kernel_rfl) (by decide) ⟨?_, ?_, trivial⟩
    · refine any_step [4] (ok3 G) (by kernel_rfl) (by decide) ⟨?_, trivial⟩
      refine Chk.mk (show (0 : Int) ≤ (i : Int) ∧ (i : Int) < (p.N : Int) from ⟨by omega, by omega⟩) ?_
      refine any_take 5 (ok3 G) rfl rfl rfl rfl rfl rfl rfl (by kernel_rfl) (by kernel_rfl) (by kernel_rfl) ?_
      refine any_step [6] (ok3 G) (by kernel_rfl) (by decide) ⟨?_, trivial⟩
      refine any_take 8 (ok3 G) rfl rfl rfl rfl rfl rfl rfl (by kernel_rfl) (by kernel_rfl) (by kernel_rfl) (Chk.mk (show InK .i64 ((spW p i).1 - f.sh) from ⟨by omega, by omega⟩) ?_)
      refine any_step [9] (ok3 G) (by kernel_rfl) (by decide) ⟨?_, trivial⟩
      refine fb_call (ok3 G) cont_any rfl rfl rfl rfl ⟨b12, ?_⟩
      refine callS_at [wrS (inWd (p.g i)) 1, .si .i64 ((spW p i).1 - f.sh)] (inH (inWd (p.g i))) 2 (fun j => match j with | 1 => 9 | j => j) (by repeat' (first | exact trivial | exact rfl | refine And.intro ?_ ?_)) rfl (by repeat' (first | exact trivial | exact rfl | exact List.Perm.refl _ | (intro i hi; exact ⟨rfl, rfl⟩) | (intro v m g h; exact h) | refine And.intro ?_ ?_)) rfl rfl ?_
      refine s12 hW hc (by omega) (by omega) (by rw [lft_eq]; omega) ⟨rfl, (by repeat' (first | exact trivial | exact rfl | (intro i hi; exact ⟨rfl, rfl⟩) | refine And.intro ?_ ?_)), (by repeat' (first | exact trivial | exact rfl | (intro i hi; exact rfl) | refine And.intro ?_ ?_)), ?_⟩
      refine any_take 10 (ok3 G) rfl rfl rfl rfl rfl rfl rfl (by kernel_rfl) (by kernel_rfl) (by kernel_rfl) ?_
      refine any_take 11 (ok3 G) rfl rfl rfl rfl rfl rfl rfl (by kernel_rfl) (by kernel_rfl) (by kernel_rfl) ?_
      refine any_take 12 (ok3 G) rfl rfl rfl rfl rfl rfl rfl (by kernel_rfl) (by kernel_rfl) (by kernel_rfl) ?_
      refine any_step [13] (ok3 G) (by kernel_rfl) (by decide) ⟨?_, trivial⟩
      refine any_step [14] (ok3 G) (by kernel_rfl) (by decide) ⟨?_, trivial⟩
      refine any_weaken 4 (fun j => j) hG ?_ (any_done (by kernel_rfl) hK)
      refine ⟨?_, ?_, rfl, rfl, rfl, rfl, trivial⟩ <;> repeat' (first | exact trivial | exact rfl | exact List.Perm.refl _ | (intro i hi; exact ⟨rfl, rfl⟩) | (intro v m g h; exact h) | refine And.intro ?_ ?_)
    · refine Chk.mk (show (0 : Int) ≤ (i : Int) ∧ (i : Int) < (p.N : Int) from ⟨by omega, by omega⟩) ?_
      refine any_take 5 (ok3 G) rfl rfl rfl rfl rfl rfl rfl (by kernel_rfl) (by kernel_rfl) (by kernel_rfl) ?_
      refine any_step [0, 6] (ok3 G) (by kernel_rfl) (by decide) ⟨?_, ?_, trivial⟩
      · refine any_step [6] (ok3 G) (by kernel_rfl) (by decide) ⟨?_, trivial⟩
        refine any_take 8 (ok3 G) rfl rfl rfl rfl rfl rfl rfl (by kernel_rfl) (by kernel_rfl) (by kernel_rfl) (Chk.mk (show InK .i64 ((spW p i).1 - f.sh) from ⟨by omega, by omega⟩) ?_)
        refine any_step [9] (ok3 G) (by kernel_rfl) (by decide) ⟨?_, trivial⟩
        refine fb_call (ok3 G) cont_any rfl rfl rfl rfl ⟨b12, ?_⟩
        refine callS_at [wrS (inWd (p.g i)) 1, .si .i64 ((spW p i).1 - f.sh)] (inH (inWd (p.g i))) 2 (fun j => match j with | 1 => 9 | j => j) (by repeat' (first | exact trivial | exact rfl | refine And.intro ?_ ?_)) rfl (by repeat' (first | exact trivial | exact rfl | exact List.Perm.refl _ | (intro i hi; exact ⟨rfl, rfl⟩) | (intro v m g h; exact h) | refine And.intro ?_ ?_)) rfl rfl ?_
        refine s12 hW hc (by omega) (by omega) (by rw [lft_eq]; omega) ⟨rfl, (by repeat' (first | exact trivial | exact rfl | (intro i hi; exact ⟨rfl, rfl⟩) | refine And.intro ?_ ?_)), (by repeat' (first | exact trivial | exact rfl | (intro i hi; exact rfl) | refine And.intro ?_ ?_)), ?_⟩
        refine any_take 10 (ok3 G) rfl rfl rfl rfl rfl rfl rfl (by kernel_rfl) (by kernel_rfl) (by kernel_rfl) ?_
        refine any_take 11 (ok3 G) rfl rfl rfl rfl rfl rfl rfl (by kernel_rfl) (by kernel_rfl) (by kernel_rfl) ?_
        refine any_take 12 (ok3 G) rfl rfl rfl rfl rfl rfl rfl (by kernel_rfl) (by kernel_rfl) (by kernel_rfl) ?_
        refine any_step [13] (ok3 G) (by kernel_rfl) (by decide) ⟨?_, trivial⟩
        refine any_step [14] (ok3 G) (by kernel_rfl) (by decide) ⟨?_, trivial⟩
        refine any_weaken 4 (fun j => j) hG ?_ (any_done (by kernel_rfl) hK)
        refine ⟨?_, ?_, rfl, rfl, rfl, rfl, trivial⟩ <;> repeat' (first | exact trivial | exact rfl | exact List.Perm.refl _ | (intro i hi; exact ⟨rfl, rfl⟩) | (intro v m g h; exact h) | refine And.intro ?_ ?_)
      · refine any_take 8 (ok3 G) rfl rfl rfl rfl rfl rfl rfl (by kernel_rfl) (by kernel_rfl) (by kernel_rfl) (Chk.mk (show InK .i64 ((spW p i).1 - f.sh) from ⟨by omega, by omega⟩) ?_)
        refine any_step [0] (ok3 G) (by kernel_rfl) (by decide) ⟨?_, trivial⟩
        refine any_step [9] (ok3 G) (by kernel_rfl) (by decide) ⟨?_, trivial⟩
        refine fb_call (ok3 G) cont_any rfl rfl rfl rfl ⟨b12, ?_⟩
        refine callS_at [wrS (inWd (p.g i)) 1, .si .i64 ((spW p i).1 - f.sh)] (inH (inWd (p.g i))) 2 (fun j => match j with | 1 => 9 | j => j) (by repeat' (first | exact trivial | exact rfl | refine And.intro ?_ ?_)) rfl (by repeat' (first | exact trivial | exact rfl | exact List.Perm.refl _ | (intro i hi; exact ⟨rfl, rfl⟩) | (intro v m g h; exact h) | refine And.intro ?_ ?_)) rfl rfl ?_
        refine s12 hW hc (by omega) (by omega) (by rw [lft_eq]; omega) ⟨rfl, (by repeat' (first | exact trivial | exact rfl | (intro i hi; exact ⟨rfl, rfl⟩) | refine And.intro ?_ ?_)), (by repeat' (first | exact trivial | exact rfl | (intro i hi; exact rfl) | refine And.intro ?_ ?_)), ?_⟩
        refine any_take 10 (ok3 G) rfl rfl rfl rfl rfl rfl rfl (by kernel_rfl) (by kernel_rfl) (by kernel_rfl) ?_
        refine any_take 11 (ok3 G) rfl rfl rfl rfl rfl rfl rfl (by kernel_rfl) (by kernel_rfl) (by kernel_rfl) ?_
        refine any_take 12 (ok3 G) rfl rfl rfl rfl rfl rfl rfl (by kernel_rfl) (by kernel_rfl) (by kernel_rfl) ?_
        refine any_step [13] (ok3 G) (by kernel_rfl) (by decide) ⟨?_, trivial⟩
        refine any_step [14] (ok3 G) (by kernel_rfl) (by decide) ⟨?_, trivial⟩
        refine any_weaken 4 (fun j => j) hG ?_ (any_done (by kernel_rfl) hK)
        refine ⟨?_, ?_, rfl, rfl, rfl, rfl, trivial⟩ <;> repeat' (first | exact trivial | exact rfl | exact List.Perm.refl _ | (intro i hi; exact ⟨rfl, rfl⟩) | (intro v m g h; exact h) | refine And.intro ?_ ?_)
end
end Go.X.Wm
end

section
set_option linter.unusedVariables false
set_option linter.unusedSimpArgs false
set_option linter.unusedSectionVars false
/- TopWorn: the loop over what is used. -/
set_option linter.unusedVariables false
set_option linter.unusedSimpArgs false
set_option maxRecDepth 10000
set_option maxHeartbeats 4000000
namespace Go.X.Wm
open Go Go.Proofs Go.X Go.X.Wr
theorem wd_u {p : Par} {i : Nat} (h : blkI p i) : 0 ≤ (p.g i).u1 ∧ (p.g i).u1 ≤ (p.g i).u2 ∧ (p.g i).u2 ≤ 3 := by
  have := (wdOk_b h.1).2.1
  exact this
section
variable {G : Base} {p : Par} {f : Fnd} {K : Ex → St → Prop}
theorem useLoop (hG : ∀ j, 4 ≤ j → G.ρ j = none) (hp : ParOk p) (hI : ∀ j, j < p.N → blkI p j) (hx : f.x < 256) (hsh : 0 ≤ f.sh ∧ f.sh ≤ 600) (hl : ∀ j, j < p.N → 1 ≤ (spW p j).1 ∧ (spW p j).1 ≤ 500)
    (hK : K (.exit 2) ⟨(143, ⟨[], .sb (decide ((p.N : Int) < (p.N : Int)))⟩) :: b28 p f p.N, [], h28 p f, 8, []⟩) :
    SemC (X3 G) (lpB 2 (code Tryd.f3)) ⟨b28 p f 0, [], h28 p f, 8, []⟩ K := by
  have hN := hp.N
  refine loop_okS 4 (fun i : {i : Nat // i ≤ p.N} => ⟨b28 p f i.1, [], h28 p f, 8, []⟩) (fun i => p.N - i.1) hG ⟨0, Nat.zero_le _⟩ (fun j => j) ?_ ?_
  · refine ⟨?_, ?_, rfl, rfl, rfl, rfl, trivial⟩ <;> repeat' (first | exact trivial | exact rfl | (intro i hi; exact ⟨rfl, rfl⟩) | (intro v m g h; exact h) | refine And.intro ?_ ?_)
  rintro ⟨i, hi⟩
  have hi : i ≤ p.N := hi
  refine sem_seq (exec_ok (ok3 G) _ _ _ ?_)
  refine (show KSeq _ _ _ .normal _ from ?_)
  refine sem_seq (exec_ok (ok3 G) _ _ _ ?_)
  refine Br.mk (fun h => ?_) (fun h => ?_)
  · have h : (i : Int) < (p.N : Int) := of_decide_eq_true h
    have hiN : i < p.N := by omega
    have hB := hI i hiN
    have hu := wd_u hB
    have hub := uV_b (p := p) (sh := f.sh) (i := i) hsh.1 (by omega)
    refine (show KSeq _ _ _ .normal _ from ?_)
    refine sem_seq (sem_block (sem_seq (exec_ok (ok3 G) _ _ _ ?_)))
    refine Chk.mk (show (0 : Int) ≤ (i : Int) ∧ (i : Int) < (p.N : Int) from ⟨by omega, h⟩) ?_
    refine (show KSeq _ _ _ .normal _ from ?_)
    refine sem_lookCell 3 8 33 (p.g i).n 4 (p.g i).v (evH (p.g i).ev) _ (wbS (p.g i) 9) rfl rfl (isSl_told (hp.told i hiN) (wbF_at p hiN)) rfl ?_
    refine (exec_ok (ok3 G) _ _ _ ?_)
    refine Chk.mk (show (0 : Int) ≤ (i : Int) ∧ (i : Int).toNat ≤ IntKind.i64.bits from ⟨by omega, by show (i : Int).toNat ≤ 64; omega⟩) ?_
    have hsb := shr_b (S := f.x) (w := i) hx
    refine Chk.mk ⟨hsb.1, by decide, (show InK .i64 (((f.x : Nat) : Int).fdiv (2 ^ (i : Int).toNat)) from ⟨by omega, by omega⟩), by decide, by decide⟩ ?_
    refine Br.mk (fun h4 => ?_) (fun h4 => ?_)
    · have h4 : decide (((((f.x : Nat) : Int).fdiv (2 ^ (i : Int).toNat)).toNat &&& (1 : Int).toNat : Nat) = (0 : Int)) = true := h4
      rw [shr_bit] at h4
      have hbit : f.x.testBit i = false := by
        cases hb : f.x.testBit i with
        | false => rfl
        | true => rw [hb] at h4; simp at h4
      have er : rmU p f i = rmU p f (i + 1) := by rw [rmU, if_neg (by rw [hbit]; decide)]
      refine (show KSeq _ _ _ .normal _ from ?_)
      refine exec_ok (ok3 G) _ _ _ ?_
      refine Chk.mk (show InK .i64 ((i : Int) + 1) from ⟨by omega, by omega⟩) ⟨⟨i + 1, (by omega : i + 1 ≤ p.N)⟩, (fun j => j), ?_, by show p.N - (i + 1) < p.N - i; omega⟩
      refine ⟨?_, ?_, rfl, rfl, rfl, rfl, trivial⟩ <;> repeat' (first | exact trivial | exact rfl | exact er | (intro k hk; exact ⟨rfl, rfl⟩) | (intro v m g h; exact h) | refine And.intro ?_ ?_)
    · have h4 : decide (((((f.x : Nat) : Int).fdiv (2 ^ (i : Int).toNat)).toNat &&& (1 : Int).toNat : Nat) = (0 : Int)) = false := h4
      rw [shr_bit] at h4
      have hbit : f.x.testBit i = true := by
        cases hb : f.x.testBit i with
        | true => rfl
        | false => rw [hb] at h4; simp at h4
      have er : min (rmU p f i) (uV p f.sh i) = rmU p f (i + 1) := by rw [rmU, if_pos hbit]
      refine (show SemC _ _ _ _ from ?_)
      refine any_region fol ?_
      refine any_weaken (st' := ⟨F30 p f i, [], h31 p f i, 10, []⟩) 4 (fun j => j) hG (by
        refine ⟨?_, ?_, rfl, rfl, rfl, rfl, trivial⟩ <;> repeat' (first | exact trivial | exact rfl | (intro i hi; exact ⟨rfl, rfl⟩) | (intro v m g h; exact h) | refine And.intro ?_ ?_)) ?_
      refine reg31 hG hiN hB hsh (hl i hiN) ?_
      have hmu : (p.g i).u2 * (uV p f.sh i + 1) = (p.g i).u2 * uV p f.sh i + (p.g i).u2 := by rw [Int.mul_add, Int.mul_one]
      have hmn : 0 ≤ (p.g i).u2 * uV p f.sh i := Int.mul_nonneg (by omega) (by omega)
      refine Chk.mk (underX_of (show InK .i64 (uV p f.sh i + 1) from ⟨by omega, by omega⟩)) ?_
      refine Chk.mk (underX_of (show InK .i64 ((p.g i).u2 * (uV p f.sh i + 1)) from ⟨by omega, by omega⟩)) ?_
      refine Br.mk (fun h5 => ?_) (fun h5 => ?_)
      · exfalso
        have h5 : ((!decide ((0 : Int) = 0) || decide (uV p f.sh i < 0)) || (decide (uV p f.sh i < 100) && decide ((p.g i).u2 * (uV p f.sh i + 1) ≤ f.sh))) = true := h5
        simp only [Bool.or_eq_true, Bool.and_eq_true, decide_eq_true_eq, Bool.not_eq_true', decide_eq_false_iff_not] at h5
        rcases h5 with (h5 | h5) | ⟨h5, h6⟩
        · first | exact h5 trivial | exact absurd h5 (by simp)
        · omega
        · have := hub.2.2.2 h5
          omega
      refine (show KSeq _ _ _ .normal _ from ?_)
      refine exec_ok (ok3 G) _ _ _ ?_
      refine Chk.mk (show InK .i64 ((i : Int) + 1) from ⟨by omega, by omega⟩) ⟨⟨i + 1, (by omega : i + 1 ≤ p.N)⟩, (fun j => j), ?_, by show p.N - (i + 1) < p.N - i; omega⟩
      refine ⟨?_, ?_, rfl, rfl, rfl, rfl, trivial⟩ <;> repeat' (first | exact trivial | exact rfl | exact er | (intro k hk; exact ⟨rfl, rfl⟩) | (intro v m g h; exact h) | refine And.intro ?_ ?_)
  · have h : ¬ (i : Int) < (p.N : Int) := of_decide_eq_false h
    obtain rfl : i = p.N := by omega
    exact hK
end
end Go.X.Wm
end

section
set_option linter.unusedVariables false
set_option linter.unusedSimpArgs false
set_option linter.unusedSectionVars false
/- TopWorn: draws; the loop over the uses of a block. -/
set_option linter.unusedVariables false
set_option linter.unusedSimpArgs false
set_option maxRecDepth 10000
set_option maxHeartbeats 4000000
namespace Go.X.Wm
open Go Go.Proofs Go.X Go.X.Wr
open Go.X.W (drawV dA s53 bd53 s15 bd15)
theorem drawV_in' {p : Par} (hp : ParOk p) {c lo hi : Int} (h : lo ≤ hi) (hc : 0 ≤ c) : lo ≤ drawV p.m p.o c lo hi ∧ drawV p.m p.o c lo hi ≤ hi := by
  unfold drawV
  split
  · omega
  · have hm : 0 ≤ (c + 1).tmod (p.m : Int) := Int.tmod_nonneg _ (by omega)
    have hl := Int.tmod_lt_of_pos (c + 1) (show (0 : Int) < (p.m : Int) by omega)
    have ho := hp.o ((c + 1).tmod (p.m : Int)).toNat (by omega)
    have h1 : 0 ≤ p.o ((c + 1).tmod (p.m : Int)).toNat + 71 * (c + 1) := by omega
    have h2 := Int.tmod_nonneg (hi - lo + 1) h1
    have h3 := Int.tmod_lt_of_pos (p.o ((c + 1).tmod (p.m : Int)).toNat + 71 * (c + 1)) (show 0 < hi - lo + 1 by omega)
    omega
def fnD : SV := .fn (.func 31) [] [.sp 8 0, .sp 9 0]
def drH (p : Par) (c : Int) (H : List (Nat × HB)) : List (Nat × HB) := (2, .ro 1 p.m fun i => [.si .u16 (p.o i)]) :: (8, .cells 3 [.si .i64 (c + 1)]) :: (9, .cells 25 [.sl 2]) :: H
theorem callS_draw {p : Par} (hp : ParOk p) {c lo hi : Int} {H : List (Nat × HB)} {nx : Nat} {Rv : SV → List (Nat × HB) → Nat → Prop} {Rp : List PanicEntry → List (Nat × HB) → Nat → Prop}
    (h1 : findH H 2 = some (.ro 1 p.m fun i => [.si .u16 (p.o i)])) (h6 : findH H 8 = some (.cells 3 [.si .i64 c])) (h5 : findH H 9 = some (.cells 25 [.sl 2])) (hc : 0 ≤ c ∧ c ≤ 100000) (hl : -1000000 ≤ lo ∧ lo ≤ hi ∧ hi ≤ 1000000)
    (hRv : Rv (.si .i64 (drawV p.m p.o c lo hi)) (drH p c H) nx) : CallS P 31 [.agg [.si .i64 lo, .si .i64 hi], .sp 8 0, .sp 9 0] H nx Rv Rp := by
  refine callS_at [.agg [.si .i64 lo, .si .i64 hi], .sp 1 0, .sp 2 0] (dA p.m p.o c) 3 (fun j => match j with | 0 => 2 | 1 => 8 | _ => 9) (by repeat' (first | exact trivial | exact rfl | refine And.intro ?_ ?_)) rfl ?_ rfl rfl ?_
  · refine ⟨?_, ?_, ?_, trivial⟩
    · show (match findH H 2 with | some hc => lessHB _ 3 hc _ ∧ _ | _ => False)
      rw [h1]
      exact ⟨⟨rfl, rfl, fun i hi => ⟨rfl, rfl⟩⟩, rfl⟩
    · show (match findH H 8 with | some hc => lessHB _ 3 hc _ ∧ _ | _ => False)
      rw [h6]
      exact ⟨⟨rfl, ⟨⟨rfl, rfl⟩, trivial⟩, rfl⟩, rfl⟩
    · show (match findH H 9 with | some hc => lessHB _ 3 hc _ ∧ _ | _ => False)
      rw [h5]
      exact ⟨⟨rfl, ⟨rfl, trivial⟩, rfl⟩, rfl⟩
  · exact s53 hp.m hp.o hc hl ⟨rfl, (by repeat' (first | exact trivial | exact rfl | (intro i hi; exact ⟨rfl, rfl⟩) | refine And.intro ?_ ?_)), (by repeat' (first | exact trivial | exact rfl | (intro i hi; exact rfl) | refine And.intro ?_ ?_)), by rw [fSV_eq, fRenH_eq, natF_eq]; exact hRv⟩
/-- Where the sum stands. -/
structure Sm where
  i : Nat
  now : Int
  mn : Nat
  c : Int
def b39 (p : Par) (f : Fnd) (r : Int) (z : Sm) : List (Nat × FE) := [(6, ⟨[], .sp 4 0⟩), (11, ⟨[], .sp 5 0⟩), (17, ⟨[], .sp 7 0⟩), (18, ⟨[], .si .i64 (f.x : Int)⟩), (24, ⟨[], .si .i64 r⟩), (29, ⟨[], fnD⟩), (30, ⟨[], .si .i64 z.now⟩), (31, ⟨[], .sb (decide (z.mn = 0))⟩), (191, ⟨[], .sl 1⟩), (192, ⟨[], .si .i64 (p.N : Int)⟩), (193, ⟨[], .si .i64 (z.i : Int)⟩)]
def h39 (p : Par) (f : Fnd) (c : Int) : List (Nat × HB) := (8, .cells 3 [.si .i64 c]) :: (9, .cells 25 [.sl 2]) :: h28 p f
def b46 (p : Par) (f : Fnd) (r : Int) (i : Nat) (now : Int) (k : Nat) : List (Nat × FE) := [(6, ⟨[], .sp 4 0⟩), (11, ⟨[], .sp 5 0⟩), (17, ⟨[], .sp 7 0⟩), (18, ⟨[], .si .i64 (f.x : Int)⟩), (24, ⟨[], .si .i64 r⟩), (29, ⟨[], fnD⟩), (30, ⟨[], .si .i64 now⟩), (31, ⟨[], .sb false⟩), (33, ⟨[], .sp 10 0⟩), (191, ⟨[], .sl 1⟩), (192, ⟨[], .si .i64 (p.N : Int)⟩), (193, ⟨[], .si .i64 (i : Int)⟩), (219, ⟨[], .si .i64 r⟩), (220, ⟨[], .si .i64 (k : Int)⟩)]
def h46 (p : Par) (f : Fnd) (i : Nat) (c : Int) : List (Nat × HB) := (10, .cells 33 (wbC (p.g i))) :: h39 p f c
section
variable {G : Base} {p : Par} {f : Fnd} {K : Ex → St → Prop}
theorem subLoop (hG : ∀ j, 4 ≤ j → G.ρ j = none) (hp : ParOk p) {i : Nat} (hu : 0 ≤ (p.g i).u1 ∧ (p.g i).u1 ≤ (p.g i).u2 ∧ (p.g i).u2 ≤ 3) {r now c : Int} (hr : 0 ≤ r ∧ r ≤ 100) (hnow : -100000 ≤ now ∧ now ≤ 100000) (hc : 0 ≤ c ∧ c ≤ 50000)
    (hK : ∀ now', now - r * (p.g i).u2 ≤ now' → now' ≤ now → K (.exit 6) ⟨(221, ⟨[], .sb (decide ((r.toNat : Int) < r))⟩) :: b46 p f r i now' r.toNat, [], h46 p f i (c + (r.toNat : Int)), 11, []⟩) :
    SemC (X3 G) (lpB 6 (code Tryd.f3)) ⟨b46 p f r i now 0, [], h46 p f i c, 11, []⟩ K := by
  refine loop_okR (ok3 G) 4 (fun z : {z : Nat × Int // (z.1 : Int) ≤ r ∧ now - (z.1 : Int) * (p.g i).u2 ≤ z.2 ∧ z.2 ≤ now} => ⟨b46 p f r i z.1.2 z.1.1, [], h46 p f i (c + (z.1.1 : Int)), 11, []⟩) (fun z => r.toNat - z.1.1) hG ⟨(0, now), by show ((0 : Nat) : Int) ≤ r; omega, by show now - ((0 : Nat) : Int) * _ ≤ now; rw [show ((0 : Nat) : Int) = 0 from rfl, Int.zero_mul]; omega, Int.le_refl _⟩ (fun j => j) ?_ ?_
  · have e0 : c = c + ((0 : Nat) : Int) := by omega
    refine ⟨?_, ?_, rfl, rfl, rfl, rfl, trivial⟩ <;> repeat' (first | exact trivial | exact rfl | exact e0 | (intro i hi; exact ⟨rfl, rfl⟩) | (intro v m g h; exact h) | refine And.intro ?_ ?_)
  rintro ⟨⟨k, nw⟩, hk, h1, h2⟩
  have hk : (k : Int) ≤ r := hk
  have h1 : now - (k : Int) * (p.g i).u2 ≤ nw := h1
  have h2 : nw ≤ now := h2
  have hku : 0 ≤ (k : Int) * (p.g i).u2 ∧ (k : Int) * (p.g i).u2 ≤ 100 * 3 := ⟨Int.mul_nonneg (by omega) (by omega), Int.mul_le_mul (by omega) (by omega) (by omega) (by decide)⟩
  refine Br.mk (fun h => ?_) (fun h => ?_)
  · have h : (k : Int) < r := of_decide_eq_true h
    refine fb_call (ok3 G) cont_std rfl rfl rfl rfl ⟨bd53, callS_draw (c := c + (k : Int)) (lo := (p.g i).u1) (hi := (p.g i).u2) hp rfl rfl rfl (by omega) (by omega) ?_⟩
    have hdi := drawV_in' hp (c := c + (k : Int)) hu.2.1 (by omega)
    have hek : ((k + 1 : Nat) : Int) * (p.g i).u2 = (k : Int) * (p.g i).u2 + (p.g i).u2 := by rw [show ((k + 1 : Nat) : Int) = (k : Int) + 1 by omega, Int.add_mul, Int.one_mul]
    have ec : c + (k : Int) + 1 = c + ((k + 1 : Nat) : Int) := by omega
    refine Chk.mk (show InK .i64 (nw - drawV p.m p.o (c + (k : Int)) (p.g i).u1 (p.g i).u2) from ⟨by omega, by omega⟩) ?_
    refine Chk.mk (show InK .i64 ((k : Int) + 1) from ⟨by omega, by omega⟩) ⟨⟨(k + 1, nw - drawV p.m p.o (c + (k : Int)) (p.g i).u1 (p.g i).u2), by show ((k + 1 : Nat) : Int) ≤ r; omega, by show now - ((k + 1 : Nat) : Int) * _ ≤ nw - _; rw [hek]; omega, by show nw - _ ≤ now; omega⟩, (fun j => j), ?_, by show r.toNat - (k + 1) < r.toNat - k; omega⟩
    refine ⟨?_, ?_, rfl, rfl, rfl, rfl, trivial⟩ <;> repeat' (first | exact trivial | exact rfl | exact ec | (intro k hk; exact ⟨rfl, rfl⟩) | (intro v m g h; exact h) | refine And.intro ?_ ?_)
  · have h : ¬ (k : Int) < r := of_decide_eq_false h
    obtain rfl : k = r.toNat := by omega
    have er : ((r.toNat : Nat) : Int) = r := by omega
    exact hK nw (by rw [er] at h1; exact h1) h2
end
end Go.X.Wm
end

section
set_option linter.unusedVariables false
set_option linter.unusedSimpArgs false
set_option linter.unusedSectionVars false
/- TopWorn: the sum over blocks. -/
set_option linter.unusedVariables false
set_option linter.unusedSimpArgs false
set_option maxRecDepth 10000
set_option maxHeartbeats 4000000
namespace Go.X.Wm
open Go Go.Proofs Go.X Go.X.Wr
open Go.X.W (drawV dA s53 bd53 s15 bd15)
def wLo (p : Par) (x : Nat) (i : Nat) : Int := S.wS (fun j => (spW p j).1) p.flo x i
def wHi (p : Par) (x : Nat) (i : Nat) : Int := S.wS (fun j => (spW p j).2) p.fhi x i
structure SmOk (p : Par) (f : Fnd) (z : Sm) : Prop where
  i : z.i ≤ p.N
  mn : z.mn = S.cntB f.x z.i
  lo : wLo p f.x z.i - (z.mn : Int) * f.sh ≤ z.now
  hi : z.now ≤ wHi p f.x z.i
  c0 : 0 ≤ z.c
  c1 : z.c ≤ 200 * (z.i : Int)
theorem SmOk.step {p : Par} {f : Fnd} {z : Sm} (h : SmOk p f z) (hi : z.i < p.N) (hb : f.x.testBit z.i = true) {th d n c sb : Int} (hth : (z.mn = 0 ∧ th = 0) ∨ (0 < z.mn ∧ p.flo ≤ th ∧ th ≤ p.fhi)) (hd : (spW p z.i).1 ≤ d ∧ d ≤ (spW p z.i).2)
    (hs : 0 ≤ sb ∧ sb ≤ f.sh) (e1 : n = z.now + th + d - sb) (hc : 0 ≤ c ∧ c ≤ 200 * ((z.i + 1 : Nat) : Int)) : SmOk p f ⟨z.i + 1, n, z.mn + 1, c⟩ := by
  have h1 := h.lo
  have h2 := h.hi
  have h5 := h.mn
  have em : ((z.mn + 1 : Nat) : Int) * f.sh = (z.mn : Int) * f.sh + f.sh := by
    rw [show ((z.mn + 1 : Nat) : Int) = (z.mn : Int) + 1 by omega, Int.add_mul, Int.one_mul]
  refine ⟨hi, ?_, ?_, ?_, hc.1, hc.2⟩
  · show z.mn + 1 = S.cntB f.x (z.i + 1)
    rw [S.cntB, if_pos hb, h5]
  · show wLo p f.x (z.i + 1) - ((z.mn + 1 : Nat) : Int) * f.sh ≤ n
    rw [em]
    unfold wLo at h1 ⊢
    rw [S.wS, if_pos hb, ← h5]
    rcases hth with ⟨k1, k2⟩ | ⟨k1, k2, k3⟩
    · rw [if_neg (by omega)]; omega
    · rw [if_pos k1]; omega
  · show n ≤ wHi p f.x (z.i + 1)
    unfold wHi at h2 ⊢
    rw [S.wS, if_pos hb, ← h5]
    rcases hth with ⟨k1, k2⟩ | ⟨k1, k2, k3⟩
    · rw [if_neg (by omega)]; omega
    · rw [if_pos k1]; omega
theorem cntB_le (x : Nat) : ∀ i, S.cntB x i ≤ i
  | 0 => Nat.le_refl _
  | i + 1 => by
    have := cntB_le x i
    unfold S.cntB
    split <;> omega
theorem wS_b {f : Nat → Int} {film : Int} {x : Nat} (hf : 0 ≤ film ∧ film ≤ 5) : ∀ i, (∀ j, j < i → 0 ≤ f j ∧ f j ≤ 500) → 0 ≤ S.wS f film x i ∧ S.wS f film x i ≤ 505 * (S.cntB x i : Int)
  | 0, _ => by unfold S.wS S.cntB; omega
  | i + 1, h => by
    have h1 := wS_b hf i (fun j hj => h j (by omega)) (x := x) (f := f)
    have h2 := h i (by omega)
    unfold S.wS S.cntB
    split
    · split <;> omega
    · exact h1
section
variable {G : Base} {p : Par} {f : Fnd} {K : Ex → St → Prop}
theorem sumLoop (hG : ∀ j, 4 ≤ j → G.ρ j = none) (hp : ParOk p) (hI : ∀ j, j < p.N → blkI p j) (hx : f.x < 256) (hf : 0 ≤ p.flo ∧ p.flo ≤ p.fhi ∧ p.fhi ≤ 5) (hs : ∀ j, j < p.N → 1 ≤ (spW p j).1 ∧ (spW p j).1 ≤ (spW p j).2 ∧ (spW p j).2 ≤ 500) (hsh : 0 ≤ f.sh ∧ f.sh ≤ 600)
    {r : Int} (hr0 : 0 ≤ r ∧ r ≤ 100) (hr : ∀ j, j < p.N → f.x.testBit j = true → r * (p.g j).u2 ≤ f.sh)
    (hK : ∀ z, SmOk p f z → z.i = p.N → K (.exit 4) ⟨(194, ⟨[], .sb (decide ((z.i : Int) < (p.N : Int)))⟩) :: b39 p f r z, [], h39 p f z.c, 10, []⟩) :
    SemC (X3 G) (lpB 4 (code Tryd.f3)) ⟨b39 p f r ⟨0, 0, 0, 0⟩, [], h39 p f 0, 10, []⟩ K := by
  have hN := hp.N
  refine loop_okR (ok3 G) 4 (fun z : {z : Sm // SmOk p f z} => ⟨b39 p f r z.1, [], h39 p f z.1.c, 10, []⟩) (fun z => p.N - z.1.i) hG ⟨⟨0, 0, 0, 0⟩, Nat.zero_le _, rfl, by show S.wS _ _ _ 0 - ((0 : Nat) : Int) * f.sh ≤ 0; rw [show ((0 : Nat) : Int) = 0 from rfl, Int.zero_mul, S.wS]; decide, by show (0 : Int) ≤ S.wS _ _ _ 0; rw [S.wS]; decide, Int.le_refl _, by show (0 : Int) ≤ 200 * ((0 : Nat) : Int); decide⟩ (fun j => j) ?_ ?_
  · refine ⟨?_, ?_, rfl, rfl, rfl, rfl, trivial⟩ <;> repeat' (first | exact trivial | exact rfl | exact List.Perm.refl _ | (intro i hi; exact ⟨rfl, rfl⟩) | (intro v m g h; exact h) | refine And.intro ?_ ?_)
  rintro ⟨⟨i, now, mn, c⟩, hz⟩
  have hi' : i ≤ p.N := hz.i
  have hmn : mn = S.cntB f.x i := hz.mn
  have hlo : wLo p f.x i - (mn : Int) * f.sh ≤ now := hz.lo
  have hhi : now ≤ wHi p f.x i := hz.hi
  have hc0 : 0 ≤ c := hz.c0
  have hc1 : c ≤ 200 * (i : Int) := hz.c1
  have hm1 := cntB_le f.x i
  have hw1 := wS_b (x := f.x) (film := p.flo) (f := fun j => (spW p j).1) (by omega) i (fun j hj => by have h2 := hs j (by omega); show 0 ≤ (spW p j).1 ∧ (spW p j).1 ≤ 500; omega)
  have hw2 := wS_b (x := f.x) (film := p.fhi) (f := fun j => (spW p j).2) (by omega) i (fun j hj => by have h2 := hs j (by omega); show 0 ≤ (spW p j).2 ∧ (spW p j).2 ≤ 500; omega)
  have hms : 0 ≤ (mn : Int) * f.sh ∧ (mn : Int) * f.sh ≤ 8 * 600 := ⟨Int.mul_nonneg (by omega) (by omega), Int.mul_le_mul (by omega) (by omega) (by omega) (by decide)⟩
  have hnow : -5000 ≤ now ∧ now ≤ 5000 := by unfold wLo at hlo; unfold wHi at hhi; omega
  refine Br.mk (fun h => ?_) (fun h => ?_)
  · have h : (i : Int) < (p.N : Int) := of_decide_eq_true h
    have hiN : i < p.N := by omega
    have hB := hI i hiN
    have hu := wd_u hB
    have hss := hs i hiN
    refine Chk.mk (show (0 : Int) ≤ (i : Int) ∧ (i : Int) < (p.N : Int) from ⟨by omega, h⟩) ?_
    refine Chk.mk (show (0 : Int) ≤ (i : Int) ∧ (i : Int).toNat ≤ IntKind.i64.bits from ⟨by omega, by show (i : Int).toNat ≤ 64; omega⟩) ?_
    have hsb := shr_b (S := f.x) (w := i) hx
    refine Chk.mk ⟨hsb.1, by decide, (show InK .i64 (((f.x : Nat) : Int).fdiv (2 ^ (i : Int).toNat)) from ⟨by omega, by omega⟩), by decide, by decide⟩ ?_
    refine Br.mk (fun h4 => ?_) (fun h4 => ?_)
    · have h4 : decide (((((f.x : Nat) : Int).fdiv (2 ^ (i : Int).toNat)).toNat &&& (1 : Int).toNat : Nat) = (0 : Int)) = true := h4
      rw [shr_bit] at h4
      have hbit : f.x.testBit i = false := by
        cases hb : f.x.testBit i with
        | false => rfl
        | true => rw [hb] at h4; simp at h4
      refine Chk.mk (show InK .i64 ((i : Int) + 1) from ⟨by omega, by omega⟩) ⟨⟨⟨i + 1, now, mn, c⟩, (by omega : i + 1 ≤ p.N), ?_, ?_, ?_, hc0, ?_⟩, (fun j => j), ?_, by show p.N - (i + 1) < p.N - i; omega⟩
      · show mn = S.cntB f.x (i + 1)
        rw [S.cntB, hbit]; simp [hmn]
      · show wLo p f.x (i + 1) - (mn : Int) * f.sh ≤ now
        unfold wLo at hlo ⊢; rw [S.wS, hbit]; exact hlo
      · show now ≤ wHi p f.x (i + 1)
        unfold wHi at hhi ⊢; rw [S.wS, hbit]; exact hhi
      · show c ≤ 200 * ((i + 1 : Nat) : Int)
        omega
      · refine ⟨?_, ?_, rfl, rfl, rfl, rfl, trivial⟩ <;> repeat' (first | exact trivial | exact rfl | exact List.Perm.refl _ | (intro i hi; exact ⟨rfl, rfl⟩) | (intro v m g h; exact h) | refine And.intro ?_ ?_)
    have h4 : decide (((((f.x : Nat) : Int).fdiv (2 ^ (i : Int).toNat)).toNat &&& (1 : Int).toNat : Nat) = (0 : Int)) = false := h4
    rw [shr_bit] at h4
    have hbit : f.x.testBit i = true := by
      cases hb : f.x.testBit i with
      | true => rfl
      | false => rw [hb] at h4; simp at h4
    have hru := hr i hiN hbit
    have hru0 : 0 ≤ r * (p.g i).u2 := Int.mul_nonneg (by omega) (by omega)
    refine Br.mk (fun h5 => ?_) (fun h5 => ?_)
    · have h5 : (!decide (mn = 0)) = true := h5
      have h5 : 0 < mn := by
        have h5 : ¬ mn = 0 := by simpa using h5
        omega
      refine fb_call (ok3 G) cont_std rfl rfl rfl rfl ⟨bd53, callS_draw (c := c) (lo := p.flo) (hi := p.fhi) hp rfl rfl rfl (by omega) (by omega) ?_⟩
      have hdf : p.flo ≤ drawV p.m p.o c p.flo p.fhi ∧ drawV p.m p.o c p.flo p.fhi ≤ p.fhi := drawV_in' hp hf.2.1 hc0
      obtain ⟨th, hth⟩ : ∃ th, drawV p.m p.o c p.flo p.fhi = th := ⟨_, rfl⟩
      refine Chk.mk (show InK .i64 (now + drawV p.m p.o c p.flo p.fhi) from ⟨by omega, by omega⟩) ?_
      refine Chk.mk (show (0 : Int) ≤ (i : Int) ∧ (i : Int) < (p.N : Int) from ⟨by omega, h⟩) ?_
      refine fb_call (ok3 G) cont_std rfl rfl rfl rfl ⟨bd53, callS_draw (c := c + 1) (lo := (spW p i).1) (hi := (spW p i).2) hp rfl rfl rfl (by omega) (by omega) ?_⟩
      have hdi := drawV_in' hp (c := c + 1) hss.2.1 (by omega)
      refine Chk.mk (show InK .i64 (now + drawV p.m p.o c p.flo p.fhi + drawV p.m p.o (c + 1) (spW p i).1 (spW p i).2) from ⟨by omega, by omega⟩) ?_
      refine (show SemC _ _ _ _ from ?_)
      refine sem_weaken (st' := ⟨b46 p f r i (now + drawV p.m p.o c p.flo p.fhi + drawV p.m p.o (c + 1) (spW p i).1 (spW p i).2) 0, [], h46 p f i (c + 1 + 1), 11, []⟩) 4 (fun j => j) hG (by
        refine ⟨?_, ?_, rfl, rfl, rfl, rfl, trivial⟩ <;> repeat' (first | exact trivial | exact rfl | exact List.Perm.refl _ | (intro i hi; exact ⟨rfl, rfl⟩) | (intro v m g h; exact h) | refine And.intro ?_ ?_)) ?_
      refine subLoop hG hp hu hr0 ⟨by omega, by omega⟩ ⟨by omega, by omega⟩ fun now' h6 h7 => ?_
      refine Chk.mk (show InK .i64 ((i : Int) + 1) from ⟨by omega, by omega⟩) ⟨⟨⟨i + 1, now', mn + 1, c + 1 + 1 + (r.toNat : Int)⟩, hz.step hiN hbit (th := drawV p.m p.o c p.flo p.fhi) (d := drawV p.m p.o (c + 1) (spW p i).1 (spW p i).2) (sb := (now + drawV p.m p.o c p.flo p.fhi + drawV p.m p.o (c + 1) (spW p i).1 (spW p i).2) - now') (.inr ⟨h5, hdf.1, hdf.2⟩) hdi ⟨by omega, by omega⟩ (by show now' = now + (drawV p.m p.o c p.flo p.fhi) + drawV p.m p.o (c + 1) (spW p i).1 (spW p i).2 - ((now + drawV p.m p.o c p.flo p.fhi + drawV p.m p.o (c + 1) (spW p i).1 (spW p i).2) - now'); omega) (by show 0 ≤ c + 1 + 1 + (r.toNat : Int) ∧ c + 1 + 1 + (r.toNat : Int) ≤ 200 * ((i + 1 : Nat) : Int); omega)⟩, (fun j => j), ?_, by show p.N - (i + 1) < p.N - i; omega⟩
      have ef : false = decide (mn + 1 = 0) := by rw [decide_eq_false (by omega)]
      refine ⟨?_, ?_, rfl, rfl, rfl, rfl, trivial⟩ <;> repeat' (first | exact ef | exact trivial | exact rfl | exact List.Perm.refl _ | (intro i hi; exact ⟨rfl, rfl⟩) | (intro v m g h; exact h) | refine And.intro ?_ ?_)
    · have h5 : (!decide (mn = 0)) = false := h5
      have h5 : mn = 0 := by simpa using h5
      refine Chk.mk (show (0 : Int) ≤ (i : Int) ∧ (i : Int) < (p.N : Int) from ⟨by omega, h⟩) ?_
      refine fb_call (ok3 G) cont_std rfl rfl rfl rfl ⟨bd53, callS_draw (c := c) (lo := (spW p i).1) (hi := (spW p i).2) hp rfl rfl rfl (by omega) (by omega) ?_⟩
      have hdi := drawV_in' hp (c := c) hss.2.1 (by omega)
      refine Chk.mk (show InK .i64 (now + drawV p.m p.o (c) (spW p i).1 (spW p i).2) from ⟨by omega, by omega⟩) ?_
      refine (show SemC _ _ _ _ from ?_)
      refine sem_weaken (st' := ⟨b46 p f r i (now + drawV p.m p.o (c) (spW p i).1 (spW p i).2) 0, [], h46 p f i (c + 1), 11, []⟩) 4 (fun j => j) hG (by
        refine ⟨?_, ?_, rfl, rfl, rfl, rfl, trivial⟩ <;> repeat' (first | exact trivial | exact rfl | exact List.Perm.refl _ | (intro i hi; exact ⟨rfl, rfl⟩) | (intro v m g h; exact h) | refine And.intro ?_ ?_)) ?_
      refine subLoop hG hp hu hr0 ⟨by omega, by omega⟩ ⟨by omega, by omega⟩ fun now' h6 h7 => ?_
      refine Chk.mk (show InK .i64 ((i : Int) + 1) from ⟨by omega, by omega⟩) ⟨⟨⟨i + 1, now', mn + 1, c + 1 + (r.toNat : Int)⟩, hz.step hiN hbit (th := (0 : Int)) (d := drawV p.m p.o (c) (spW p i).1 (spW p i).2) (sb := (now + drawV p.m p.o (c) (spW p i).1 (spW p i).2) - now') (.inl ⟨h5, rfl⟩) hdi ⟨by omega, by omega⟩ (by show now' = now + ((0 : Int)) + drawV p.m p.o (c) (spW p i).1 (spW p i).2 - ((now + drawV p.m p.o (c) (spW p i).1 (spW p i).2) - now'); omega) (by show 0 ≤ c + 1 + (r.toNat : Int) ∧ c + 1 + (r.toNat : Int) ≤ 200 * ((i + 1 : Nat) : Int); omega)⟩, (fun j => j), ?_, by show p.N - (i + 1) < p.N - i; omega⟩
      have ef : false = decide (mn + 1 = 0) := by rw [decide_eq_false (by omega)]
      refine ⟨?_, ?_, rfl, rfl, rfl, rfl, trivial⟩ <;> repeat' (first | exact ef | exact trivial | exact rfl | exact List.Perm.refl _ | (intro i hi; exact ⟨rfl, rfl⟩) | (intro v m g h; exact h) | refine And.intro ?_ ?_)
  · have h : ¬ (i : Int) < (p.N : Int) := of_decide_eq_false h
    obtain rfl : i = p.N := by omega
    exact hK _ hz rfl
end
end Go.X.Wm
end

section
set_option linter.unusedVariables false
set_option linter.unusedSimpArgs false
set_option linter.unusedSectionVars false
/- TopWorn: the walk. -/
set_option linter.unusedVariables false
set_option linter.unusedSimpArgs false
set_option maxRecDepth 10000
set_option maxHeartbeats 4000000
namespace Go.X.Wm
open Go Go.Proofs Go.X Go.X.Wr
open Go.X.W (drawV dA s53 bd53 s15 bd15)
theorem few_cases {L : List Span} {lo hi a b : Int} (h : S.errV L lo hi (S.isWantB a b) = 0) : (∃ f, S.foundX L.length (S.qIn L lo hi (a, b)) = some f ∧ S.fewW L lo hi a b = ((f.least : Int), 0)) ∨ S.fewW L lo hi a b = (0, 4) := by
  unfold S.fewW
  rw [if_pos h]
  cases hf : S.foundX L.length (S.qIn L lo hi (a, b)) with
  | none => exact .inr rfl
  | some f => exact .inl ⟨f, rfl, rfl⟩
theorem found_least {n : Nat} {q : Nat → Bool} {f : S.Fd} (h : S.foundX n q = some f) : 0 < f.least ∧ f.least < 2 ^ n ∧ q f.least = true := by
  refine S.J_all (fun f => 0 < f.least ∧ f.least < 2 ^ n ∧ q f.least = true) (fun f x hf hx => ?_) (fun x hx => ?_) h
  · simp only [S.join]
    split
    · exact hx
    · exact hf
  · obtain ⟨y, hy, rfl⟩ := List.mem_map.1 hx
    obtain ⟨h1, h2⟩ := List.mem_filter.1 hy
    rw [Bool.and_eq_true, decide_eq_true_eq] at h2
    exact ⟨h2.1, List.mem_range.1 h1, h2.2⟩
theorem isSet_of {n x : Nat} (h0 : 0 < x) (h1 : x < 2 ^ n) : S.isSetB n (x : Int) = true := by
  have h3 : ((2 ^ n : Nat) : Int) = (2 : Int) ^ n := by rw [Int.natCast_pow]; rfl
  simp only [S.isSetB, Bool.and_eq_true, decide_eq_true_eq, ← h3]
  omega
theorem long_of {L : List Span} {lo hi : Int} {x : Nat} (hs : S.setOk L lo hi = true) (h0 : 0 < x) (h1 : x < 2 ^ L.length) : S.errV L lo hi (S.isSetB L.length (x : Int)) = 0 ∧ S.longV L lo hi (x : Int) = S.ofL L lo hi x := by
  have e : S.errV L lo hi (S.isSetB L.length (x : Int)) = 0 := by unfold S.errV; rw [hs, isSet_of h0 h1]; rfl
  refine ⟨e, ?_⟩
  unfold S.longV
  rw [if_pos e, Int.toNat_natCast]
theorem s3 {p : Par} (hp0 : p.N ≤ 8 → ParOk p) : CallS P 3 (A3 p) (H3 p) 4 (fun v _ _ => v = .sb true) (fun _ _ _ => False) := by
  refine callS_exec good3.ok Tryd.func3 (c := code Tryd.f3) rfl (Nat.le_of_ble_eq_true rfl) fun G hG => ?_
  refine Br.mk (fun h => ?_) (fun h => ?_)
  · refine Chk.mk ⟨rfl, rfl⟩ ?_
    exact rfl
  have h : ¬ (8 : Int) < (p.N : Int) := of_decide_eq_false h
  have hN : p.N ≤ 8 := by omega
  have hp := hp0 hN
  refine (show SemC _ _ _ _ from ?_)
  refine sem_nilVec 5 30 24 2 (fun j => spanC (spW p j)) _ [.sl 6, .si .i64 p.flo, .si .i64 p.fhi] rfl rfl ?_
  refine sem_weaken (st' := ⟨bF p 0, [], hB p 0, 7, []⟩) 4 (fun j => j) hG (by
    refine ⟨?_, ?_, rfl, rfl, rfl, rfl, trivial⟩ <;> repeat' (first | exact trivial | exact rfl | (intro i hi; exact absurd hi (Nat.not_lt_zero _)) | (intro i hi; exact ⟨rfl, rfl⟩) | (intro v m g h; exact h) | refine And.intro ?_ ?_)) ?_
  refine blkLoop hG hp (fun F gs H nx => rfl) fun hI => ?_
  obtain ⟨L, hL⟩ : ∃ L, (List.range p.N).map (spW p) = L := ⟨_, rfl⟩
  have hLn : L.length = p.N := by rw [← hL]; simp
  refine Chk.mk ⟨S.spans_sp _ _, rfl, trivial⟩ ?_
  refine Br.mk (fun h2 => ?_) (fun h2 => ?_)
  · refine Chk.mk ⟨rfl, rfl⟩ ?_
    exact rfl
  have h2 : (!S.setOk ((List.range p.N).map (spW p)) p.flo p.fhi) = false := h2
  have h2 : S.setOk L p.flo p.fhi = true := by rw [← hL]; simpa using h2
  obtain ⟨q1, q2, q3, q4, q5⟩ := S.setOk_len h2
  have ha := hp.at_
  have hw := hp.wide
  have hlo := Int.tmod_nonneg 5001 ha.1
  have hlo2 := Int.tmod_lt_of_pos p.at_ (show (0 : Int) < 5001 by decide)
  refine Chk.mk (show InK .i64 p.at_ from ⟨by omega, by omega⟩) (Chk.mk (show (5001 : Int) ≠ 0 by decide) (Chk.mk (show InK .i64 p.wide from ⟨by omega, by omega⟩) (Chk.mk (show InK .i64 (p.at_.tmod 5001 + p.wide) from ⟨by omega, by omega⟩) ?_)))
  refine Chk.mk ⟨S.spans_sp _ _, rfl, (show ((List.range p.N).map (spW p)).length ≤ 40 by rw [hL]; omega)⟩ ?_
  have hwant : S.isWantB (p.at_.tmod 5001) (min 5000 (p.at_.tmod 5001 + p.wide)) = true := by
    unfold S.isWantB
    simp only [Bool.and_eq_true, decide_eq_true_eq]
    omega
  have herr : S.errV L p.flo p.fhi (S.isWantB (p.at_.tmod 5001) (min 5000 (p.at_.tmod 5001 + p.wide))) = 0 := by
    unfold S.errV; rw [h2, hwant]; rfl
  have hfew := few_cases (L := L) herr
  rw [← hL] at hfew
  refine Br.mk (fun h3 => ?_) (fun h3 => ?_)
  · have h3 : (!decide ((S.fewW ((List.range p.N).map (spW p)) p.flo p.fhi (p.at_.tmod 5001) (min 5000 (p.at_.tmod 5001 + p.wide))).2 = 0)) = true := h3
    refine Chk.mk (fun _ => ⟨rfl, rfl⟩) ?_
    rcases hfew with ⟨f, hf, he⟩ | he
    · rw [he] at h3; simp at h3
    · refine (show SV.sb (decide ((S.fewW ((List.range p.N).map (spW p)) p.flo p.fhi (p.at_.tmod 5001) (min 5000 (p.at_.tmod 5001 + p.wide))).2 = 4) && true) = .sb true from ?_)
      rw [he]; rfl
  have h3 : (!decide ((S.fewW ((List.range p.N).map (spW p)) p.flo p.fhi (p.at_.tmod 5001) (min 5000 (p.at_.tmod 5001 + p.wide))).2 = 0)) = false := h3
  rcases hfew with ⟨f, hf, he⟩ | he
  case inr => rw [he] at h3; simp at h3
  rw [hL] at hf
  obtain ⟨hx0, hx1, hx2⟩ := found_least hf
  obtain ⟨hE, hLg⟩ := long_of h2 hx0 hx1
  have he1 : (S.fewW ((List.range p.N).map (spW p)) p.flo p.fhi (p.at_.tmod 5001) (min 5000 (p.at_.tmod 5001 + p.wide))).1 = (f.least : Int) := by rw [he]
  have hx256 : f.least < 256 := Nat.lt_of_lt_of_le hx1 (S.pow_le8 q1)
  have hof := S.ofW_ofL (L := L) (lo := p.flo) (hi := p.fhi) hx0 hx1
  have hof' := hof
  rw [← hL, S.ofW_map, hL] at hof
  have e1 : wLo p f.least p.N = (S.ofL L p.flo p.fhi f.least).1 := congrArg Prod.fst hof
  have e2 : wHi p f.least p.N = (S.ofL L p.flo p.fhi f.least).2 := congrArg (fun q => q.2.1) hof
  have e3 : ((S.cntB f.least p.N : Nat) : Int) = (S.sizeN f.least : Int) := congrArg (fun q => q.2.2) hof
  have hpos := S.sizeN_ge hx0
  have hx2 : (decide (p.at_.tmod 5001 ≤ (S.ofL L p.flo p.fhi f.least).1) && decide ((S.ofL L p.flo p.fhi f.least).2 ≤ min 5000 (p.at_.tmod 5001 + p.wide))) = true := hx2
  simp only [Bool.and_eq_true, decide_eq_true_eq] at hx2
  have hsp : ∀ j, j < p.N → 1 ≤ (spW p j).1 ∧ (spW p j).1 ≤ (spW p j).2 ∧ (spW p j).2 ≤ 500 := fun j hj => by
    have h := q5 (spW p j) (by rw [← hL]; exact List.mem_map.2 ⟨j, List.mem_range.2 hj, rfl⟩)
    exact ⟨h.1, h.2.1, h.2.2.1⟩
  have hm1 := cntB_le f.least p.N
  have hwb := wS_b (x := f.least) (film := p.flo) (f := fun j => (spW p j).1) (by omega) p.N (fun j hj => by have h2 := hsp j hj; show 0 ≤ (spW p j).1 ∧ (spW p j).1 ≤ 500; omega)
  have hwb : 0 ≤ wLo p f.least p.N ∧ wLo p f.least p.N ≤ 505 * (S.cntB f.least p.N : Int) := hwb
  have eL : (S.longV ((List.range p.N).map (spW p)) p.flo p.fhi (S.fewW ((List.range p.N).map (spW p)) p.flo p.fhi (p.at_.tmod 5001) (min 5000 (p.at_.tmod 5001 + p.wide))).1) = S.ofL L p.flo p.fhi f.least := by rw [he1, hL, hLg]
  have eL1 : (S.longV ((List.range p.N).map (spW p)) p.flo p.fhi (S.fewW ((List.range p.N).map (spW p)) p.flo p.fhi (p.at_.tmod 5001) (min 5000 (p.at_.tmod 5001 + p.wide))).1).1 = wLo p f.least p.N := by rw [eL, e1]
  have eS : ((S.sizeN (S.fewW ((List.range p.N).map (spW p)) p.flo p.fhi (p.at_.tmod 5001) (min 5000 (p.at_.tmod 5001 + p.wide))).1.toNat : Nat) : Int) = (S.cntB f.least p.N : Int) := by rw [he1, Int.toNat_natCast, e3]
  refine Chk.mk ⟨S.spans_sp _ _, rfl, (show ((List.range p.N).map (spW p)).length ≤ 40 by rw [hL]; omega)⟩ ?_
  refine Chk.mk (show (S.fewW ((List.range p.N).map (spW p)) p.flo p.fhi (p.at_.tmod 5001) (min 5000 (p.at_.tmod 5001 + p.wide))).1 < 4611686018427387904 by rw [he1]; omega) ?_
  refine Br.mk (fun h4 => ?_) (fun h4 => ?_)
  · exfalso
    have h4 : ((!decide (S.errV ((List.range p.N).map (spW p)) p.flo p.fhi (S.isSetB ((List.range p.N).map (spW p)).length (S.fewW ((List.range p.N).map (spW p)) p.flo p.fhi (p.at_.tmod 5001) (min 5000 (p.at_.tmod 5001 + p.wide))).1) = 0) || decide (((S.sizeN (S.fewW ((List.range p.N).map (spW p)) p.flo p.fhi (p.at_.tmod 5001) (min 5000 (p.at_.tmod 5001 + p.wide))).1.toNat : Nat) : Int) < 1)) || decide ((S.longV ((List.range p.N).map (spW p)) p.flo p.fhi (S.fewW ((List.range p.N).map (spW p)) p.flo p.fhi (p.at_.tmod 5001) (min 5000 (p.at_.tmod 5001 + p.wide))).1).1 < p.at_.tmod 5001)) = true := h4
    rw [eL1, eS, he1, hL, hE] at h4
    simp only [Bool.or_eq_true, decide_eq_true_eq, Bool.not_eq_true', decide_eq_false_iff_not] at h4
    rcases h4 with (h4 | h4) | h4
    · first | exact h4 trivial | exact absurd h4 (by simp)
    · omega
    · omega
  have hcp : 0 < S.cntB f.least p.N := by omega
  have hsa : 0 ≤ wLo p f.least p.N - p.at_.tmod 5001 := by omega
  have hs1 := Int.tdiv_nonneg hsa (show (0 : Int) ≤ (S.cntB f.least p.N : Int) by omega)
  have hs2 : (S.cntB f.least p.N : Int) * (wLo p f.least p.N - p.at_.tmod 5001).tdiv (S.cntB f.least p.N : Int) + (wLo p f.least p.N - p.at_.tmod 5001).tmod (S.cntB f.least p.N : Int) = wLo p f.least p.N - p.at_.tmod 5001 := Int.mul_tdiv_add_tmod _ _
  have hs3 := Int.tmod_nonneg (S.cntB f.least p.N : Int) hsa
  have hs4 : (wLo p f.least p.N - p.at_.tmod 5001).tdiv (S.cntB f.least p.N : Int) ≤ 505 := by
    rcases Int.le_total (506 : Int) ((wLo p f.least p.N - p.at_.tmod 5001).tdiv (S.cntB f.least p.N : Int)) with h5 | h5
    · have : (S.cntB f.least p.N : Int) * 506 ≤ (S.cntB f.least p.N : Int) * (wLo p f.least p.N - p.at_.tmod 5001).tdiv (S.cntB f.least p.N : Int) := Int.mul_le_mul_of_nonneg_left (by omega) (by omega)
      omega
    · rcases Int.lt_or_eq_of_le h5 with h6 | h6
      · omega
      · rw [h6] at hs2; omega
  obtain ⟨sh, hsh⟩ : ∃ sh, (wLo p f.least p.N - p.at_.tmod 5001).tdiv (S.cntB f.least p.N : Int) = sh := ⟨_, rfl⟩
  rw [hsh] at hs1 hs2 hs4
  have eSh : ((S.longV ((List.range p.N).map (spW p)) p.flo p.fhi (S.fewW ((List.range p.N).map (spW p)) p.flo p.fhi (p.at_.tmod 5001) (min 5000 (p.at_.tmod 5001 + p.wide))).1).1 - p.at_.tmod 5001).tdiv ((S.sizeN (S.fewW ((List.range p.N).map (spW p)) p.flo p.fhi (p.at_.tmod 5001) (min 5000 (p.at_.tmod 5001 + p.wide))).1.toNat : Nat) : Int) = sh := by rw [eL1, eS, hsh]
  refine Chk.mk (show InK .i64 ((S.longV ((List.range p.N).map (spW p)) p.flo p.fhi (S.fewW ((List.range p.N).map (spW p)) p.flo p.fhi (p.at_.tmod 5001) (min 5000 (p.at_.tmod 5001 + p.wide))).1).1 - p.at_.tmod 5001) by rw [eL1]; exact ⟨by omega, by omega⟩) ?_
  refine Chk.mk ⟨(show ((S.sizeN (S.fewW ((List.range p.N).map (spW p)) p.flo p.fhi (p.at_.tmod 5001) (min 5000 (p.at_.tmod 5001 + p.wide))).1.toNat : Nat) : Int) ≠ 0 by rw [eS]; omega), (show InK .i64 (((S.longV ((List.range p.N).map (spW p)) p.flo p.fhi (S.fewW ((List.range p.N).map (spW p)) p.flo p.fhi (p.at_.tmod 5001) (min 5000 (p.at_.tmod 5001 + p.wide))).1).1 - p.at_.tmod 5001).tdiv ((S.sizeN (S.fewW ((List.range p.N).map (spW p)) p.flo p.fhi (p.at_.tmod 5001) (min 5000 (p.at_.tmod 5001 + p.wide))).1.toNat : Nat) : Int)) by rw [eSh]; exact ⟨by omega, by omega⟩)⟩ ?_
  obtain ⟨F, hF⟩ : ∃ F : Fnd, F = ⟨f.least, p.at_.tmod 5001, min 5000 (p.at_.tmod 5001 + p.wide), sh⟩ := ⟨_, rfl⟩
  have hFx : F.x = f.least := by rw [hF]
  have hFs : F.sh = sh := by rw [hF]
  have eF1 : (S.fewW ((List.range p.N).map (spW p)) p.flo p.fhi (p.at_.tmod 5001) (min 5000 (p.at_.tmod 5001 + p.wide))).1 = (F.x : Int) := by rw [hFx]; exact he1
  have eF2 : ((S.longV ((List.range p.N).map (spW p)) p.flo p.fhi (S.fewW ((List.range p.N).map (spW p)) p.flo p.fhi (p.at_.tmod 5001) (min 5000 (p.at_.tmod 5001 + p.wide))).1).1 - p.at_.tmod 5001).tdiv ((S.sizeN (S.fewW ((List.range p.N).map (spW p)) p.flo p.fhi (p.at_.tmod 5001) (min 5000 (p.at_.tmod 5001 + p.wide))).1.toNat : Nat) : Int) = F.sh := by rw [hFs]; exact eSh
  have eF3 : p.at_.tmod 5001 = F.lo := by rw [hF]
  have eF4 : min 5000 (p.at_.tmod 5001 + p.wide) = F.hi := by rw [hF]
  refine (show SemC _ _ _ _ from ?_)
  refine sem_weaken (st' := ⟨b28 p F 0, [], h28 p F, 8, []⟩) 4 (fun j => j) hG (by
    refine ⟨?_, ?_, rfl, rfl, rfl, rfl, trivial⟩ <;> repeat' (first | exact eF1 | exact eF2 | exact eF3 | exact eF4 | exact trivial | exact rfl | exact List.Perm.refl _ | (intro i hi; exact ⟨rfl, rfl⟩) | (intro v m g h; exact h) | refine And.intro ?_ ?_)) ?_
  refine useLoop hG hp hI (by rw [hFx]; exact hx256) (by rw [hFs]; omega) (fun j hj => by have := hsp j hj; omega) ?_
  refine fb_call (ok3 G) cont_std rfl rfl rfl rfl ⟨bd15, ?_⟩
  refine callS_at [.sl 0] [(0, .ro 1 p.m fun i => [.si .u16 (p.o i)])] 1 (fun j => 2) (by repeat' (first | exact trivial | exact rfl | refine And.intro ?_ ?_)) rfl (by repeat' (first | exact trivial | exact rfl | exact List.Perm.refl _ | (intro i hi; exact ⟨rfl, rfl⟩) | (intro v m g h; exact h) | refine And.intro ?_ ?_)) rfl rfl ?_
  refine s15 ⟨rfl, (by repeat' (first | exact trivial | exact rfl | (intro i hi; exact ⟨rfl, rfl⟩) | refine And.intro ?_ ?_)), (by repeat' (first | exact trivial | exact rfl | (intro i hi; exact rfl) | refine And.intro ?_ ?_)), ?_⟩
  have hU : ∀ j, j < p.N → 0 ≤ (p.g j).u2 := fun j hj => by have := wd_u (hI j hj); omega
  have hrb := rmU_b (p := p) (f := F) (by rw [hFs]; omega) p.N hU
  refine (show SemC _ _ _ _ from ?_)
  refine sem_weaken (st' := ⟨b39 p F (rmU p F p.N) ⟨0, 0, 0, 0⟩, [], h39 p F 0, 10, []⟩) 4 (fun j => j) hG (by
    refine ⟨?_, ?_, rfl, rfl, rfl, rfl, trivial⟩ <;> repeat' (first | exact trivial | exact rfl | exact List.Perm.refl _ | (intro i hi; exact ⟨rfl, rfl⟩) | (intro v m g h; exact h) | refine And.intro ?_ ?_)) ?_
  refine sumLoop hG hp hI (by rw [hFx]; exact hx256) ⟨q2, q3, q4⟩ hsp (by rw [hFs]; omega) hrb (fun j hj hb => ?_) fun z hz hzi => ?_
  · have h5 := rmU_le (p := p) (f := F) p.N j hj hb
    have h6 := uV_b (p := p) (sh := F.sh) (i := j) (by rw [hFs]; omega) (hU j hj)
    have h7 : (p.g j).u2 * rmU p F p.N ≤ (p.g j).u2 * uV p F.sh j := Int.mul_le_mul_of_nonneg_left h5 (hU j hj)
    rw [Int.mul_comm]; omega
  obtain ⟨i, now, mn, c⟩ := z
  obtain rfl : i = p.N := hzi
  have hmn : mn = S.cntB F.x p.N := hz.mn
  have hzlo : wLo p F.x p.N - (mn : Int) * F.sh ≤ now := hz.lo
  have hzhi : now ≤ wHi p F.x p.N := hz.hi
  rw [hFx] at hmn hzlo hzhi
  rw [hFs, hmn] at hzlo
  refine Chk.mk (fun _ => ⟨rfl, rfl⟩) ?_
  refine (show SV.sb ((decide (F.lo ≤ now) && decide (now ≤ F.hi)) && true) = .sb true from ?_)
  rw [decide_eq_true (show F.lo ≤ now by rw [← eF3]; omega), decide_eq_true (show now ≤ F.hi by rw [← eF4]; omega)]
  rfl
end Go.X.Wm
end

section
set_option linter.unusedVariables false
set_option linter.unusedSimpArgs false
set_option linter.unusedSectionVars false
/- TopWorn: arguments opened: blocks, whose events are slices. -/
set_option linter.unusedVariables false
set_option linter.unusedSimpArgs false
set_option linter.unusedSectionVars false
set_option maxRecDepth 100000
set_option maxHeartbeats 1600000
namespace Go.X.Wm
open Go Go.Proofs Go.X Go.X.Wr Go.ChangeShapes Go.WideShapes Go.ChangeAt Go.RowKit Go.Joins

theorem wf_u16 {x : Int} (h : (Lit.int .u16 x).wf = true) : 0 ≤ x ∧ x < 65536 := by
  simp only [Lit.wf, IntKind.min, IntKind.max, IntKind.signed, IntKind.bits, Bool.and_eq_true, decide_eq_true_eq] at h; simp at h; omega
theorem wf_u8 {x : Int} (h : (Lit.int .u8 x).wf = true) : 0 ≤ x ∧ x < 256 := by
  simp only [Lit.wf, IntKind.min, IntKind.max, IntKind.signed, IntKind.bits, Bool.and_eq_true, decide_eq_true_eq] at h; simp at h; omega
/-- A struct's field. -/
def fld (P : Program) (t i : Nat) : Field := match P.underlying t with
  | some (.struct fs) => (match fs[i]? with
    | some f => f
    | none => ⟨ "", 0, 0, false, "", "", 0⟩)
  | _ => ⟨ "", 0, 0, false, "", "", 0⟩
theorem und24 : Tryd.prog.underlying 24 = some (.struct #[fld Tryd.prog 24 0, fld Tryd.prog 24 1]) := by kernel_rfl
theorem und33 : Tryd.prog.underlying 33 = some (.struct #[fld Tryd.prog 33 0, fld Tryd.prog 33 1, fld Tryd.prog 33 2]) := by kernel_rfl
theorem fld33 : ((fld Tryd.prog 33 0).type = 24 ∧ (fld Tryd.prog 33 0).offset = 0) ∧ ((fld Tryd.prog 33 1).type = 24 ∧ (fld Tryd.prog 33 1).offset = 2) ∧ ((fld Tryd.prog 33 2).type = 31 ∧ (fld Tryd.prog 33 2).offset = 4) :=
  ⟨⟨by kernel_rfl, by kernel_rfl⟩, ⟨by kernel_rfl, by kernel_rfl⟩, ⟨by kernel_rfl, by kernel_rfl⟩⟩
theorem und3 : Tryd.prog.underlying 3 = some (.int .i64) := by kernel_rfl
theorem und31 : Tryd.prog.underlying 31 = some (.slice 49) := by kernel_rfl
theorem lay24 : lay Tryd.prog 3 24 = some [.i64, .i64] := by kernel_rfl
theorem lay49 : lay Tryd.prog 4 49 = some [.i64, .i64, .i64, .i64] := by kernel_rfl
theorem cells24 : Tryd.prog.cellsOf 24 = 2 := by kernel_rfl
theorem cells31 : Tryd.prog.cellsOf 31 = 1 := by kernel_rfl
theorem cells33 : Tryd.prog.cellsOf 33 = 5 := by kernel_rfl
theorem cells49 : Tryd.prog.cellsOf 49 = 4 := by kernel_rfl
theorem own : ownKnob Tryd.prog.godebug = none := by kernel_rfl
theorem laidOut : laidOutB Tryd.prog = true := by kernel_rfl

theorem und22 : Tryd.prog.underlying 22 = some (.slice 33) := by kernel_rfl
theorem und25 : Tryd.prog.underlying 25 = some (.slice 26) := by kernel_rfl
theorem lay26 : lay Tryd.prog 3 26 = some [.u16] := by kernel_rfl
theorem cells26 : Tryd.prog.cellsOf 26 = 1 := by kernel_rfl
theorem und26 : Tryd.prog.underlying 26 = some (.int .u16) := by kernel_rfl
theorem und5 : Tryd.prog.underlying 5 = some (.int .u8) := by kernel_rfl
section
variable {H : Type} {enc : TypeId × Value → H} {W : World} {base : Nat}

theorem open_span {v : Value} {d : DataW H} {p : List MemPlace} (hv : Value.okWide Tryd.prog W .any base 24 v) (h : DataW.Trod enc Tryd.prog W 0 (fun _ => true) true 24 v d p) :
    ∃ lo hi : Int, v = .agg #[.int .i64 lo, .int .i64 hi] ∧ (Lit.int .i64 lo).wf = true ∧ (Lit.int .i64 hi).wf = true := by
  obtain ⟨cs, rfl, hsz⟩ := okWide_struct und24 hv
  obtain ⟨fuel, hf⟩ := h
  obtain ⟨ns, q1, q2, q3⟩ := trod_lay 3 24 _ fuel _ _ lay24 hf
  match ns, q1 with
  | [x, y], _ =>
    refine ⟨x, y, ?_, q3 (.i64, x) (by simp), q3 (.i64, y) (by simp)⟩
    have q2 : cs.toList = [.int .i64 x, .int .i64 y] := q2
    congr 1
    exact Array.toList_inj.1 (by rw [q2])

theorem open_num {t : TypeId} {k : IntKind} (ht : Tryd.prog.underlying t = some (.int k)) {v : Value} {d : DataW H} {p : List MemPlace} (hv : Value.okWide Tryd.prog W .any base t v) (h : DataW.Trod enc Tryd.prog W 0 (fun _ => true) true t v d p) :
    ∃ x : Int, v = .int k x ∧ (Lit.int k x).wf = true := by
  obtain ⟨x, rfl, _, _, wx⟩ := open_int ht hv h
  exact ⟨x, rfl, wx⟩

theorem open_u16s {v : Value} {d : DataW H} {p : List MemPlace} (hv : Value.okWide Tryd.prog W .any base 25 v) (h : DataW.Trod enc Tryd.prog W 0 (fun _ => true) true 25 v d p) :
    ∃ (a : Option Addr) (n cap : Nat) (f : Nat → Int), v = .slice a n cap ∧ n ≤ maxLen ∧ (∀ j, j < n → 0 ≤ f j ∧ f j < 65536) ∧ ∀ ρ : Env, HBok ρ W (.ro 1 n fun i => [.si .u16 (f i)]) (.sl a n cap 1) := by
  obtain ⟨a', n', cap', rfl⟩ := okWide_slice und25 hv
  obtain ⟨fuel, hf⟩ := h
  obtain ⟨a, n, cap, N, hcs, hm, hN, hw, hk⟩ := open_ro und25 lay26 cells26 (by decide) hf
  have hcs : [Value.slice a' n' cap'] = [.slice a n cap] := hcs
  refine ⟨a, n, cap, fun i => (N i).getD 0 0, (by injection hcs), hm, fun j hj => ?_, fun ρ => ?_⟩
  · have h1 := hN j
    have h2 := hw j hj
    match hn : N j, h1 with
    | [x], _ =>
      rw [hn] at h2
      show 0 ≤ (N j).getD 0 0 ∧ (N j).getD 0 0 < 65536
      rw [hn]
      exact wf_u16 (h2 (.u16, x) (by simp))
  · have e : (fun i => intS [.u16] (N i)) = fun i => [SV.si .u16 ((N i).getD 0 0)] := by
      funext i
      have := hN i
      match hn : N i, this with
      | [x], _ => rfl
    have := hk ρ
    rw [e] at this
    exact this

/-- A slice of anything that can be opened. -/
theorem open_roG {D : Type} (d0 : D) (V : D → List Value) (S : D → List SV) (R : D → Prop) (z : Nat) (hz : 0 < z) (hV : ∀ d, (V d).length = z) (h1 : ∀ d, (V d).all (·.oneCell') = true) (hS : ∀ ρ d, denL ρ (S d) = some (V d))
    {t e : TypeId} {fuel : Nat} {cs : List Value} {x : DataW H × List MemPlace} (ht : Tryd.prog.underlying t = some (.slice e)) (hC : Tryd.prog.cellsOf e = z)
    (hel : ∀ fuel c y, c.length = z → DataW.trod enc Tryd.prog W 0 (fun _ => true) true fuel e c = some y → ∃ d, c = V d ∧ R d)
    (h : DataW.trod enc Tryd.prog W 0 (fun _ => true) true fuel t cs = some x) :
    ∃ (a : Option Addr) (len cap : Nat) (f : Nat → D), cs = [.slice a len cap] ∧ isSl (.slice a len cap) len ∧ len ≤ maxLen ∧ (∀ i, i < len → R (f i)) ∧ ∀ ρ : Env, HBok ρ W (.ro z len fun i => S (f i)) (.sl a len cap z) := by
  rcases DataW.trod_slice ht h with ⟨rfl, _⟩ | ⟨a, len, cap, elems, rest, m, _, rfl, _, _, hle, hm, hlen, hel', _⟩
  · exact ⟨none, 0, 0, fun _ => d0, rfl, .inl ⟨rfl, rfl⟩, Nat.zero_le _, fun i hi => absurd hi (Nat.not_lt_zero _), fun ρ => ⟨rfl, rfl, Nat.le_refl _, fun h => by omega⟩⟩
  · have key : ∀ i, i < len → ∃ d : D, R d ∧ ∀ j v, (V d)[j]? = some v → W.cell? (a.add (i * z + j)) = some v := by
      intro i hi
      have h1 := hel' i hi
      rw [List.getElem?_eq_getElem (by omega)] at h1
      simp only [Option.bind_eq_some_iff] at h1
      obtain ⟨c1, h2, h3⟩ := h1
      obtain ⟨h0, h4, h5⟩ := World.cells?_some h2
      obtain ⟨d, rfl, hR⟩ := hel _ _ _ (by simp_all) h3
      refine ⟨d, hR, fun j v hv => ?_⟩
      have hj : j < (V d).length := (List.getElem?_eq_some_iff.1 hv).1
      rw [← Go.X.add_add, ← hC, h5 j (by have := hV d; omega)]
      exact hv
    have hN : ∃ f : Nat → D, ∀ i, i < len → R (f i) ∧ ∀ j v, (V (f i))[j]? = some v → W.cell? (a.add (i * z + j)) = some v := by
      refine ⟨fun i => if hi : i < len then (key i hi).choose else d0, fun i hi => ?_⟩
      simp only [hi, dif_pos]
      exact (key i hi).choose_spec
    obtain ⟨f, hf⟩ := hN
    refine ⟨some a, len, cap, f, rfl, .inr ⟨a, cap, rfl⟩, by omega, fun i hi => (hf i hi).1, fun ρ => ⟨rfl, rfl, hle, fun hpos => ⟨a, rfl, ?_, fun i hi => ⟨_, hS ρ (f i), h1 _, hV _, (hf i hi).2⟩⟩⟩⟩
    obtain ⟨v, hv⟩ : ∃ v, (V (f 0))[0]? = some v := ⟨_, List.getElem?_eq_getElem (by rw [hV]; exact hz)⟩
    have := (hf 0 hpos).2 0 v hv
    rw [Nat.zero_mul, Nat.zero_add, Go.X.addr_zero] at this
    rcases Nat.lt_or_ge a.block W.heap.size with hlt | hge
    · exact hlt
    · simp [World.cell?, Array.getElem?_eq_none hge] at this
/-- Events, by their value. -/
theorem open_evS {fuel : Nat} {cs : List Value} {x : DataW H × List MemPlace} (h : DataW.trod enc Tryd.prog W 0 (fun _ => true) true fuel 31 cs = some x) :
    ∃ (v : Value) (n : Nat) (ev : Nat → Evn), cs = [v] ∧ isSl v n ∧ n ≤ maxLen ∧ famOk W 4 v n (evH ev) := by
  obtain ⟨a, n, cap, f, rfl, hs, hm, _, hk⟩ := open_roG (D := Evn) ⟨0, 0, 0, 0⟩ (fun r => [.int .i64 r.kind, .int .i64 r.uses, .int .i64 r.lo, .int .i64 r.hi]) evC (fun _ => True) 4 (by decide) (fun _ => rfl) (fun _ => rfl)
    (fun ρ d => by simp [evC, den, denL]) und31 cells49 (fun fuel c y hc hy => by
      obtain ⟨ns, q1, q2, _⟩ := trod_lay 4 49 _ _ _ _ lay49 hy
      match ns, q1 with
      | [a, b, c, d], _ => exact ⟨⟨a, b, c, d⟩, q2, trivial⟩) h
  refine ⟨_, n, f, rfl, hs, hm, ?_⟩
  obtain ⟨_, _, h1, h2⟩ := hk fun _ => none
  exact ⟨a, cap, rfl, h1, h2⟩
def wbV (d : Wb) : List Value := [.int .i64 d.l1, .int .i64 d.l2, .int .i64 d.u1, .int .i64 d.u2, d.v]
theorem open_blocks {fuel : Nat} {cs : List Value} {x : DataW H × List MemPlace} (h : DataW.trod enc Tryd.prog W 0 (fun _ => true) true fuel 22 cs = some x) :
    ∃ (a : Option Addr) (n cap : Nat) (g : Nat → Wb), cs = [.slice a n cap] ∧ n ≤ maxLen ∧ (∀ i, i < n → isSl (g i).v (g i).n ∧ famOk W 4 (g i).v (g i).n (evH (g i).ev)) ∧ ∀ ρ : Env, HBok ρ W (.ro 5 n fun i => wbC (g i)) (.sl a n cap 5) := by
  obtain ⟨a, n, cap, f, e, hs, hm, hR, hk⟩ := open_roG (D := {d : Wb // isSl d.v d.n}) ⟨⟨0, 0, 0, 0, 0, fun _ => ⟨0, 0, 0, 0⟩, .slice none 0 0⟩, .inl ⟨rfl, rfl⟩⟩ (fun d => wbV d.1) (fun d => wbC d.1) (fun d => famOk W 4 d.1.v d.1.n (evH d.1.ev)) 5 (by decide) (fun _ => rfl)
    (fun d => by have := d.2.one; simpa [wbV, Value.oneCell'] using this) (fun ρ d => by have := d.2.one; simp [wbC, wbV, den, denL, this]) und22 cells33 (fun fuel c y hc hy => by
      obtain ⟨⟨ht0, ho0⟩, ⟨ht1, ho1⟩, ht2, ho2⟩ := fld33
      obtain ⟨xs, m, _, _, hl, hlen, hfd⟩ := DataW.trod_struct und33 hy
      match xs, hlen with
      | [y0, y1, y2], _ =>
        have h0 := hfd 0 (fld Tryd.prog 33 0) rfl
        have h1 := hfd 1 (fld Tryd.prog 33 1) rfl
        have h2 := hfd 2 (fld Tryd.prog 33 2) rfl
        rw [ht0, ho0, cells24] at h0
        rw [ht1, ho1, cells24] at h1
        rw [ht2, ho2, cells31] at h2
        match c, hc with
        | [e0, e1, e2, e3, e4], _ =>
          obtain ⟨v, n, ev, f3, hs, hm, hk⟩ := open_evS h2
          obtain ⟨n0, q1, q2, q3⟩ := trod_lay 3 24 _ _ _ _ lay24 h0
          obtain ⟨n1, r1, r2, r3⟩ := trod_lay 3 24 _ _ _ _ lay24 h1
          match n0, q1, n1, r1 with
          | [x, y], _, [u, w], _ =>
            have f3 : [e4] = [v] := f3
            have q2 : [e0, e1] = [.int .i64 x, .int .i64 y] := q2
            have r2 : [e2, e3] = [.int .i64 u, .int .i64 w] := r2
            cases f3
            cases q2
            cases r2
            exact ⟨⟨⟨x, y, u, w, n, ev, _⟩, hs⟩, rfl, hk⟩) h
  exact ⟨a, n, cap, fun i => (f i).1, e, hm, fun i hi => ⟨(f i).2, hR i hi⟩, hk⟩
end
end Go.X.Wm
end

section
set_option linter.unusedVariables false
set_option linter.unusedSimpArgs false
set_option linter.unusedSectionVars false
/- TopWorn answers true for all blocks, film, numbers and want, and its arguments read as before; no conditions (the package's variable reads as its text lays it: a tied card). -/
set_option linter.unusedVariables false
set_option linter.unusedSimpArgs false
set_option maxRecDepth 100000
set_option maxHeartbeats 1600000
namespace Go.X
open Go Go.Proofs Go.ChangeShapes Go.WideShapes Go.ChangeAt Go.RowKit
section
variable {H : Type} {enc : TypeId × Value → H}
theorem row_ofSL {C : Checked} {a : Assume} {os : Os} {f tb : Nat} {fn : Func} {s : ChangeSpec} {conds : List PathCond} (laid : List (String × DataW Unit)) (hl : laidOutB C.prog = true) (own : ownKnob C.prog.godebug = none) (started : os.Started) (noInit : C.prog.inits.idxOf? f = none)
    (hfn : C.prog.funcs[f]? = some fn)
    (witness : ∃ (w : World) (tape : Tape) (i : Input), w.os = os ∧ (w.forCall tape i).Shaped C.prog ∧ i.vars = [] ∧ Input.okWide C.prog (w.forCall tape i) .any w.heap.size f i ∧
      ((s.pre enc C.prog fn conds false (w.forCall tape i).memory i.args ∧ laidMetH C.prog laid (w.forCall tape i).memory) ∧ sizedMet enc C.prog fn (OpenSpec.ofChange s) false (w.forCall tape i).memory i.args) ∧ a.holds C.prog (lone (Frame.enter C.prog f i.args .normal) [] (w.forCall tape i)))
    (hvars : s.vars = []) (hres : fn.resultTypes = #[tb]) (htb : C.prog.underlying tb = some .bool) (hread : (fn.params.toList.all fun t => C.prog.readableRec t && decide (t < C.prog.types.size)) = true)
    (hspec : ∀ ds : List (DataW H), ds.length = fn.params.toList.length → s.fn H (ds ++ []) = { results := [.lit (.bool true)], args := ds })
    (hw : ∀ (W : World) (base : Nat) (args : Array Value) (ds : List (DataW H)) (p : List MemPlace), (∀ (j : Nat) t v, fn.params[j]? = some t → args[j]? = some v → Value.okWide C.prog W .any base t v) →
      DataW.TrodAll enc C.prog W 0 (fun _ => true) true fn.params.toList args.toList ds p → laidMetH C.prog laid W → OpenedS C.prog f W args.toList) :
    ReturnsInHanded a C os f .any (fun w args => (s.pre enc C.prog fn conds false w args ∧ laidMetH C.prog laid w) ∧ sizedMet enc C.prog fn (OpenSpec.ofChange s) false w args) (s.post enc C.prog fn false true false false) := by
  refine returnsInHanded_of_change_and (X := fun w _ => laidMetH C.prog laid w) (fun _ _ _ hh h => h.of_heap hh) own started noInit hfn witness ?_
  intro W base args ds gs before hval hW hcnd _ hL _
  have hW' := hW
  obtain ⟨p, q, hA, hV, rfl, hfz, hnd⟩ := hW
  rw [hvars] at hV
  obtain ⟨rfl, rfl⟩ := trodVars_none hV
  obtain ⟨ρ, H0, l, nx, hm, hno, hfr, hd, hS⟩ := hw W base args ds p hval hA hL
  refine (hS ρ W args.toList hm hfr hd).mono fun e W' hpost => ?_
  rcases hpost with ⟨v, H', nx', ρ', u, rfl, hv, _, hkeep, _, rfl⟩ | ⟨ch, H', nx', ρ', _, _, _, _, hF⟩
  case inr => exact hF.elim
  simp only [den, Option.some.injEq] at hv
  subst hv
  have hend : ∀ b, b < W.heap.size → W'.heap[b]? = W.heap[b]? := fun b hb => hkeep.same b hb (hno b)
  have hsame : ∀ p' ∈ p, W.sameAt W' p' := by
    intro p' hp'
    have hlt := trodAll_lt hA p' hp'
    cases p' with
    | cell b o => exact World.cell?_of_block (w := W) (hend b hlt)
    | map b => exact hend b hlt
  have hs := hspec ds (by simpa using trodAll_length hA)
  refine ⟨_, rfl, ds, [], p ++ [], [], p, [], hW', ?_, ?_, ?_, ?_, fun h => by cases h⟩
  · rw [hs, hres]
    exact trodAll_mk1 (shut_bool htb _)
  · rw [hs]
    refine trodAll_carry hl (fun t ht => ?_) hA hsame (fun x hx => by simpa using trodAll_lt hA x hx)
    have := List.all_eq_true.1 hread t ht
    simpa using this
  · rw [hs, hvars]
    rfl
  · refine ⟨hkeep.str.1, hkeep.str.2, fun i hi => ?_⟩
    rw [hend i hi]
    split <;> simp_all
end
end Go.X
namespace Go.X.Wm
open Go Go.Proofs Go.X Go.X.Wr Go.ChangeShapes Go.WideShapes Go.ChangeAt Go.RowKit

theorem gNone : Tryd.prog.globalNamed "blockworks/wear.none" = some 0 := by kernel_rfl
theorem tNone : (Tryd.prog.globals[0]?).map (·.type) = some 55 := by kernel_rfl
theorem und55 : Tryd.prog.underlying 55 = some (.struct #[fld Tryd.prog 55 0]) := by kernel_rfl
theorem fld55 : (fld Tryd.prog 55 0).type = 24 ∧ (fld Tryd.prog 55 0).offset = 0 := ⟨by kernel_rfl, by kernel_rfl⟩
theorem fld24 : ((fld Tryd.prog 24 0).type = 3 ∧ (fld Tryd.prog 24 0).offset = 0) ∧ ((fld Tryd.prog 24 1).type = 3 ∧ (fld Tryd.prog 24 1).offset = 1) := ⟨⟨by kernel_rfl, by kernel_rfl⟩, ⟨by kernel_rfl, by kernel_rfl⟩⟩
theorem cells55 : Tryd.prog.cellsOf 55 = 2 := by kernel_rfl
theorem cells3 : Tryd.prog.cellsOf 3 = 1 := by kernel_rfl
abbrev laidV : List (String × DataW Unit) := [("blockworks/wear.none", YtfhkkhgbjbnenaaDoor.Rows.laid_blockworks_wear_none)]
theorem of_laid {W : World} (h : laidMetH Tryd.prog laidV W) : famOk W 2 (.slice (some ⟨0, 0, none⟩) 1 1) 1 (fun _ => spC noneS) := by
  rw [MakeChecks.laidMetH_plain _ _ _ (by kernel_rfl)] at h
  obtain ⟨ps, ⟨g0, t0, cs0, f0, p0, q0, hg0, ht0, hv0, hd0, _, _⟩, _, _⟩ := h
  obtain rfl := Option.some.inj (gNone.symm.trans hg0)
  obtain rfl := Option.some.inj (tNone.symm.trans ht0)
  obtain ⟨xs, m, rfl, hx, hlen, hxl, hfd⟩ := DataW.trod_struct und55 hd0
  match xs, hxl with
  | [x0], _ =>
    have h0 := hfd 0 (fld Tryd.prog 55 0) rfl
    rw [fld55.1, fld55.2, cells24] at h0
    have h0 : DataW.trod _ Tryd.prog W 0 _ false m 24 ((cs0.toList.drop 0).take 2) = some x0 := h0
    rw [cells55] at hlen
    obtain ⟨ys, m2, rfl, hy, _, hyl, hfd2⟩ := DataW.trod_struct und24 h0
    match ys, hyl with
    | [y0, y1], _ =>
      have k0 := hfd2 0 (fld Tryd.prog 24 0) rfl
      have k1 := hfd2 1 (fld Tryd.prog 24 1) rfl
      rw [fld24.1.1, fld24.1.2, cells3] at k0
      rw [fld24.2.1, fld24.2.2, cells3] at k1
      match hcs : cs0.toList, hlen with
      | [c0, c1], _ =>
        rw [hcs] at k0 k1
        obtain ⟨n0, e0, e1, _⟩ := DataW.trod_int und3 (show DataW.trod _ Tryd.prog W 0 _ false m2 3 [c0] = some y0 from k0)
        obtain ⟨n1, e2, e3, _⟩ := DataW.trod_int und3 (show DataW.trod _ Tryd.prog W 0 _ false m2 3 [c1] = some y1 from k1)
        have hx1 : YtfhkkhgbjbnenaaDoor.Rows.laid_blockworks_wear_none = (DataW.agg ([x0].map (·.1)) : DataW Unit) := congrArg Prod.fst hx
        rw [hy, e1, e3] at hx1
        simp only [YtfhkkhgbjbnenaaDoor.Rows.laid_blockworks_wear_none, List.map_cons, List.map_nil, DataW.agg.injEq, List.cons.injEq, DataW.lit.injEq, Lit.int.injEq, true_and, and_true] at hx1
        obtain ⟨rfl, rfl⟩ := hx1
        have e0 : c0 = .int .i64 1048576 := by simpa using e0
        have e2 : c1 = .int .i64 (-1048576) := by simpa using e2
        subst e0; subst e2
        have hc : ∀ i, W.cell? ⟨0, i, none⟩ = [Value.int .i64 1048576, .int .i64 (-1048576)][i]? := fun i => by
          rw [World.var?_cell gNone hv0 i, ← hcs, Array.getElem?_toList]
        refine ⟨_, 1, rfl, Nat.le_refl _, fun _ => ⟨_, rfl, ?_, fun i hi => ⟨[.int .i64 1048576, .int .i64 (-1048576)], rfl, rfl, rfl, fun j v hv => ?_⟩⟩⟩
        · have := hc 0
          rcases Nat.lt_or_ge 0 W.heap.size with hlt | hge
          · exact hlt
          · simp [World.cell?, Array.getElem?_eq_none hge] at this
        · obtain rfl : i = 0 := by omega
          have := hc j
          rw [hv] at this
          rw [add_zero_mk, Nat.zero_mul, Nat.zero_add]
          exact this
end Go.X.Wm
end

section
set_option linter.unusedVariables false
set_option linter.unusedSimpArgs false
set_option linter.unusedSectionVars false
/- TopWorn: the row. -/
set_option linter.unusedVariables false
set_option linter.unusedSimpArgs false
set_option maxRecDepth 100000
set_option maxHeartbeats 1600000
namespace Go.X.Wm
open Go Go.Proofs Go.X Go.X.Wr Go.ChangeShapes Go.WideShapes Go.ChangeAt Go.RowKit

def envS (l : List Nm) : Env := fun j => l[j]?
theorem envS_no {l : List Nm} (h : ∀ nm ∈ l, nm.owner = none) {j : Nat} {nm : Nm} {b : Nat} (h1 : envS l j = some nm) (h2 : nm.owner = some b) : False := by
  rw [h nm (List.mem_of_getElem? h1)] at h2; cases h2
theorem opened3 {W : World} {base : Nat} {H : Type} {enc : TypeId × Value → H} {args : Array Value} {ds : List (DataW H)} {p : List MemPlace} (hval : ∀ (j : Nat) t v, Tryd.f3.params[j]? = some t → args[j]? = some v → Value.okWide Tryd.prog W .any base t v)
    (hA : DataW.TrodAll enc Tryd.prog W 0 (fun _ => true) true Tryd.f3.params.toList args.toList ds p) (hL : laidMetH Tryd.prog laidV W) : OpenedS Tryd.prog 3 W args.toList := by
  have e : Tryd.f3.params = #[22, 24, 25, 26, 5] := by kernel_rfl
  rw [e] at hval hA
  obtain ⟨v0, vs0, d0, ds0, p0, q0, hargs, rfl, rfl, h0, r0⟩ := trodAll_cons hA
  obtain ⟨v1, vs1, d1, ds1, p1, q1, rfl, rfl, rfl, h1, r1⟩ := trodAll_cons r0
  obtain ⟨v2, vs2, d2, ds2, p2, q2, rfl, rfl, rfl, h2, r2⟩ := trodAll_cons r1
  obtain ⟨v3, vs3, d3, ds3, p3, q3, rfl, rfl, rfl, h3, r3⟩ := trodAll_cons r2
  obtain ⟨v4, vs4, d4, ds4, p4, q4, rfl, rfl, rfl, h4, r4⟩ := trodAll_cons r3
  obtain ⟨rfl, rfl, rfl⟩ := trodAll_nil r4
  obtain rfl : args = #[v0, v1, v2, v3, v4] := by cases args; simp_all
  obtain ⟨a', n', cap', rfl⟩ := okWide_slice und22 (hval 0 22 v0 rfl rfl)
  obtain ⟨fuel, hf⟩ := h0
  obtain ⟨a, n, cap, g, ecs, hn, hg, hb⟩ := open_blocks hf
  have ecs : [Value.slice a' n' cap'] = [.slice a n cap] := ecs
  injection ecs with ecs
  rw [ecs]
  obtain ⟨lo, hi, rfl, _, _⟩ := open_span (hval 1 24 v1 rfl rfl) h1
  obtain ⟨b, m, capb, o, rfl, hm, ho, hb1⟩ := open_u16s (hval 2 25 v2 rfl rfl) h2
  obtain ⟨x3, rfl, w3⟩ := open_num und26 (hval 3 26 v3 rfl rfl) h3
  obtain ⟨x4, rfl, w4⟩ := open_num und5 (hval 4 5 v4 rfl rfl) h4
  have hlaid := of_laid hL
  obtain ⟨P', hP'⟩ : ∃ P' : Par, P' = ⟨x3, x4, n, g, m, o, lo, hi⟩ := ⟨_, rfl⟩
  have hno : ∀ b', ¬ Own (envS [.sl none 0 0 0, .sl a n cap 5, .sl b m capb 1, .sl none 0 0 0]) (findH (H3 P')) b' := by
    rintro b' ⟨id, hb, nm, k1, k2, k3, k4⟩
    exact envS_no (by simp [Nm.owner]) k3 k4
  refine ⟨envS [.sl none 0 0 0, .sl a n cap 5, .sl b m capb 1, .sl none 0 0 0], H3 P', A3 P', 4, ?_, hno, ?_, ?_, s3 fun hN => ?_⟩
  · refine ⟨fun id hb' hf => ?_, fun id id' x y nm nm' b' _ _ _ _ k1 _ k2 _ => ?_, fun _ _ _ _ _ b' _ _ _ _ => hno b', fun b' _ => hno b'⟩
    · by_cases e0 : id = 0
      · subst e0
        have hf : some (HB.fam 2 gF) = some hb' := hf
        cases hf
        refine ⟨_, rfl, rfl, ?_⟩
        rintro v k get ⟨rfl, rfl, rfl⟩
        exact hlaid
      by_cases e1 : id = 1
      · subst e1
        have hf : some (HB.ro 5 P'.N fun i => wbC (P'.g i)) = some hb' := hf
        cases hf
        exact ⟨_, rfl, by rw [hP']; exact hb _⟩
      by_cases e2 : id = 2
      · subst e2
        have hf : some (HB.ro 1 P'.m fun i => [.si .u16 (P'.o i)]) = some hb' := hf
        cases hf
        exact ⟨_, rfl, by rw [hP']; exact hb1 _⟩
      by_cases e3 : id = 3
      · subst e3
        have hf : some (HB.fam 4 (wbF P'.N P'.g)) = some hb' := hf
        cases hf
        refine ⟨_, rfl, rfl, ?_⟩
        rw [hP']
        rintro v k get ⟨i, hi, rfl, rfl, rfl⟩
        exact (hg i hi).2
      · have : findH (H3 P') id = none := by simp [H3, findH, Ne.symm e0, Ne.symm e1, Ne.symm e2, Ne.symm e3]
        rw [this] at hf; cases hf
    · exact (envS_no (by simp [Nm.owner]) k1 k2).elim
  · intro j hj
    exact List.getElem?_eq_none hj
  · rw [hP']
    simp [A3, den, denL, Value.oneCell', envS]
  · rw [hP'] at hN ⊢
    exact ⟨hm, ho, hN, wf_u16 w3, wf_u8 w4, fun i hi => (hg i hi).1⟩

/-- The door's own heap meets the condition. -/
theorem door_met (os : Os) (args : Array Value) : laidMetH Tryd.prog laidV ((World.doorLaid Tryd.prog 400 os).forCall (fun _ _ => 0) ⟨#[], args, []⟩).memory :=
  laidMetH_of_parts3 (fuel := 8) (laidMet_of_run' 8 (by kernel_rfl) (by kernel_rfl)) (by kernel_rfl) (by kernel_rfl)
theorem lifted3 (os : Os) (started : os.Started) (H : Type) (enc : TypeId × Value → H) :
    ReturnsInHanded {} Tryd.checked os 3 .any (fun w args => (YtfhkkhgbjbnenaaDoor.Rows.topWornSpec.pre enc Tryd.prog Tryd.f3 [] false w args ∧ laidMetH Tryd.prog laidV w) ∧ sizedMet enc Tryd.prog Tryd.f3 (OpenSpec.ofChange YtfhkkhgbjbnenaaDoor.Rows.topWornSpec) false w args) (YtfhkkhgbjbnenaaDoor.Rows.topWornSpec.post enc Tryd.prog Tryd.f3 false true false false) := by
  refine row_ofSL (C := Tryd.checked) laidV laidOut own started (by kernel_rfl) Tryd.func3 (tb := 4)
    (ChangeSpec.witness_shaped (enc := enc) (C := Tryd.checked) (os := os) (X := fun w _ => laidMetH Tryd.prog laidV w) false (World.doorLaid Tryd.prog 400 os) #[.slice none 0 0, .agg #[.int .i64 0, .int .i64 0], .slice none 0 0, .int .u16 0, .int .u8 0] 8 rfl (World.shaped_of_RefB (by kernel_rfl) (by kernel_rfl)) (by kernel_rfl) (by kernel_rfl) (by kernel_rfl) (door_met os _))
    rfl (by kernel_rfl) (by kernel_rfl) (by kernel_rfl) (fun ds hd => ?_) (fun W base args ds p hval hA hL => opened3 hval hA hL)
  match ds, hd with
  | [d0, d1, d2, d3, d4], _ => rfl
end Go.X.Wm

namespace Go.Proofs.YtfhkkhgbjbnenaaDoor
open Go Go.Proofs
theorem topWorn_row : Rows.TopWornSaid :=
  OpenClaim.holds_of_wide 3 Tryd.f3 rfl rfl rfl rfl rfl rfl rfl ⟨rfl, rfl, rfl, rfl, rfl⟩ rfl rfl rfl rfl rfl (by kernel_rfl) Tryd.func3 (by kernel_rfl)
    (of_decide_eq_true (by kernel_rfl)) (by unfold Func.isWrapper; rw [if_neg (of_decide_eq_false (by kernel_rfl))]; exact ⟨rfl, rfl⟩)
    (fun os st H enc _ => Go.X.Wm.lifted3 os st H enc)
#print axioms topWorn_row
end Go.Proofs.YtfhkkhgbjbnenaaDoor
end
