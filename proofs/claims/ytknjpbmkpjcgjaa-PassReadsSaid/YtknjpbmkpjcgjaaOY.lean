/- The walk of PassReads. -/
import Derived.Test.YtknjpbmkpjcgjaaOX

section
set_option linter.unusedVariables false
set_option linter.unusedSimpArgs false
set_option linter.unusedSectionVars false
/- Pass: PassReads answers true (first printed by gen-en5.py). -/
set_option linter.unusedVariables false
set_option linter.unusedSimpArgs false
set_option maxRecDepth 10000
set_option maxHeartbeats 4000000
namespace Go.X.Ps
open Go Go.Proofs Go.X
theorem doc_len {it ag : Int} {n : Nat} {r : Nat → Pp} {q y : Int} {c : Ch} (h : some c = (if errO (validV it ag (papL n fun i => ppC (r i))) (isItemV it q && inB y 0 20) = 0 then bst ag n r q y else none)) : c.ps.length ≤ 1000000 := by
  split at h
  · rename_i h0
    obtain ⟨hv, _⟩ := errO_ok h0
    obtain ⟨hr, hit, hn8⟩ := valid_ok (r := r) (n := n) hv
    have := nodup_le (bst_nodup (ppb_L hr) h.symm) (walkC_mem (bst_some h.symm))
    omega
  · cases h
theorem b18 : Body P 18 := body_of Try.func18 (c := code Try.f18) rfl (by decide)
/-- The chain that the document tells. -/
def docO (it ag : Int) (n : Nat) (r : Nat → Pp) (q y : Int) : Option Ch := if (errO (validV it ag (papL n fun i => ppC (r i))) (isItemV it q && inB y 0 20) = 0) then bst ag n r q y else none
def vD (e : EnL) (E : Int) : Option Ch → SV
  | none => .tup [.sv (.slice none 0 0), .si .i64 E]
  | some c => .tup [.sv (slL e), .si .i64 E]
theorem s18 {it ag : Int} {n : Nat} {r : Nat → Pp} (hn : n ≤ 1000000) {q y : Int} {Rv : SV → List (Nat × HB) → Nat → Prop} {Rp : List PanicEntry → List (Nat × HB) → Nat → Prop}
    (hRv : ∀ o L e, o = docO it ag n r q y → LeB o L e → Rv (vD e (boundE it ag (papL n fun i => ppC (r i)) q y) o) (hB n r L o) (nB o)) : CallS P 18 [.agg (paA 0 it ag), .si .i64 q, .si .i64 y] [(0, .ro 5 n fun i => ppC (r i))] 1 Rv Rp := by
  have g := g48 (g49 (g50 good0))
  obtain ⟨oo, hoo⟩ : ∃ o, o = docO it ag n r q y := ⟨_, rfl⟩
  refine callS_toE (ι := {p : List EnL × EnL // LeB oo p.1 p.2}) g.ok Try.func18 (c := code Try.f18) rfl (Nat.le_of_ble_eq_true rfl) (fun x => vD x.1.2 (boundE it ag (papL n fun i => ppC (r i)) q y) oo) (fun x => hB n r x.1.1 oo) (nB oo) (fun G hG => ?_) (fun x => hRv oo _ _ hoo x.2)
  refine drawn_ok (g.ok _ _ _) fol [0,0,0,6,14,30,62,126,255,511] [] 10 (by kernel_rfl) ?_
  refine Chk.mk (pps_i _ _) (Chk.mk ⟨pps_i _ _, hn⟩ ?_)
  unfold docO at hoo
  refine Br.mk (fun h => ?_) (fun h => ?_)
  · have h : (!decide (errO (validV it ag (papL n fun i => ppC (r i))) (isItemV it q && inB y 0 20) = 0)) = true := h
    have h : ¬ (errO (validV it ag (papL n fun i => ppC (r i))) (isItemV it q && inB y 0 20) = 0) := by simpa using h
    rw [if_neg h] at hoo
    subst hoo
    have hE := (bound_err h).2.symm
    refine ⟨⟨([], eL), fun c h => by cases h⟩, (fun j => match j with | 1 => 1 | j => j), ?_, ?_, rfl, rfl, rfl, rfl⟩ <;> repeat' (first | exact trivial | exact rfl | exact hE | (intro i hi; exact ⟨rfl, rfl⟩) | (intro v m g h; exact h) | refine And.intro ?_ ?_)
  have h : (!decide (errO (validV it ag (papL n fun i => ppC (r i))) (isItemV it q && inB y 0 20) = 0)) = false := h
  have h : (errO (validV it ag (papL n fun i => ppC (r i))) (isItemV it q && inB y 0 20) = 0) := by simpa using h
  rw [if_pos h] at hoo
  obtain ⟨hv, hI⟩ := errO_ok h
  rw [Bool.and_eq_true] at hI
  obtain ⟨hr, hit, hn8⟩ := valid_ok (r := r) (n := n) hv
  have hq := inItem hit hI.1
  have hy := inB_ok hI.2
  have hby := valid_by rfl hv
  have hn9 : n ≤ 9 := by omega
  refine fb_call (g.ok _ _ _) cont_std rfl rfl rfl rfl ⟨b51, ?_⟩
  refine callS_at [.agg (paA 0 it ag), .si .i64 q, .si .i64 y] [(0, .ro 5 n fun i => ppC (r i))] 1 (fun j => j) (by repeat' (first | exact trivial | exact rfl | refine And.intro ?_ ?_)) rfl (by repeat' (first | exact trivial | exact rfl | (intro i hi; exact ⟨rfl, rfl⟩) | refine And.intro ?_ ?_)) rfl rfl ?_
  refine s51 hr hby hn9 hq.1 hy (fun o LB e ho hLe => ?_)
  cases o with
  | none =>
    refine ⟨rfl, (by repeat' (first | exact trivial | exact rfl | refine And.intro ?_ ?_)), (by repeat' (first | exact trivial | exact rfl | (intro i hi; exact rfl) | refine And.intro ?_ ?_)), ?_⟩
    rw [← ho] at hoo
    subst hoo
    have hE := (bound_val h ho).2.symm
    refine Br.mk (fun h => ?_) (fun h => by cases h)
    refine ⟨⟨([], eL), fun c h => by cases h⟩, (fun j => match j with | 1 => 1 | j => j), ?_, ?_, rfl, rfl, rfl, rfl⟩ <;> repeat' (first | exact trivial | exact rfl | exact hE | (intro i hi; exact ⟨rfl, rfl⟩) | (intro v m g h; exact h) | refine And.intro ?_ ?_)
  | some c =>
    refine ⟨rfl, (by repeat' (first | exact trivial | exact rfl | refine And.intro ?_ ?_)), (by repeat' (first | exact trivial | exact rfl | (intro i hi; exact rfl) | refine And.intro ?_ ?_)), ?_⟩
    rw [← ho] at hoo
    subst hoo
    have hE := (bound_val h ho).2.symm
    have hw := bst_pos hr ho
    refine Br.mk (fun h => absurd (of_decide_eq_true h) (by omega)) (fun h => ?_)
    refine ⟨⟨(LB, e), hLe⟩, (fun j => match j with | 1 => 42 | j => j), ?_, ?_, rfl, rfl, rfl, rfl⟩ <;> repeat' (first | exact trivial | exact rfl | exact hE | (intro i hi; exact ⟨rfl, rfl⟩) | (intro v m g h; exact h) | refine And.intro ?_ ?_)

def c3 : Ct := fun fr args H => match args with
  | [.agg l, .si .i64 q, .si .i64 y] => passK H l fun i1 it ag n get => some ⟨some (Pps n get), none, .sb true, []⟩
  | _ => none
theorem k3 {l : List (Nat × Ct)} (g0 : Good P T l) : COk P 3 c3 := by
  have g := g13 (g14 (g15 (g16 (g17 (g19 (g20 (g21 good0)))))))
  refine cok (C := tabC _) g.ok Try.func3 (c := code Try.f3) rfl fun fr args H out h hp => ?_
  unfold c3 at h
  split at h
  case h_2 => cases h
  rename_i l q y
  obtain ⟨i1, it, ag, n, get, rfl, e1, h⟩ := passK_some h
  cases h
  have hs : Pps n get := hp
  refine ⟨[(i1, .ro 5 n fun i => ppC (ppAt get i))], [.agg (paA 0 it ag), .si .i64 q, .si .i64 y], [(0, .ro 5 n fun i => ppC (ppAt get i))], 1, [], rfl, rfl, Nat.le_of_ble_eq_true rfl, pp_hand e1 hs, rfl, rfl, fun G hG => ?_⟩
  generalize ppAt get = r
  refine Chk.mk (pps_i _ _) ?_
  refine Br.mk (fun h => ?_) (fun h => ?_)
  · exact ⟨.inl rfl, end_noid rfl rfl rfl (by repeat' (first | exact trivial | exact rfl | (intro i hi; exact ⟨rfl, rfl⟩) | refine And.intro ?_ ?_))⟩
  have h : decide ((40 : Int) < (n : Int)) = false := h
  have hn : n ≤ 1000000 := by simp at h; omega
  refine Chk.mk ⟨pps_i _ _, hn⟩ (Chk.mk ⟨pps_i _ _, hn⟩ (Chk.mk ⟨pps_i _ _, hn⟩ ?_))
  refine fb_call (g.ok _ _ _) cont_std rfl rfl rfl rfl ⟨b18, ?_⟩
  refine callS_at [.agg (paA 0 it ag), .si .i64 q, .si .i64 y] [(0, .ro 5 n fun i => ppC (r i))] 1 (fun j => j) (by repeat' (first | exact trivial | exact rfl | refine And.intro ?_ ?_)) rfl (by repeat' (first | exact trivial | exact rfl | (intro i hi; exact ⟨rfl, rfl⟩) | refine And.intro ?_ ?_)) rfl rfl ?_
  refine s18 hn (fun o LB e ho hLe => ?_)
  have hch : chainL it ag (papL n fun i => ppC (r i)) q y = psO o := by
    rw [ho]
    unfold chainL docO
    rw [bnL_L]
    split <;> rfl
  cases o with
  | none =>
    refine ⟨rfl, (by repeat' (first | exact trivial | exact rfl | refine And.intro ?_ ?_)), (by repeat' (first | exact trivial | exact rfl | (intro i hi; exact rfl) | refine And.intro ?_ ?_)), ?_⟩
    refine Chk.mk ⟨pps_i _ _, hn⟩ (Chk.mk ⟨pps_i _ _, hn⟩ ?_)
    refine fb_run rfl rfl ⟨trivial, rfl, (by show (decide (boundR it ag (papL n fun i => ppC (r i)) q y = boundR it ag (papL n fun i => ppC (r i)) q y) && decide (boundE it ag (papL n fun i => ppC (r i)) q y = boundE it ag (papL n fun i => ppC (r i)) q y)) = true; simp)⟩ ?_
    refine fb_nilSlot 72 3 1 (getI []) (g.ok _ _ _) cont_std rfl rfl ?_
    have hl0 : (chainL it ag (papL n fun i => ppC (r i)) q y).length = 0 := by rw [hch]; rfl
    refine Chk.mk ⟨⟨ints_getI _ _, ints_getI _ _⟩, by omega, by omega⟩ ?_
    have hI : decide (intL (chainL it ag (papL n fun i => ppC (r i)) q y).length (intAt (getI (chainL it ag (papL n fun i => ppC (r i)) q y))) = intL 0 (intAt (getI []))) = true := by rw [hch]; rfl
    exact ⟨.inl rfl, end_noid (show SVeq _ _ from by simp only [hI, decide_true, Bool.and_true]; rfl) rfl rfl (by repeat' (first | exact trivial | exact rfl | (intro i hi; exact ⟨rfl, rfl⟩) | refine And.intro ?_ ?_))⟩
  | some c =>
    refine ⟨rfl, (by repeat' (first | exact trivial | exact rfl | refine And.intro ?_ ?_)), (by repeat' (first | exact trivial | exact rfl | (intro i hi; exact rfl) | refine And.intro ?_ ?_)), ?_⟩
    refine Chk.mk ⟨pps_i _ _, hn⟩ (Chk.mk ⟨pps_i _ _, hn⟩ ?_)
    refine fb_run rfl rfl ⟨trivial, rfl, (by show (decide (boundR it ag (papL n fun i => ppC (r i)) q y = boundR it ag (papL n fun i => ppC (r i)) q y) && decide (boundE it ag (papL n fun i => ppC (r i)) q y = boundE it ag (papL n fun i => ppC (r i)) q y)) = true; simp)⟩ ?_
    obtain ⟨hm, hec⟩ := hLe c rfl
    refine fb_focus 6 72 e.2.2.length e.2.1 e.1 (getI e.2.2) (.sl 7) (g.ok _ _ _) cont_std rfl ⟨⟨e, hm, rfl, rfl, rfl⟩, rfl, ?_⟩
    have hlc : (chainL it ag (papL n fun i => ppC (r i)) q y).length ≤ 1000000 := by rw [hch]; show c.ps.length ≤ 1000000; exact doc_len ho
    have hle : e.2.2.length ≤ 1000000 := by rw [hec]; exact doc_len ho
    refine Chk.mk ⟨⟨ints_getI _ _, ints_getI _ _⟩, hlc, hle⟩ ?_
    have hI : decide (intL (chainL it ag (papL n fun i => ppC (r i)) q y).length (intAt (getI (chainL it ag (papL n fun i => ppC (r i)) q y))) = intL e.2.2.length (intAt (getI e.2.2))) = true := by rw [intL_getI, intL_getI, hch, hec]; exact decide_eq_true rfl
    exact ⟨.inl rfl, end_noid (show SVeq _ _ from by simp only [hI, decide_true, Bool.and_true]; rfl) rfl rfl (by repeat' (first | exact trivial | exact rfl | (intro i hi; exact ⟨rfl, rfl⟩) | refine And.intro ?_ ?_))⟩

end Go.X.Ps
end
