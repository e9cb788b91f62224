/- Small functions of the document; all chains, in plain Lean. -/
import Derived.Test.YtknjpbmkpjcgjaaOP
import Derived.Test.YtknjpbmkpjcgjaaOC
import Derived.Test.YtknjpbmkpjcgjaaOR

section
set_option linter.unusedVariables false
set_option linter.unusedSimpArgs false
set_option linter.unusedSectionVars false
/- Pass: small functions of the document. -/
set_option linter.unusedVariables false
set_option linter.unusedSimpArgs false
set_option maxRecDepth 10000
set_option maxHeartbeats 4000000
namespace Go.X.Ps
open Go Go.Proofs Go.X

def c50 : Ct := plainCt fun
  | [.si .i64 y] => some ⟨none, none, .sb (inB y 0 20), []⟩
  | _ => none
theorem k50 {l : List (Nat × Ct)} (g0 : Good P T l) : COk P 50 c50 := by
  have g := g65 g0
  refine cok (C := tabC _) g.ok Try.func50 (c := code Try.f50) rfl fun fr args H out h hp => ?_
  simp only [c50, plainCt] at h
  split at h
  · cases h
    exact walk_plain rfl (Nat.le_of_ble_eq_true rfl) fun G hG => ⟨.inl rfl, end_plain rfl rfl rfl⟩
  · cases h
theorem g50 {l : List (Nat × Ct)} (g : Good P T l) : Good P T ((50, c50) :: l) := g.add (k50 g) (plainCt_mono _) (body_of Try.func50 (c := code Try.f50) rfl (by decide))
def c57 : Ct := plainCt fun
  | [.si .i64 y] => some ⟨none, none, .sb (inB y 0 2000), []⟩
  | _ => none
theorem k57 {l : List (Nat × Ct)} (g0 : Good P T l) : COk P 57 c57 := by
  have g := g65 g0
  refine cok (C := tabC _) g.ok Try.func57 (c := code Try.f57) rfl fun fr args H out h hp => ?_
  simp only [c57, plainCt] at h
  split at h
  · cases h
    exact walk_plain rfl (Nat.le_of_ble_eq_true rfl) fun G hG => ⟨.inl rfl, end_plain rfl rfl rfl⟩
  · cases h
theorem g57 {l : List (Nat × Ct)} (g : Good P T l) : Good P T ((57, c57) :: l) := g.add (k57 g) (plainCt_mono _) (body_of Try.func57 (c := code Try.f57) rfl (by decide))
theorem dr_in {d z : Int} (h : 0 ≤ d ∧ d ≤ 10) (hz : -20 ≤ z ∧ z ≤ 20) : -200 ≤ d * z ∧ d * z ≤ 200 := by
  have h1 : d * z ≤ d * 20 := Int.mul_le_mul_of_nonneg_left hz.2 h.1
  have h2 : d * (-20) ≤ d * z := Int.mul_le_mul_of_nonneg_left hz.1 h.1
  omega
def c48 : Ct := fun fr args H => match args with
  | [.agg l, .sb is] => passK H l fun i1 it ag n get => some ⟨some (Pps n get ∧ n ≤ 1000000), none, .si .i64 (errO (validV it ag (papL n get)) is), []⟩
  | _ => none
theorem c48_mono : CtMono c48 := by
  intro fr args H H' out hH h
  unfold c48 at h ⊢
  split at h
  · exact passK_mono hH h
  · cases h
theorem k48 {l : List (Nat × Ct)} (g0 : Good P T l) : COk P 48 c48 := by
  have g := g28 good0
  refine cok (C := tabC _) g.ok Try.func48 (c := code Try.f48) rfl fun fr args H out h hp => ?_
  unfold c48 at h
  split at h
  case h_2 => cases h
  rename_i l is
  obtain ⟨i1, it, ag, n, get, rfl, e1, h⟩ := passK_some h
  cases h
  obtain ⟨hs, hn⟩ : Pps n get ∧ n ≤ 1000000 := hp
  refine ⟨[(i1, .ro 5 n fun i => ppC (ppAt get i))], [.agg (paA 0 it ag), .sb is], [(0, .ro 5 n fun i => ppC (ppAt get i))], 1, [], rfl, rfl, Nat.le_of_ble_eq_true rfl, pp_hand e1 hs, rfl, rfl, fun G hG => ?_⟩
  unfold papL
  generalize ppAt get = L
  refine Chk.mk ⟨pps_i _ _, hn⟩ ?_
  refine Br.mk (fun h => ?_) (fun h => ?_)
  · have h : (!validV it ag ((List.range n).map L)) = true := h
    have h : validV it ag ((List.range n).map L) = false := by simpa using h
    rw [h]
    exact ⟨.inl rfl, end_noid ⟨rfl, by simp [errO]⟩ rfl rfl (by repeat' (first | exact trivial | exact rfl | (intro i hi; exact ⟨rfl, rfl⟩) | refine And.intro ?_ ?_))⟩
  · have h : (!validV it ag ((List.range n).map L)) = false := h
    have h : validV it ag ((List.range n).map L) = true := by simpa using h
    rw [h]
    refine Br.mk (fun h2 => ?_) (fun h2 => ?_)
    · have h2 : is = false := by simpa using h2
      subst h2
      exact ⟨.inl rfl, end_noid ⟨rfl, by simp [errO]⟩ rfl rfl (by repeat' (first | exact trivial | exact rfl | (intro i hi; exact ⟨rfl, rfl⟩) | refine And.intro ?_ ?_))⟩
    · have h2 : is = true := by simpa using h2
      subst h2
      exact ⟨.inl rfl, end_noid ⟨rfl, by simp [errO]⟩ rfl rfl (by repeat' (first | exact trivial | exact rfl | (intro i hi; exact ⟨rfl, rfl⟩) | refine And.intro ?_ ?_))⟩
theorem g48 {l : List (Nat × Ct)} (g : Good P T l) : Good P T ((48, c48) :: l) := g.add (k48 g) c48_mono (body_of Try.func48 (c := code Try.f48) rfl (by decide))
def c96 : Ct := fun fr args H => match args with
  | [.agg l, .si .i64 q, .si .i64 y] => passK H l fun i1 it ag n get => some ⟨some (Pps n get ∧ PpOk ag n (ppAt get) ∧ 0 ≤ q ∧ q < n), none, .sb (inB y (ppAt get q.toNat).yr ((ppAt get q.toNat).yr + ag)), []⟩
  | _ => none
theorem c96_mono : CtMono c96 := by
  intro fr args H H' out hH h
  unfold c96 at h ⊢
  split at h
  · exact passK_mono hH h
  · cases h
theorem k96 {l : List (Nat × Ct)} (g0 : Good P T l) : COk P 96 c96 := by
  have g := g65 good0
  refine cok (C := tabC _) g.ok Try.func96 (c := code Try.f96) rfl fun fr args H out h hp => ?_
  unfold c96 at h
  split at h
  case h_2 => cases h
  rename_i l q y
  obtain ⟨i1, it, ag, n, get, rfl, e1, h⟩ := passK_some h
  cases h
  obtain ⟨hs, hr, hq⟩ : Pps n get ∧ PpOk ag n (ppAt get) ∧ 0 ≤ q ∧ q < n := hp
  refine ⟨[(i1, .ro 5 n fun i => ppC (ppAt get i))], [.agg (paA 0 it ag), .si .i64 q, .si .i64 y], [(0, .ro 5 n fun i => ppC (ppAt get i))], 1, [], rfl, rfl, Nat.le_of_ble_eq_true rfl, pp_hand e1 hs, rfl, rfl, fun G hG => ?_⟩
  generalize ppAt get = L at hr ⊢
  have hx := hr.2.2 q.toNat (by omega)
  have hag := hr.2.1
  refine drawn_ok (g.ok _ _ _) fol [0,0,2,0,14,30,62,0,128,0,896,1920,3968,0,8192,32640,65535,131071] [] 18 (by kernel_rfl) ?_
  refine Chk.mk hq (Chk.mk hq (Chk.mk (show InK .i64 ((L q.toNat).yr + ag) from ⟨by omega, by omega⟩) ?_))
  exact ⟨.inl rfl, end_noid rfl rfl rfl (by repeat' (first | exact trivial | exact rfl | (intro i hi; exact ⟨rfl, rfl⟩) | refine And.intro ?_ ?_))⟩
theorem g96 {l : List (Nat × Ct)} (g : Good P T l) : Good P T ((96, c96) :: l) := g.add (k96 g) c96_mono (body_of Try.func96 (c := code Try.f96) rfl (by decide))
def c90 : Ct := fun fr args H => match args with
  | [.agg l, .si .i64 q, .si .i64 y] => passK H l fun i1 it ag n get => some ⟨some (Pps n get ∧ PpOk ag n (ppAt get) ∧ (0 ≤ q ∧ q < n) ∧ 0 ≤ y ∧ y ≤ 20), none, .si .i64 (addsV y (ppAt get q.toNat)), []⟩
  | _ => none
theorem c90_mono : CtMono c90 := by
  intro fr args H H' out hH h
  unfold c90 at h ⊢
  split at h
  · exact passK_mono hH h
  · cases h
theorem k90 {l : List (Nat × Ct)} (g0 : Good P T l) : COk P 90 c90 := by
  have g := good0
  refine cok (C := tabC _) g.ok Try.func90 (c := code Try.f90) rfl fun fr args H out h hp => ?_
  unfold c90 at h
  split at h
  case h_2 => cases h
  rename_i l q y
  obtain ⟨i1, it, ag, n, get, rfl, e1, h⟩ := passK_some h
  cases h
  obtain ⟨hs, hr, hq, hy⟩ : Pps n get ∧ PpOk ag n (ppAt get) ∧ (0 ≤ q ∧ q < n) ∧ 0 ≤ y ∧ y ≤ 20 := hp
  refine ⟨[(i1, .ro 5 n fun i => ppC (ppAt get i))], [.agg (paA 0 it ag), .si .i64 q, .si .i64 y], [(0, .ro 5 n fun i => ppC (ppAt get i))], 1, [], rfl, rfl, Nat.le_of_ble_eq_true rfl, pp_hand e1 hs, rfl, rfl, fun G hG => ?_⟩
  generalize ppAt get = L at hr ⊢
  have hx := hr.2.2 q.toNat (by omega)
  have hd2 : -200 ≤ (L q.toNat).dr * (y - (L q.toNat).yr) ∧ (L q.toNat).dr * (y - (L q.toNat).yr) ≤ 200 := dr_in hx.2.2 (by omega)
  refine Chk.mk hq (Chk.mk (show InK .i64 (y - (L q.toNat).yr) from ⟨by omega, by omega⟩) (Chk.mk (show InK .i64 ((L q.toNat).dr * (y - (L q.toNat).yr)) from ⟨by omega, by omega⟩) (Chk.mk (show InK .i64 ((L q.toNat).wr + (L q.toNat).dr * (y - (L q.toNat).yr)) from ⟨by omega, by omega⟩) ?_)))
  exact ⟨.inl rfl, end_noid ⟨rfl, rfl⟩ rfl rfl (by repeat' (first | exact trivial | exact rfl | (intro i hi; exact ⟨rfl, rfl⟩) | refine And.intro ?_ ?_))⟩
theorem g90 {l : List (Nat × Ct)} (g : Good P T l) : Good P T ((90, c90) :: l) := g.add (k90 g) c90_mono (body_of Try.func90 (c := code Try.f90) rfl (by decide))
end Go.X.Ps
end

section
set_option linter.unusedVariables false
set_option linter.unusedSimpArgs false
set_option linter.unusedSectionVars false
/- Pass: all chains, and the best of them, as the document says it, in plain Lean. -/
set_option linter.unusedVariables false
set_option linter.unusedSimpArgs false
set_option maxRecDepth 10000
set_option maxHeartbeats 4000000
namespace Go.X.Ps
open Go Go.Proofs Go.X

def sumD (r : Nat → Pp) : List Int → Int → Int → Int
  | [], _, acc => acc
  | k :: l, y, acc => sumD r l (r k.toNat).yr (acc + addsV y (r k.toNat))
def befD : List Int → List Int → Bool
  | [], _ => false
  | _ :: _, [] => false
  | a :: l, b :: m => if a = b then befD l m else decide (a < b)
/-- May a certificate come next? -/
def canD (ag q y : Int) (r : Nat → Pp) (beg : List Int) (i : Nat) : Bool := holdsV q y (r i) ag && !beg.contains (i : Int)
def chainsD (ag : Int) (n : Nat) (r : Nat → Pp) : Nat → List Int → Int → Int → List (List Int)
  | 0, _, _, _ => []
  | f + 1, beg, q, y => if q < 0 then [beg] else (List.range n).flatMap fun i => if canD ag q y r beg i = true then chainsD ag n r f (beg ++ [(i : Int)]) (r i).by_ (r i).yr else []
theorem sumD_walk {ag : Int} {n : Nat} {r : Nat → Pp} {q y : Int} {c : Ch} (h : WalkC ag n r q y c) : ∀ acc, sumD r c.ps y acc = acc + c.w := by
  induction h with
  | nil => intro acc; show acc = acc + 0; omega
  | @cons it y i c h0 h1 h2 h3 ih =>
    intro acc
    show sumD r c.ps (r (i : Int).toNat).yr (acc + addsV y (r (i : Int).toNat)) = acc + (addsV y (r i) + c.w)
    rw [Int.toNat_natCast, ih]
    omega
theorem befD_cmp : ∀ {a b : List Int}, a.length = b.length → befD a b = decide (cmpV a b < 0)
  | [], [], _ => rfl
  | a :: l, b :: m, h => by
    have ih := befD_cmp (a := l) (b := m) (by simpa using h)
    unfold befD cmpV
    rcases cmpI_cases a b with ⟨h1, h2⟩ | ⟨h1, h2⟩ | ⟨h1, h2⟩
    · rw [h1, if_neg (by omega), if_neg (by decide)]; simp [h2]
    · rw [h1, if_pos h2, if_pos rfl, ih]
    · rw [h1, if_neg (by omega), if_neg (by decide)]; simp; omega
theorem chainsD_mem {ag : Int} {n : Nat} {r : Nat → Pp} (hby : ∀ j, j < n → -1 ≤ (r j).by_) : ∀ {f : Nat} {beg : List Int} {q y : Int} {l : List Int}, -1 ≤ q → beg.Nodup → l ∈ chainsD ag n r f beg q y → ∃ c, WalkC ag n r q y c ∧ l = beg ++ c.ps ∧ l.Nodup
  | 0, beg, q, y, l, hq, hb, h => by cases h
  | f + 1, beg, q, y, l, hq, hb, h => by
    unfold chainsD at h
    split at h
    · obtain rfl := List.mem_singleton.1 h
      obtain rfl : q = -1 := by omega
      exact ⟨ch0, .nil, by simp [ch0], hb⟩
    · obtain ⟨i, hi, h⟩ := List.mem_flatMap.1 h
      have hi := List.mem_range.1 hi
      split at h
      · rename_i hq0 hc
        unfold canD at hc
        rw [Bool.and_eq_true, Bool.not_eq_true'] at hc
        have hni : ¬ (i : Int) ∈ beg := by
          intro hm
          rw [List.contains_iff_mem.2 hm] at hc
          cases hc.2
        obtain ⟨c, h1, h2, h3⟩ := chainsD_mem hby (f := f) (hby i hi) (by
          refine List.nodup_append.2 ⟨hb, by simp, fun a ha b hb2 => ?_⟩
          rw [List.mem_singleton.1 hb2]
          rintro rfl
          exact hni ha) h
        refine ⟨linkC y i (r i) c, .cons (by omega) hi hc.1 h1, ?_, h3⟩
        rw [h2]
        show beg ++ [(i : Int)] ++ c.ps = beg ++ ((i : Int) :: c.ps)
        simp
      · cases h
theorem mem_chainsD {ag : Int} {n : Nat} {r : Nat → Pp} {q y : Int} {c : Ch} (h : WalkC ag n r q y c) : ∀ {f : Nat} {beg : List Int}, 0 ≤ q ∨ q = -1 → (∀ j, j < n → -1 ≤ (r j).by_) → (beg ++ c.ps).Nodup → c.ps.length < f → beg ++ c.ps ∈ chainsD ag n r f beg q y := by
  induction h with
  | nil =>
    intro f beg hq hby hn hf
    obtain ⟨f, rfl⟩ : ∃ f', f = f' + 1 := ⟨f - 1, by omega⟩
    unfold chainsD
    rw [if_pos (by decide)]
    simp [ch0]
  | @cons it y i c h0 h1 h2 h3 ih =>
    intro f beg hq hby hn hf
    obtain ⟨f, rfl⟩ : ∃ f', f = f' + 1 := ⟨f - 1, by omega⟩
    have hn : (beg ++ ((i : Int) :: c.ps)).Nodup := hn
    have hf : (c.ps.length + 1) < f + 1 := hf
    show beg ++ ((i : Int) :: c.ps) ∈ _
    unfold chainsD
    rw [if_neg (by omega)]
    refine List.mem_flatMap.2 ⟨i, List.mem_range.2 h1, ?_⟩
    have hni : ¬ (i : Int) ∈ beg := fun hm => (List.nodup_append.1 hn).2.2 _ hm _ List.mem_cons_self rfl
    have hcan : canD ag it y r beg i = true := by
      unfold canD
      rw [h2]
      simpa using hni
    rw [if_pos hcan]
    have e : beg ++ ((i : Int) :: c.ps) = beg ++ [(i : Int)] ++ c.ps := by simp
    rw [e]
    refine ih ?_ hby (e ▸ hn) (by omega)
    have := hby i h1
    omega
/-- All chains, with what they add together. -/
def chsD (ag : Int) (n : Nat) (r : Nat → Pp) (q y : Int) : List Ch := (chainsD ag n r (n + 1) [] q y).map fun l => ⟨l, sumD r l y 0⟩
theorem chsD_walk {ag : Int} {n : Nat} {r : Nat → Pp} (hby : ∀ j, j < n → -1 ≤ (r j).by_) {q y : Int} (hq : -1 ≤ q) {c : Ch} (h : c ∈ chsD ag n r q y) : WalkC ag n r q y c := by
  obtain ⟨l, hl, rfl⟩ := List.mem_map.1 h
  obtain ⟨c, h1, h2, h3⟩ := chainsD_mem hby hq List.nodup_nil hl
  rw [List.nil_append] at h2
  subst h2
  rw [sumD_walk h1, Int.zero_add]
  exact h1
theorem walk_chsD {ag : Int} {n : Nat} {r : Nat → Pp} (hby : ∀ j, j < n → -1 ≤ (r j).by_) {q y : Int} (hq : -1 ≤ q) {c : Ch} (h : WalkC ag n r q y c) (hn : c.ps.Nodup) : c ∈ chsD ag n r q y := by
  refine List.mem_map.2 ⟨c.ps, ?_, ?_⟩
  · have := mem_chainsD h (f := n + 1) (beg := []) (by omega) hby (by simpa using hn) (by have := nodup_le hn (walkC_mem h); omega)
    simpa using this
  · rw [sumD_walk h, Int.zero_add]
theorem best_eq {ag : Int} {n : Nat} {r : Nat → Pp} (hr : PpB ag n r) (hby : ∀ j, j < n → -1 ≤ (r j).by_) {q y : Int} (hq : -1 ≤ q) : lstC (chsD ag n r q y) = bst ag n r q y := by
  cases h : lstC (chsD ag n r q y) with
  | none =>
    refine (bst_eq_none hr fun c hc hn => ?_).symm
    have := walk_chsD hby hq hc hn
    rw [lstC_none h] at this
    cases this
  | some c => exact (bst_eq hr (chsD_walk hby hq (lstC_mem h)) fun c2 h2 hn => lstC_le h c2 (walk_chsD hby hq h2 hn)).symm
/-- How one chain is asked to be better than another one. -/
theorem lessD_eq {a b : Ch} : (decide (a.w < b.w) || (decide (a.w = b.w) && (decide (a.ps.length < b.ps.length) || (decide (a.ps.length = b.ps.length) && befD a.ps b.ps)))) = lessV a b := by
  rw [Bool.eq_iff_iff, lessV_iff]
  simp only [Bool.or_eq_true, Bool.and_eq_true, decide_eq_true_eq]
  constructor
  · rintro (h | ⟨h1, h2 | ⟨h2, h3⟩⟩)
    · exact .inl h
    · exact .inr ⟨h1, .inl h2⟩
    · rw [befD_cmp h2, decide_eq_true_eq] at h3
      exact .inr ⟨h1, .inr ⟨h2, h3⟩⟩
  · rintro (h | ⟨h1, h2 | ⟨h2, h3⟩⟩)
    · exact .inl h
    · exact .inr ⟨h1, .inl h2⟩
    · refine .inr ⟨h1, .inr ⟨h2, ?_⟩⟩
      rw [befD_cmp h2, decide_eq_true_eq]
      exact h3
end Go.X.Ps
end

section
set_option linter.unusedVariables false
set_option linter.unusedSimpArgs false
set_option linter.unusedSectionVars false
/- Pass: the document's functions of one chain. -/
set_option linter.unusedVariables false
set_option linter.unusedSimpArgs false
set_option maxRecDepth 10000
set_option maxHeartbeats 4000000
namespace Go.X.Ps
open Go Go.Proofs Go.X

theorem intL_drop {m : Nat} {f : Nat → Int} {i : Nat} (h : i < m) : (intL m f).drop i = f i :: (intL m f).drop (i + 1) := by
  rw [List.drop_eq_getElem_cons (by rw [intL_len]; omega)]
  congr 1
  simp [intL]
theorem intL_end {m : Nat} {f : Nat → Int} : (intL m f).drop m = [] := List.drop_eq_nil_of_le (by rw [intL_len]; omega)
/-! among -/
def c97 : Ct := fun fr args H => match args with
  | [.sl li, .si .i64 q] => (match sliceOf 1 H li with
    | some (m, g) => some ⟨some (Ints m g ∧ m ≤ 1000), none, .sb ((intL m (intAt g)).contains q), []⟩
    | none => none)
  | _ => none
theorem c97_mono : CtMono c97 := by
  intro fr args H H' out hH h
  unfold c97 at h ⊢
  split at h
  · split at h
    · rename_i e
      simp only [sliceOf_mono hH e]
      exact h
    · cases h
  · cases h
theorem k97 {l : List (Nat × Ct)} (g0 : Good P T l) : COk P 97 c97 := by
  have g := good0
  refine cok (C := tabC _) g.ok Try.func97 (c := code Try.f97) rfl fun fr args H out h hp => ?_
  unfold c97 at h
  split at h
  case h_2 => cases h
  rename_i li q
  split at h
  case h_2 => cases h
  rename_i m gg e2
  cases h
  obtain ⟨hsi, hm⟩ : Ints m gg ∧ m ≤ 1000 := hp
  generalize hf : intAt gg = f at hsi ⊢
  have hh : Hand H [(li, .ro 1 m fun i => intC (f i))] := hand_mk ⟨sliceOf_piece e2 fun i hi => by rw [hsi i hi, hf]; rfl, trivial⟩
    (by repeat' (first | exact trivial | (intro i hi; exact ⟨trivial, trivial⟩) | refine And.intro ?_ ?_)) rfl
  refine ⟨[(li, .ro 1 m fun i => intC (f i))], [.sl 0, .si .i64 q], [(0, .ro 1 m fun i => intC (f i))], 1, [], rfl, rfl, Nat.le_of_ble_eq_true rfl, hh, rfl, rfl, fun G hG => ?_⟩
  generalize hV : (intL m f).contains q = V
  refine loop_okR (g.ok _ _ _) 1 (fun z : {i : Nat // i ≤ m ∧ ((intL m f).drop i).contains q = V} => ⟨[(0, ⟨[], .sl 0⟩), (1, ⟨[], .si .i64 q⟩), (5, ⟨[], .si .i64 (z.1 : Int)⟩)], [], [(0, .ro 1 m fun i => intC (f i))], 1, []⟩)
    (fun z => m - z.1) hG ⟨0, Nat.zero_le _, hV⟩ (fun j => j) ?_ ?_
  · refine ⟨?_, ?_, rfl, rfl, rfl, rfl, trivial⟩ <;> repeat' (first | exact trivial | exact rfl | exact List.Perm.refl _ | (intro i hi; exact ⟨rfl, rfl⟩) | refine And.intro ?_ ?_)
  rintro ⟨i, hi, hinv⟩
  refine Br.mk (fun h => ?_) (fun h => ?_)
  · have h : (i : Int) < (m : Int) := of_decide_eq_true h
    refine Chk.mk (show (0 : Int) ≤ (i : Int) ∧ (i : Int) < (m : Int) from ⟨by omega, h⟩) ?_
    rw [intL_drop (show i < m by omega), List.contains_cons] at hinv
    refine Br.mk (fun h2 => ?_) (fun h2 => ?_)
    · have h2 : f i = q := of_decide_eq_true h2
      refine ⟨.inl rfl, end_noid ?_ rfl rfl (by repeat' (first | exact trivial | exact rfl | (intro i hi; exact ⟨rfl, rfl⟩) | refine And.intro ?_ ?_))⟩
      rw [← hinv, h2]
      simp
      exact rfl
    · have h2 : ¬ f i = q := of_decide_eq_false h2
      refine Chk.mk (show InK .i64 ((i : Int) + 1) from ⟨by omega, by omega⟩) ⟨⟨i + 1, by omega, ?_⟩, (fun j => j), ?_, by show m - (i + 1) < m - i; omega⟩
      · rw [← hinv]
        have : (q == f i) = false := by simp; omega
        rw [this, Bool.false_or]
      · refine ⟨?_, ?_, rfl, rfl, rfl, rfl, trivial⟩ <;> repeat' (first | exact trivial | exact rfl | exact List.Perm.refl _ | (intro i hi; exact ⟨rfl, rfl⟩) | refine And.intro ?_ ?_)
  · have h : ¬ (i : Int) < (m : Int) := of_decide_eq_false h
    obtain rfl : i = m := by omega
    rw [intL_end] at hinv
    refine ⟨.inl rfl, end_noid ?_ rfl rfl (by repeat' (first | exact trivial | exact rfl | (intro i hi; exact ⟨rfl, rfl⟩) | refine And.intro ?_ ?_))⟩
    exact hinv
theorem g97 {l : List (Nat × Ct)} (g : Good P T l) : Good P T ((97, c97) :: l) := g.add (k97 g) c97_mono (body_of Try.func97 (c := code Try.f97) rfl (by decide))
/-! before -/
def c74 : Ct := fun fr args H => match args with
  | [.sl la, .sl lb] => (match sliceOf 1 H la with
    | some (m, g) => (match sliceOf 1 H lb with
      | some (m', g') => some ⟨some (Ints m g ∧ Ints m' g' ∧ m = m' ∧ m ≤ 1000), none, .sb (befD (intL m (intAt g)) (intL m' (intAt g'))), []⟩
      | none => none)
    | none => none)
  | _ => none
theorem c74_mono : CtMono c74 := by
  intro fr args H H' out hH h
  unfold c74 at h ⊢
  split at h
  · split at h
    · rename_i e
      simp only [sliceOf_mono hH e]
      split at h
      · rename_i e2
        simp only [sliceOf_mono hH e2]
        exact h
      · cases h
    · cases h
  · cases h
theorem k74 {l : List (Nat × Ct)} (g0 : Good P T l) : COk P 74 c74 := by
  have g := good0
  refine cok (C := tabC _) g.ok Try.func74 (c := code Try.f74) rfl fun fr args H out h hp => ?_
  unfold c74 at h
  split at h
  case h_2 => cases h
  rename_i la lb
  split at h
  case h_2 => cases h
  rename_i m gg e1
  split at h
  case h_2 => cases h
  rename_i m' gg' e2
  cases h
  obtain ⟨hsi, hsi', rfl, hm⟩ : Ints m gg ∧ Ints m' gg' ∧ m = m' ∧ m ≤ 1000 := hp
  generalize hf : intAt gg = f at hsi ⊢
  generalize hf' : intAt gg' = f' at hsi' ⊢
  have hh : Hand H [(la, .ro 1 m fun i => intC (f i)), (lb, .ro 1 m fun i => intC (f' i))] := hand_mk ⟨sliceOf_piece e1 fun i hi => by rw [hsi i hi, hf]; rfl, sliceOf_piece e2 fun i hi => by rw [hsi' i hi, hf']; rfl, trivial⟩
    (by repeat' (first | exact trivial | (intro i hi; exact ⟨trivial, trivial⟩) | refine And.intro ?_ ?_)) rfl
  refine ⟨[(la, .ro 1 m fun i => intC (f i)), (lb, .ro 1 m fun i => intC (f' i))], [.sl 0, .sl 1], [(0, .ro 1 m fun i => intC (f i)), (1, .ro 1 m fun i => intC (f' i))], 2, [], rfl, rfl, Nat.le_of_ble_eq_true rfl, hh, rfl, rfl, fun G hG => ?_⟩
  generalize hV : befD (intL m f) (intL m f') = V
  refine loop_okR (g.ok _ _ _) 2 (fun z : {i : Nat // i ≤ m ∧ befD ((intL m f).drop i) ((intL m f').drop i) = V} => ⟨[(0, ⟨[], .sl 0⟩), (1, ⟨[], .sl 1⟩), (5, ⟨[], .si .i64 (z.1 : Int)⟩)], [], [(0, .ro 1 m fun i => intC (f i)), (1, .ro 1 m fun i => intC (f' i))], 2, []⟩)
    (fun z => m - z.1) hG ⟨0, Nat.zero_le _, hV⟩ (fun j => j) ?_ ?_
  · refine ⟨?_, ?_, rfl, rfl, rfl, rfl, trivial⟩ <;> repeat' (first | exact trivial | exact rfl | exact List.Perm.refl _ | (intro i hi; exact ⟨rfl, rfl⟩) | refine And.intro ?_ ?_)
  rintro ⟨i, hi, hinv⟩
  refine Br.mk (fun h => ?_) (fun h => ?_)
  · have h : (i : Int) < (m : Int) := of_decide_eq_true h
    have hb : (0 : Int) ≤ (i : Int) ∧ (i : Int) < (m : Int) := ⟨by omega, h⟩
    refine drawn_ok (g.ok _ _ _) fol [0,0,3,7,0,0,48,112,255] [] 9 (by kernel_rfl) ?_
    refine Chk.mk hb (Chk.mk hb ?_)
    rw [intL_drop (show i < m by omega), intL_drop (show i < m by omega)] at hinv
    unfold befD at hinv
    refine Br.mk (fun h2 => ?_) (fun h2 => ?_)
    · have h2 : (!decide (f i = f' i)) = true := h2
      have h2 : ¬ f i = f' i := by simpa using h2
      rw [if_neg h2] at hinv
      refine drawn_ok (g.ok _ _ _) fol [0,0,3,7,0,0,48,112,255,511] [] 10 (by kernel_rfl) ?_
      refine Chk.mk hb (Chk.mk hb ?_)
      exact ⟨.inl rfl, end_noid hinv rfl rfl (by repeat' (first | exact trivial | exact rfl | (intro i hi; exact ⟨rfl, rfl⟩) | refine And.intro ?_ ?_))⟩
    · have h2 : (!decide (f i = f' i)) = false := h2
      have h2 : f i = f' i := by simpa using h2
      rw [if_pos h2] at hinv
      refine Chk.mk (show InK .i64 ((i : Int) + 1) from ⟨by omega, by omega⟩) ⟨⟨i + 1, by omega, hinv⟩, (fun j => j), ?_, by show m - (i + 1) < m - i; omega⟩
      refine ⟨?_, ?_, rfl, rfl, rfl, rfl, trivial⟩ <;> repeat' (first | exact trivial | exact rfl | exact List.Perm.refl _ | (intro i hi; exact ⟨rfl, rfl⟩) | refine And.intro ?_ ?_)
  · have h : ¬ (i : Int) < (m : Int) := of_decide_eq_false h
    obtain rfl : i = m := by omega
    rw [intL_end, intL_end] at hinv
    exact ⟨.inl rfl, end_noid hinv rfl rfl (by repeat' (first | exact trivial | exact rfl | (intro i hi; exact ⟨rfl, rfl⟩) | refine And.intro ?_ ?_))⟩
theorem g74 {l : List (Nat × Ct)} (g : Good P T l) : Good P T ((74, c74) :: l) := g.add (k74 g) c74_mono (body_of Try.func74 (c := code Try.f74) rfl (by decide))
end Go.X.Ps
end

section
set_option linter.unusedVariables false
set_option linter.unusedSimpArgs false
set_option linter.unusedSectionVars false
/- Pass: the document's Sum, in whatever order. -/
set_option linter.unusedVariables false
set_option linter.unusedSimpArgs false
set_option maxRecDepth 10000
set_option maxHeartbeats 4000000
namespace Go.X.Ps
open Go Go.Proofs Go.X

noncomputable def op73 : Array Oper := regO 5 (code Try.f73)
noncomputable abbrev X73 (G : Base) : Cx := ⟨P, T, tabC [(90, c90)], G, none, Try.f73.ntmps⟩
def ix73 (j : Nat) : Option Nat := if Nat.blt j 18 then some j else none
def z73 (a : Bool) : Nat → Bool
  | 18 => a
  | _ => false
def an73 : Nat → List Nat
  | 4 => [2, 3]
  | 5 => [4]
  | 7 => [1, 5, 6]
  | 8 => [0, 7]
  | 10 => [9]
  | 13 => [11, 12]
  | 14 => [13]
  | 15 => [10, 14]
  | 16 => [15]
  | 17 => [16]
  | _ => []
theorem an73_lt : ∀ i, ∀ j ∈ an73 i, j < i := by
  intro i j hj
  unfold an73 at hj
  split at hj <;> simp at hj <;> omega
theorem lat73a : symC op73 20 18 ix73 (fun i => i) 18 an73 [0, 8] (z73 false) = true := by kernel_rfl
theorem lat73b : symX op73 20 18 ix73 (fun i => i) an73 (z73 true) = true := by kernel_rfl
theorem zz73 : ∀ k, k < 20 → k ≠ 18 → z73 true k = z73 false k := by
  intro k _ h
  unfold z73
  split <;> first | rfl | exact absurd rfl h
def sl73 (it ag y' acc : Int) (r : Nat → Pp) (f : Nat → Int) (i : Nat) : Nat → List (Nat × FE)
  | 0 => [(15, ⟨[], .si .i64 acc⟩)]
  | 1 => [(16, ⟨[], .agg (paA 0 it ag)⟩)]
  | 2 => [(17, ⟨[], .sl 1⟩)]
  | 3 => [(18, ⟨[], .si .i64 (i : Int)⟩)]
  | 4 => [(19, ⟨[], .se 1 (i : Int) 0⟩)]
  | 5 => [(20, ⟨[], .si .i64 (f i)⟩)]
  | 6 => [(21, ⟨[], .si .i64 y'⟩)]
  | 7 => [(22, ⟨[], .si .i64 (addsV y' (r (f i).toNat))⟩)]
  | 8 => [(23, ⟨[], .si .i64 (acc + addsV y' (r (f i).toNat))⟩)]
  | 9 => [(24, ⟨[], .sp 2 2⟩)]
  | 10 => [(25, ⟨[], .sl 0⟩)]
  | 11 => [(26, ⟨[], .sl 1⟩)]
  | 12 => [(27, ⟨[], .si .i64 (i : Int)⟩)]
  | 13 => [(28, ⟨[], .se 1 (i : Int) 0⟩)]
  | 14 => [(29, ⟨[], .si .i64 (f i)⟩)]
  | 15 => [(30, ⟨[], .se 0 (f i) 0⟩)]
  | 16 => [(31, ⟨[], .se 0 (f i) 3⟩)]
  | 17 => [(32, ⟨[], .si .i64 (r (f i).toNat).yr⟩)]
  | _ => []
def b73 (y' : Int) (i : Nat) : List (Nat × FE) := [(1, ⟨[], .sl 1⟩), (2, ⟨[], .si .i64 y'⟩), (3, ⟨[], .sp 2 0⟩), (8, ⟨[], .si .i64 (i : Int)⟩)]
def H73 (it ag : Int) (n m : Nat) (r : Nat → Pp) (f : Nat → Int) : List (Nat × HB) := [(2, .cells 24 (paA 0 it ag)), (0, .ro 5 n fun i => ppC (r i)), (1, .ro 1 m fun i => intC (f i))]
section
variable {G : Base} {it ag y' acc : Int} {n m i : Nat} {r : Nat → Pp} {f : Nat → Int} {K : Ex → St → Prop}
theorem reg73 (hX : (X73 G).Ok) (hG : ∀ j, 2 ≤ j → G.ρ j = none) (him : i < m) (hr : PpOk ag n r) (hbi : 0 ≤ f i ∧ f i < n) (hy : 0 ≤ y' ∧ y' ≤ 20) (hacc : -1000000 ≤ acc ∧ acc ≤ 1000000)
    (hK : K .normal ⟨[(1, ⟨[], .sl 1⟩), (2, ⟨[], .si .i64 (r (f i).toNat).yr⟩), (3, ⟨[], .sp 2 0⟩), (7, ⟨[], .si .i64 (acc + addsV y' (r (f i).toNat))⟩), (8, ⟨[], .si .i64 (i : Int)⟩)], [], H73 it ag n m r f, 3, []⟩) :
    AnyS (X73 G) op73 20 (Array.replicate 20 false) ⟨(7, ⟨[], .si .i64 acc⟩) :: b73 y' i, [], H73 it ag n m r f, 3, []⟩ K := by
  have hb1 : (0 : Int) ≤ (i : Int) ∧ (i : Int) < (m : Int) := ⟨by omega, by omega⟩
  have hx := hr.2.2 (f i).toNat (by omega)
  have had : -200 ≤ addsV y' (r (f i).toNat) ∧ addsV y' (r (f i).toNat) ≤ 250 := by
    have := dr_in (d := (r (f i).toNat).dr) (z := y' - (r (f i).toNat).yr) hx.2.2 (by omega)
    unfold addsV
    omega
  have hin : InK .i64 (acc + addsV y' (r (f i).toNat)) := ⟨by omega, by omega⟩
  refine any_latF (D := []) hX 18 (arrZ 20 ix73 (z73 false)) (arrZ 20 ix73 (z73 true)) (fun i => i) 18 (sl73 it ag y' acc r f i) ((7, ⟨[], .si .i64 acc⟩) :: b73 y' i) (fun l => [(7, ⟨[], .si .i64 (acc + addsV y' (r (f i).toNat))⟩)]) (fun l => (7, ⟨[], .si .i64 (acc + addsV y' (r (f i).toNat))⟩) :: b73 y' i) (fun _ => H73 it ag n m r f) (fun _ => 3) (fun _ => H73 it ag n m r f) (fun _ => 3) an73 [0, 8] 1 (fun l => True) (fun _ _ _ => trivial) (fun i hi j hj => by have := an73_lt i j hj; omega) (fun j hj => by simp at hj; omega) (latC_sym lat73a rfl zz73) ?_ (fun l => ⟨⟨rfl, rfl⟩, trivial⟩) ?_ ?_ ?_ ?_ ?_ (List.replicate 18 false) rfl (by decide) trivial
  · repeat' (first | exact trivial | exact ⟨rfl, rfl⟩ | refine And.intro ?_ ?_)
  · intro l p hp
    simp only [b73, List.mem_cons, List.not_mem_nil, or_false] at hp ⊢
    rcases hp with rfl | rfl | rfl | rfl | rfl <;> simp
  · intro i hi l p hp q' hq'
    rw [List.mem_singleton.1 hq']
    rcases (show i = 0 ∨ i = 1 ∨ i = 2 ∨ i = 3 ∨ i = 4 ∨ i = 5 ∨ i = 6 ∨ i = 7 ∨ i = 8 ∨ i = 9 ∨ i = 10 ∨ i = 11 ∨ i = 12 ∨ i = 13 ∨ i = 14 ∨ i = 15 ∨ i = 16 ∨ i = 17 by omega) with rfl | rfl | rfl | rfl | rfl | rfl | rfl | rfl | rfl | rfl | rfl | rfl | rfl | rfl | rfl | rfl | rfl | rfl <;> (rw [List.mem_singleton.1 hp]; simp)
  · intro j hj l hl hpl hf ha hcl
    rcases (show j = 4 ∨ j = 7 ∨ j = 8 ∨ j = 13 ∨ j = 15 ∨ j = 0 ∨ j = 1 ∨ j = 2 ∨ j = 3 ∨ j = 5 ∨ j = 6 ∨ j = 9 ∨ j = 10 ∨ j = 11 ∨ j = 12 ∨ j = 14 ∨ j = 16 ∨ j = 17 by omega) with rfl | rfl | rfl | rfl | rfl | rfl | rfl | rfl | rfl | rfl | rfl | rfl | rfl | rfl | rfl | rfl | rfl | rfl
    · exact ⟨_, rfl, rfl, fun tail Q Kn hC hK => Chk.mk hb1 hK⟩
    · exact ⟨_, rfl, rfl, fun tail Q Kn hC hK => Chk.mk ⟨pps_i _ _, hr, hbi, hy⟩ hK⟩
    · exact ⟨_, rfl, rfl, fun tail Q Kn hC hK => Chk.mk hin hK⟩
    · exact ⟨_, rfl, rfl, fun tail Q Kn hC hK => Chk.mk hb1 hK⟩
    · exact ⟨_, rfl, rfl, fun tail Q Kn hC hK => Chk.mk hbi hK⟩
    all_goals exact ⟨_, rfl, rfl, fun tail Q Kn hC hK => hK⟩
  · exact fun l hl hpl ha hcl => ⟨_, rfl, rfl, fun tail Q Kn hC hK => hK⟩
  · intro l hl hcl _ ha
    refine any_latU (D := []) hX 18 (arrZ 20 ix73 (z73 true)) (fun i => i) (exM 18) (sl73 it ag y' acc r f i) ((7, ⟨[], .si .i64 (acc + addsV y' (r (f i).toNat))⟩) :: b73 y' i) (fun _ => H73 it ag n m r f) (fun _ => 3) an73 1 (fun l => l.getD 0 false = true) (fun l i h => by
      by_cases e : i = 0
      · subst e
        by_cases hl : 0 < l.length
        · exact getS hl
        · rw [List.getD, List.getElem?_eq_none (by omega)] at h; cases h
      · rw [getN e]; exact h) (fun i hi j hj => by have := an73_lt i j hj; omega) (latX_sym lat73b) ?_ ?_ ?_ l hl hcl (ha 0 (by decide))
    · repeat' (first | exact trivial | exact ⟨rfl, rfl⟩ | refine And.intro ?_ ?_)
    · intro j hj l hl hpl hf ha hcl
      rcases (show j = 0 ∨ j = 4 ∨ j = 7 ∨ j = 8 ∨ j = 13 ∨ j = 15 ∨ j = 1 ∨ j = 2 ∨ j = 3 ∨ j = 5 ∨ j = 6 ∨ j = 9 ∨ j = 10 ∨ j = 11 ∨ j = 12 ∨ j = 14 ∨ j = 16 ∨ j = 17 by omega) with rfl | rfl | rfl | rfl | rfl | rfl | rfl | rfl | rfl | rfl | rfl | rfl | rfl | rfl | rfl | rfl | rfl | rfl
      · have h0 := getF (show 0 < l.length by omega) hf
        have := h0.symm.trans hpl; cases this
      · exact ⟨_, rfl, rfl, fun tail Q Kn hC hK => Chk.mk hb1 hK⟩
      · exact ⟨_, rfl, rfl, fun tail Q Kn hC hK => Chk.mk ⟨pps_i _ _, hr, hbi, hy⟩ hK⟩
      · exact ⟨_, rfl, rfl, fun tail Q Kn hC hK => Chk.mk hin hK⟩
      · exact ⟨_, rfl, rfl, fun tail Q Kn hC hK => Chk.mk hb1 hK⟩
      · exact ⟨_, rfl, rfl, fun tail Q Kn hC hK => Chk.mk hbi hK⟩
      all_goals exact ⟨_, rfl, rfl, fun tail Q Kn hC hK => hK⟩
    · intro l hl he
      match l, hl, he with
      | [a0, a1, a2, a3, a4, a5, a6, a7, a8, a9, a10, a11, a12, a13, a14, a15, a16, a17], _, he =>
        have he : (a0 && (a1 && (a2 && (a3 && (a4 && (a5 && (a6 && (a7 && (a8 && (a9 && (a10 && (a11 && (a12 && (a13 && (a14 && (a15 && (a16 && (a17 && true)))))))))))))))))) = true := he
        simp only [Bool.and_eq_true] at he
        obtain ⟨rfl, rfl, rfl, rfl, rfl, rfl, rfl, rfl, rfl, rfl, rfl, rfl, rfl, rfl, rfl, rfl, rfl, rfl, -⟩ := he
        refine any_step [19] hX (by kernel_rfl) (by decide) ⟨?_, trivial⟩
        refine any_weaken 2 (fun j => j) hG ?_ (any_done (by kernel_rfl) hK)
        refine ⟨?_, ?_, rfl, rfl, rfl, rfl, trivial⟩ <;> repeat' (first | exact trivial | exact rfl | exact List.Perm.refl _ | (intro i hi; exact ⟨rfl, rfl⟩) | refine And.intro ?_ ?_)
end
/-! Sum -/
def c73 : Ct := fun fr args H => match args with
  | [.agg l, .sl li, .si .i64 y] => (match sliceOf 1 H li with
    | some (m, g) => passK H l fun i1 it ag n get => some ⟨some (Pps n get ∧ Ints m g ∧ m ≤ 1000 ∧ PpOk ag n (ppAt get) ∧ (∀ i, i < m → 0 ≤ intAt g i ∧ intAt g i < n) ∧ 0 ≤ y ∧ y ≤ 20), none, .si .i64 (sumD (ppAt get) (intL m (intAt g)) y 0), []⟩
    | none => none)
  | _ => none
theorem c73_mono : CtMono c73 := by
  intro fr args H H' out hH h
  unfold c73 at h ⊢
  split at h
  · split at h
    · rename_i e
      simp only [sliceOf_mono hH e]
      exact passK_mono hH h
    · cases h
  · cases h
theorem k73 {l : List (Nat × Ct)} (g0 : Good P T l) : COk P 73 c73 := by
  have g := g90 good0
  refine cok (C := tabC _) g.ok Try.func73 (c := code Try.f73) rfl fun fr args H out h hp => ?_
  unfold c73 at h
  split at h
  case h_2 => cases h
  rename_i l li y
  split at h
  case h_2 => cases h
  rename_i m gg e2
  obtain ⟨i1, it, ag, n, get, rfl, e1, h⟩ := passK_some h
  cases h
  obtain ⟨hs, hsi, hm, hr, hb, hy⟩ : Pps n get ∧ Ints m gg ∧ m ≤ 1000 ∧ PpOk ag n (ppAt get) ∧ (∀ i, i < m → 0 ≤ intAt gg i ∧ intAt gg i < n) ∧ 0 ≤ y ∧ y ≤ 20 := hp
  generalize hf : intAt gg = f at hsi hb ⊢
  have hh : Hand H [(i1, .ro 5 n fun i => ppC (ppAt get i)), (li, .ro 1 m fun i => intC (f i))] := hand_mk ⟨sliceOf_piece e1 fun i hi => (hs i hi).symm, sliceOf_piece e2 fun i hi => by rw [hsi i hi, hf]; rfl, trivial⟩
    (by repeat' (first | exact trivial | (intro i hi; exact ⟨trivial, trivial⟩) | (intro i hi; exact ⟨trivial, trivial, trivial, trivial, trivial, trivial⟩) | refine And.intro ?_ ?_)) rfl
  refine ⟨[(i1, .ro 5 n fun i => ppC (ppAt get i)), (li, .ro 1 m fun i => intC (f i))], [.agg (paA 0 it ag), .sl 1, .si .i64 y], [(0, .ro 5 n fun i => ppC (ppAt get i)), (1, .ro 1 m fun i => intC (f i))], 2, [], rfl, rfl, Nat.le_of_ble_eq_true rfl, hh, rfl, rfl, fun G hG => ?_⟩
  generalize ppAt get = L at hr ⊢
  generalize hV : sumD L (intL m f) y 0 = V
  refine loop_okR (g.ok _ _ _) 2 (fun z : {p : Nat × Int × Int // p.1 ≤ m ∧ (0 ≤ p.2.1 ∧ p.2.1 ≤ 20) ∧ (-200 * (p.1 : Int) ≤ p.2.2 ∧ p.2.2 ≤ 250 * (p.1 : Int)) ∧ sumD L ((intL m f).drop p.1) p.2.1 p.2.2 = V} => ⟨[(1, ⟨[], .sl 1⟩), (2, ⟨[], .si .i64 z.1.2.1⟩), (3, ⟨[], .sp 2 0⟩), (7, ⟨[], .si .i64 z.1.2.2⟩), (8, ⟨[], .si .i64 (z.1.1 : Int)⟩)], [], [(2, .cells 24 (paA 0 it ag)), (0, .ro 5 n fun i => ppC (L i)), (1, .ro 1 m fun i => intC (f i))], 3, []⟩)
    (fun z => m - z.1.1) hG ⟨(0, y, 0), Nat.zero_le _, hy, ⟨Int.le_refl _, Int.le_refl _⟩, hV⟩ (fun j => j) ?_ ?_
  · refine ⟨?_, ?_, rfl, rfl, rfl, rfl, trivial⟩ <;> repeat' (first | exact trivial | exact rfl | exact List.Perm.refl _ | (intro i hi; exact ⟨rfl, rfl⟩) | refine And.intro ?_ ?_)
  rintro ⟨⟨i, y', acc⟩, hi, hy', hacc, hinv⟩
  have hi : i ≤ m := hi
  have hy' : 0 ≤ y' ∧ y' ≤ 20 := hy'
  have hacc : -200 * (i : Int) ≤ acc ∧ acc ≤ 250 * (i : Int) := hacc
  have hinv : sumD L ((intL m f).drop i) y' acc = V := hinv
  refine Br.mk (fun h => ?_) (fun h => ?_)
  · have h : (i : Int) < (m : Int) := of_decide_eq_true h
    have hb1 : (0 : Int) ≤ (i : Int) ∧ (i : Int) < (m : Int) := ⟨by omega, h⟩
    rw [intL_drop (show i < m by omega)] at hinv
    have hinv : sumD L ((intL m f).drop (i + 1)) (L (f i).toNat).yr (acc + addsV y' (L (f i).toNat)) = V := hinv
    have hbi := hb i (by omega)
    have hx := hr.2.2 (f i).toNat (by omega)
    have had : -200 ≤ addsV y' (L (f i).toNat) ∧ addsV y' (L (f i).toNat) ≤ 250 := by
      have := dr_in (d := (L (f i).toNat).dr) (z := y' - (L (f i).toNat).yr) hx.2.2 (by omega)
      unfold addsV
      omega
    refine (show SemC _ _ _ _ from ?_)
    refine any_region fol ?_
    refine any_weaken (st' := ⟨(7, ⟨[], .si .i64 acc⟩) :: b73 y' i, [], H73 it ag n m L f, 3, []⟩) 2 (fun j => j) hG (by
      refine ⟨?_, ?_, rfl, rfl, rfl, rfl, trivial⟩ <;> repeat' (first | exact trivial | exact rfl | exact List.Perm.refl _ | (intro i hi; exact ⟨rfl, rfl⟩) | refine And.intro ?_ ?_)) ?_
    refine reg73 (g.ok _ _ _) hG (by omega) hr hbi hy' (by omega) ?_
    refine Chk.mk (show InK .i64 ((i : Int) + 1) from ⟨by omega, by omega⟩) ⟨⟨(i + 1, (L (f i).toNat).yr, acc + addsV y' (L (f i).toNat)), by show i + 1 ≤ m; omega, ⟨hx.2.1.1, hx.2.1.2⟩, ⟨by show -200 * ((i + 1 : Nat) : Int) ≤ acc + addsV y' (L (f i).toNat); omega, by show acc + addsV y' (L (f i).toNat) ≤ 250 * ((i + 1 : Nat) : Int); omega⟩, hinv⟩, (fun j => j), ?_, by show m - (i + 1) < m - i; omega⟩
    refine ⟨?_, ?_, rfl, rfl, rfl, rfl, trivial⟩ <;> repeat' (first | exact trivial | exact rfl | exact List.Perm.refl _ | (intro i hi; exact ⟨rfl, rfl⟩) | refine And.intro ?_ ?_)
  · have h : ¬ (i : Int) < (m : Int) := of_decide_eq_false h
    obtain rfl : i = m := by omega
    rw [intL_end] at hinv
    exact ⟨.inl rfl, end_noid ⟨rfl, hinv⟩ rfl rfl (by repeat' (first | exact trivial | exact rfl | (intro i hi; exact ⟨rfl, rfl⟩) | refine And.intro ?_ ?_))⟩
theorem g73 {l : List (Nat × Ct)} (g : Good P T l) : Good P T ((73, c73) :: l) := g.add (k73 g) c73_mono (body_of Try.func73 (c := code Try.f73) rfl (by decide))
end Go.X.Ps
end
