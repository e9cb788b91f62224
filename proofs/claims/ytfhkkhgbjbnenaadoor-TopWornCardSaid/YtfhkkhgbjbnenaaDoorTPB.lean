/- Regions whose order Go leaves open: one look in the text's order serves every order. Definitions; Operations that the executor has no arm for, by what they do. -/
import Derived.Test.YtfhkkhgbjbnenaaDoorTPA
import Derived.OrdersIn
import Derived.RecoverIn

section
set_option linter.unusedVariables false
set_option linter.unusedSimpArgs false
set_option linter.unusedSectionVars false
/- Regions whose order Go leaves open: one look in the text's order serves every order. Definitions. -/
set_option linter.unusedVariables false
set_option linter.unusedSimpArgs false
namespace Go.X
open Go

def bindsAny (e : Edge) : Bool :=
  match e.ground with
  | .textOnly _ => false
  | .gcOnly _ => false
  | _ => true
theorem bindsAny_eq (e : Edge) : Region.binds .any e = bindsAny e := by
  unfold Region.binds bindsAny; cases e.ground <;> rfl

def hasBit (n k : Nat) : Bool := Nat.beq (Nat.land 1 (Nat.shiftRight n k)) 1
theorem hasBit_eq (n k : Nat) : hasBit n k = n.testBit k := by
  have h1 : Nat.land 1 (Nat.shiftRight n k) = 1 &&& (n >>> k) := rfl
  have h2 : n.testBit k = ((1 &&& (n >>> k)) != 0) := rfl
  unfold hasBit
  rw [h1, h2]
  have h3 : 1 &&& (n >>> k) = (n >>> k) % 2 := by rw [Nat.and_comm, Nat.and_one_is_mod]
  rw [h3]
  rcases Nat.mod_two_eq_zero_or_one (n >>> k) with h | h <;> rw [h] <;> rfl

def getN (A : List Nat) (i : Nat) : Nat :=
  match nth A i with
  | some n => n
  | none => 0

def ancOf (A : List Nat) : List Edge → Nat → Nat
  | [], s => s
  | e :: r, s => match bindsAny e with
    | true => ancOf A r (Nat.lor (Nat.lor s (Nat.shiftLeft 1 e.on)) (getN A e.on))
    | false => ancOf A r s

def ancL : List Oper → List Nat → List Nat
  | [], A => A
  | o :: r, A => ancL r (A ++ [ancOf A o.after.toList 0])

/-- Which operation writes a slot. -/
def dstIdx : List Oper → Nat → Nat → Option Nat
  | [], _, _ => none
  | o :: r, i, t => match o.dst with
    | some d => if Nat.beq d t then some i else dstIdx r (i + 1) t
    | none => dstIdx r (i + 1) t

inductive DEff where
  | no
  | st (id off : Nat) (cs : List SV)
  | new (l : List (Nat × HB))
  | pan (ch : List PanicEntry)
  | skip

structure DE where
  π : GP
  v : SV
  eff : DEff

/-- The slots that operation i may look at. -/
def viewF (A : List Nat) (ops : List Oper) (F0 : LF) (acc : List DE) (i : Nat) : LF := fun t =>
  match dstIdx ops 0 t with
  | none => F0 t
  | some k => if hasBit (getN A i) k then (match nth acc k with
      | some e => some ⟨e.π, e.v⟩
      | none => none) else if hasBit (getN A k) i then F0 t else none

/-- What new pieces the operations before i have laid that i waits for. -/
def newsOf (anc : Nat) : List DE → Nat → Nat → Option HB
  | [], _, _ => none
  | e :: r, k, id => match e.eff with
    | .new l => (match hasBit anc k with
      | true => (match findH l id with
        | some hb => some hb
        | none => newsOf anc r (k + 1) id)
      | false => newsOf anc r (k + 1) id)
    | _ => newsOf anc r (k + 1) id

/-- Is the piece stored into by an operation that need not wait for i? -/
def deadB (S : List (Nat × Nat)) (A : List Nat) (i id : Nat) : Bool :=
  match S with
  | [] => false
  | (j, id') :: r => if Nat.beq id id' then (if hasBit (getN A j) i then deadB r A i id else true) else deadB r A i id

def viewH (S : List (Nat × Nat)) (A : List Nat) (H0 : LH) (acc : List DE) (i : Nat) : LH := fun id =>
  match deadB S A i id with
  | true => none
  | false => (match newsOf (getN A i) acc 0 id with
    | some hb => some hb
    | none => H0 id)

def isStore : Op → Bool
  | .store _ _ _ => true
  | _ => false

/-- Does i wait for an operation that panics? -/
def deadAnc (anc : Nat) : List DE → Nat → Bool
  | [], _ => false
  | e :: r, k => match e.eff with
    | .pan _ => if hasBit anc k then true else deadAnc anc r (k + 1)
    | .skip => if hasBit anc k then true else deadAnc anc r (k + 1)
    | _ => deadAnc anc r (k + 1)

/-- The slots of a guard are written by operations that i waits for. -/
def gpOk (ops : List Oper) (anc : Nat) : GP → Bool
  | [] => true
  | (s, _) :: r => match dstIdx ops 0 s with
    | some k => if hasBit anc k then gpOk ops anc r else false
    | none => gpOk ops anc r

def effOf (e : Eff) (fr : Nat) : DEff :=
  match e with
  | .no => .no
  | .new hb => .new [(fr, hb)]
  | .st id off cs => .st id off cs

def idsBelow (fr : Nat) : List (Nat × HB) → Bool
  | [] => true
  | (id, _) :: r => if Nat.ble fr id then (if Nat.ble (id + 1) (fr + 4) then idsBelow fr r else false) else false

def nonStore : Eff → Bool
  | .st _ _ _ => false
  | _ => true

/-- Does a guard surely hold, or surely not? (Asked only where its value is known.) -/
def trueG (F : LF) : GP → Bool
  | [] => true
  | (s, w) :: r => (match F s with
    | some ⟨[], .sb q⟩ => (match eqB q w with
      | true => trueG F r
      | false => false)
    | _ => false)
def falseG (F : LF) : GP → Bool
  | [] => false
  | (s, w) :: r => (match F s with
    | some ⟨[], .sb q⟩ => (match eqB q w with
      | true => falseG F r
      | false => true)
    | _ => falseG F r)
def offG (F : LF) (π : GP) : Option (Option Prop × DE × Option (Bool × List PanicEntry)) :=
  match falseG F π with
  | true => some (none, ⟨π, .sb false, .no⟩, none)
  | false => none

/-- One operation, looked at in the text's order. -/
def stepP (X : Cx) (ops : List Oper) (A : List Nat) (S : List (Nat × Nat)) (F0 : LF) (H0 : LH) (nx : Nat) (i : Nat) (o : Oper) (acc : List DE) : Option (Option Prop × DE × Option (Bool × List PanicEntry)) :=
  match deadAnc (getN A i) acc 0 with
  | true => some (none, ⟨[], .tup [], .skip⟩, none)
  | false => (match guardOf ops (viewF A ops F0 acc i) o.guard with
    | some π => (match gpOk ops (getN A i) π with
      | true => (match isStore o.op with
        | true => (match nilGP π, o.dst, core X.T (viewF A ops F0 acc i) π (viewH [] A H0 acc i) (nx + 4 * i) o.op with
          | true, none, some ⟨none, v, .st id off cs⟩ => some (none, ⟨π, v, .st id off cs⟩, none)
          | _, _, _ => none)
        | false => (match core X.T (viewF A ops F0 acc i) π (viewH S A H0 acc i) (nx + 4 * i) o.op with
          | some ⟨pre, v, eff⟩ => (match nilGP π, nonStore eff with
            | true, true => some (pre, ⟨π, v, effOf eff (nx + 4 * i)⟩, none)
            | false, true => (match eff with
              | .no => some (underO (viewF A ops F0 acc i) π pre, ⟨π, v, .no⟩, none)
              | .new hb => (match trueG (viewF A ops F0 acc i) π with
                | true => some (pre, ⟨[], v, .new [(nx + 4 * i, hb)]⟩, none)
                | false => offG (viewF A ops F0 acc i) π)
              | _ => none)
            | _, _ => none)
          | none => (match isCall o.op with
            | some c => (match callC X (viewF A ops F0 acc i) π (viewH S A H0 acc i) (nx + 4 * i) c with
              | some ⟨pre, pan, v, []⟩ => (match pan, nilGP π with
                | none, _ => some (underO (viewF A ops F0 acc i) π pre, ⟨π, v, .no⟩, none)
                | some (c, ch), true => some (pre, ⟨π, v, .no⟩, some (c, ch))
                | _, _ => none)
              | some ⟨pre, pan, v, n :: l⟩ => (match nilGP π with
                | true => some (pre, ⟨π, v, .new (n :: l)⟩, pan)
                | false => none)
              | none => offG (viewF A ops F0 acc i) π)
            | none => offG (viewF A ops F0 acc i) π)))
      | false => none)
    | none => none)

/-- The entry, if it panics. -/
def pickE (po : Option (Bool × List PanicEntry)) (e : DE) : DE :=
  match po with
  | some (true, ch) => ⟨e.π, e.v, .pan ch⟩
  | _ => e
def stepD (X : Cx) (ops : List Oper) (A : List Nat) (S : List (Nat × Nat)) (F0 : LF) (H0 : LH) (nx : Nat) (i : Nat) (o : Oper) (acc : List DE) : Option (Option Prop × DE) :=
  match stepP X ops A S F0 H0 nx i o acc with
  | some (pre, e, po) => some (pre, pickE po e)
  | none => none
theorem stepD_some {X : Cx} {ops : List Oper} {A : List Nat} {S : List (Nat × Nat)} {F0 : LF} {H0 : LH} {nx i : Nat} {o : Oper} {acc : List DE} {pre : Option Prop} {e : DE} (h : stepD X ops A S F0 H0 nx i o acc = some (pre, e)) :
    ∃ e₀ po, stepP X ops A S F0 H0 nx i o acc = some (pre, e₀, po) ∧ e = pickE po e₀ := by
  unfold stepD at h
  split at h
  · rename_i p e₀ po hs
    cases h
    exact ⟨e₀, po, hs, rfl⟩
  · cases h

def fNews : List (Nat × HB) → (List (Nat × HB) → Prop) → Prop
  | [], K => K []
  | (id, hb) :: r, K => natF id fun id' => fHB hb fun hb' => fNews r fun r' => K ((id', hb') :: r')
theorem fNews_eq (l : List (Nat × HB)) (K : List (Nat × HB) → Prop) : fNews l K = K l := by
  induction l generalizing K with
  | nil => rfl
  | cons x r ih => obtain ⟨id, hb⟩ := x; simp [fNews, natF_eq, fHB_eq, ih]

def fDE (e : DE) (K : DE → Prop) : Prop :=
  match e with
  | ⟨π, v, eff⟩ => fGP π fun π' => fSV v fun v' => (match eff with
    | .no => K ⟨π', v', .no⟩
    | .st id off cs => fSVL cs fun cs' => K ⟨π', v', .st id off cs'⟩
    | .new l => fNews l fun l' => K ⟨π', v', .new l'⟩
    | .pan ch => K ⟨π', v', .pan ch⟩
    | .skip => K ⟨π', v', .skip⟩)
theorem fDE_eq (e : DE) (K : DE → Prop) : fDE e K = K e := by
  obtain ⟨π, v, eff⟩ := e
  cases eff <;> simp [fDE, fGP_eq, fSV_eq, fSVL_eq, fNews_eq]

def fSnoc : List DE → DE → (List DE → Prop) → Prop
  | [], e, K => K [e]
  | x :: r, e, K => fSnoc r e fun l => K (x :: l)
theorem fSnoc_eq (l : List DE) (e : DE) (K : List DE → Prop) : fSnoc l e K = K (l ++ [e]) := by
  induction l generalizing K with
  | nil => rfl
  | cons x r ih => simp [fSnoc, ih]

def evalD (X : Cx) (ops : List Oper) (A : List Nat) (S : List (Nat × Nat)) (F0 : LF) (H0 : LH) (nx : Nat) : Nat → List Oper → List DE → (List DE → Prop) → Prop
  | _, [], acc, K => K acc
  | i, o :: r, acc, K => match stepP X ops A S F0 H0 nx i o acc with
    | some (pre, e, po) => ChkO pre (fDE e fun e' => (match po with
      | none => fSnoc acc e' fun acc' => evalD X ops A S F0 H0 nx (i + 1) r acc' K
      | some (c, ch) => Br c (match e' with
        | ⟨π, v, _⟩ => fSnoc acc ⟨π, v, .pan ch⟩ fun acc' => evalD X ops A S F0 H0 nx (i + 1) r acc' K)
        (fSnoc acc e' fun acc' => evalD X ops A S F0 H0 nx (i + 1) r acc' K)))
    | none => False

theorem evalD_ok {X : Cx} {ops : List Oper} {A : List Nat} {S : List (Nat × Nat)} {F0 : LF} {H0 : LH} {nx : Nat} {K : List DE → Prop} :
    ∀ (l : List Oper) (i : Nat) (acc : List DE), ops.drop i = l → i + l.length = ops.length → acc.length = i → evalD X ops A S F0 H0 nx i l acc K →
      (∀ j o, j < i → ops[j]? = some o → ∃ pre e, stepD X ops A S F0 H0 nx j o (acc.take j) = some (pre, e) ∧ PreH pre ∧ acc[j]? = some e) →
      ∃ acc', acc'.length = ops.length ∧ K acc' ∧ ∀ j o, ops[j]? = some o → ∃ pre e, stepD X ops A S F0 H0 nx j o (acc'.take j) = some (pre, e) ∧ PreH pre ∧ acc'[j]? = some e := by
  intro l
  induction l with
  | nil =>
    intro i acc hd hlen hl h hall
    simp only [List.length_nil, Nat.add_zero] at hlen
    refine ⟨acc, by omega, h, fun j o ho => ?_⟩
    · have hj : j < ops.length := by
        rcases Nat.lt_or_ge j ops.length with h | h
        · exact h
        · rw [List.getElem?_eq_none h] at ho; cases ho
      exact hall j o (by omega) ho
  | cons o r ih =>
    intro i acc hd hlen hl h hall
    have ho : ops[i]? = some o := by
      have := congrArg (fun l => l[0]?) hd
      simpa using this
    have hd' : ops.drop (i + 1) = r := by
      have := congrArg List.tail hd
      simpa using this
    simp only [evalD] at h
    split at h
    · rename_i pre e po hs
      have hpre := ChkO_pre h
      have hk := ChkO_k h
      rw [fDE_eq] at hk
      have key : ∀ e', e' = pickE po e → evalD X ops A S F0 H0 nx (i + 1) r (acc ++ [e']) K →
          ∃ acc', acc'.length = ops.length ∧ K acc' ∧ ∀ j o, ops[j]? = some o → ∃ pre e, stepD X ops A S F0 H0 nx j o (acc'.take j) = some (pre, e) ∧ PreH pre ∧ acc'[j]? = some e := by
        intro e' he' hk
        refine ih (i + 1) (acc ++ [e']) hd' (by simp at hlen; omega) (by simp [hl]) hk (fun j oj hj hoj => ?_)
        by_cases hji : j = i
        · subst hji
          rw [ho] at hoj; cases hoj
          refine ⟨pre, e', ?_, hpre, by simp [← hl]⟩
          rw [List.take_append_of_le_length (by omega), List.take_of_length_le (by omega)]
          simp only [stepD, hs, he']
        · obtain ⟨p', e', h1, h2, h3⟩ := hall j oj (by omega) hoj
          refine ⟨p', e', ?_, h2, ?_⟩
          · rw [List.take_append_of_le_length (by omega)]; exact h1
          · rw [List.getElem?_append_left (by omega)]; exact h3
      split at hk
      · rw [fSnoc_eq] at hk
        exact key e rfl hk
      · rename_i c ch
        cases c with
        | true =>
          have hk := hk.t rfl
          rw [fSnoc_eq] at hk
          exact key _ rfl hk
        | false =>
          have hk := hk.f rfl
          rw [fSnoc_eq] at hk
          exact key _ rfl hk
    · exact h.elim

/-! ### Checks, and the state behind the region -/

def uniqD (ops : List Oper) : List Oper → Nat → Bool
  | [], _ => true
  | o :: r, i => match o.dst with
    | some d => (match dstIdx ops 0 d with
      | some k => if Nat.beq k i then uniqD ops r (i + 1) else false
      | none => false)
    | none => uniqD ops r (i + 1)

def edgesUp : List Edge → Nat → Bool
  | [], _ => true
  | e :: r, i => match bindsAny e with
    | true => if Nat.ble (e.on + 1) i then edgesUp r i else false
    | false => edgesUp r i
def edgesD : List Oper → Nat → Bool
  | [], _ => true
  | o :: r, i => if edgesUp o.after.toList i then edgesD r (i + 1) else false

def putD (gs : List Nat) (nt : Nat) : List Oper → Bool
  | [] => true
  | o :: r => match putN gs nt o.dst with
    | true => false
    | false => putD gs nt r

def storesOf : List DE → Nat → List (Nat × Nat)
  | [], _ => []
  | e :: r, k => match e.eff with
    | .st id _ _ => (k, id) :: storesOf r (k + 1)
    | _ => storesOf r (k + 1)

def sameS : List (Nat × Nat) → List (Nat × Nat) → Bool
  | [], [] => true
  | (a, b) :: r, (c, d) :: s => if Nat.beq a c then (if Nat.beq b d then sameS r s else false) else false
  | _, _ => false

/-- Each store waits for all stores before it. -/
def allBits (n : Nat) : List (Nat × Nat) → Bool
  | [] => true
  | (j, _) :: r => if hasBit n j then allBits n r else false
def chainD (A : List Nat) : List (Nat × Nat) → List (Nat × Nat) → Bool
  | _, [] => true
  | done, (j, id) :: r => if allBits (getN A j) done then chainD A ((j, id) :: done) r else false

def idsD (nx : Nat) : List DE → Nat → Bool
  | [], _ => true
  | e :: r, k => match e.eff with
    | .new l => if idsBelow (nx + 4 * k) l then idsD nx r (k + 1) else false
    | _ => idsD nx r (k + 1)

def panOf : List DE → Option (List PanicEntry)
  | [] => none
  | e :: r => match e.eff with
    | .pan ch => some ch
    | _ => panOf r

def finF : List Oper → List DE → List (Nat × FE) → List (Nat × FE)
  | o :: r, e :: s, F => finF r s (match o.dst with
    | some d => (d, ⟨e.π, e.v⟩) :: F
    | none => F)
  | _, _, F => F
def finG : List DE → List Nat → List Nat
  | [], gs => gs
  | e :: r, gs => finG r (gpSlots e.π gs)
def finH : List DE → List (Nat × HB) → List (Nat × HB)
  | [], H => H
  | e :: r, H => match e.eff with
    | .new l => finH r (l ++ H)
    | .st id off cs => (match findH H id with
      | some (.cells T old) => finH r ((id, .cells T (setL old off cs)) :: H)
      | _ => finH r H)
    | _ => finH r H

def lenD : List DE → Nat
  | [] => 0
  | _ :: r => lenD r + 1

/-- The slots that no operation writes. -/
def keepF (ops : List Oper) : List (Nat × FE) → List (Nat × FE)
  | [] => []
  | (t, e) :: r => match dstIdx ops 0 t with
    | none => (t, e) :: keepF ops r
    | some _ => keepF ops r
theorem keepF_find {ops : List Oper} : ∀ {F : List (Nat × FE)} {t : Nat} {e : FE}, findF (keepF ops F) t = some e → findF F t = some e ∧ dstIdx ops 0 t = none
  | [], t, e, h => by cases h
  | (s, x) :: r, t, e, h => by
    simp only [keepF] at h
    split at h
    · rename_i hn
      by_cases hst : s = t
      · subst hst
        rw [findF_cons_self] at h ⊢
        exact ⟨h, hn⟩
      · rw [findF_cons_ne _ _ hst] at h ⊢
        exact keepF_find h
    · rename_i k hk
      obtain ⟨h1, h2⟩ := keepF_find h
      by_cases hst : s = t
      · subst hst; rw [hk] at h2; cases h2
      · rw [findF_cons_ne _ _ hst]; exact ⟨h1, h2⟩

def isNilS : List (Nat × Nat) → Bool
  | [] => true
  | _ :: _ => false

def fFL : List (Nat × FE) → (List (Nat × FE) → Prop) → Prop
  | [], K => K []
  | (d, ⟨π, v⟩) :: r, K => fFL r fun r' => K ((d, ⟨π, v⟩) :: r')
theorem fFL_eq (l : List (Nat × FE)) (K : List (Nat × FE) → Prop) : fFL l K = K l := by
  induction l generalizing K with
  | nil => rfl
  | cons x r ih => obtain ⟨d, π, v⟩ := x; simp [fFL, ih]

/-- The first panic is the only one. -/
def onePan : List DE → Bool
  | [] => true
  | e :: r => match e.eff with
    | .pan _ => (match panOf r with
      | none => true
      | some _ => false)
    | _ => onePan r
def finGK : List DE → List Nat → (List Nat → Prop) → Prop
  | [], gs, K => K gs
  | e :: r, gs, K => match nilGP e.π with
    | true => finGK r gs K
    | false => fNs (gpSlots e.π gs) fun gs' => finGK r gs' K
def pushK : List (Nat × HB) → List (Nat × HB) → (List (Nat × HB) → Prop) → Prop
  | [], H, K => K H
  | (id, hb) :: r, H, K => natF id fun id' => fHB hb fun hb' => pushK r H fun H' => K ((id', hb') :: H')
theorem pushK_eq (l H : List (Nat × HB)) (K : List (Nat × HB) → Prop) : pushK l H K = K (l ++ H) := by
  induction l generalizing K with
  | nil => rfl
  | cons x r ih => obtain ⟨id, hb⟩ := x; simp [pushK, natF_eq, fHB_eq, ih]
/-- The heap behind the region; what was there is not looked at. -/
def finHK : List DE → List (Nat × HB) → (List (Nat × HB) → Prop) → Prop
  | [], H, K => K H
  | e :: r, H, K => match e.eff with
    | .new l => pushK l H fun H' => finHK r H' K
    | .st id off cs => (match findH H id with
      | some (.cells T old) => fSVL (setL old off cs) fun cs' => finHK r ((id, .cells T cs') :: H) K
      | _ => finHK r H K)
    | _ => finHK r H K
theorem finHK_eq : ∀ (l : List DE) (H : List (Nat × HB)) (K : List (Nat × HB) → Prop), finHK l H K = K (finH l H)
  | [], H, K => rfl
  | e :: r, H, K => by
    obtain ⟨π, v, eff⟩ := e
    cases eff with
    | no => simp only [finHK, finH]; exact finHK_eq r H K
    | skip => simp only [finHK, finH]; exact finHK_eq r H K
    | pan ch => simp only [finHK, finH]; exact finHK_eq r H K
    | new l => simp only [finHK, finH, pushK_eq]; exact finHK_eq r _ K
    | st id off cs =>
      simp only [finHK, finH]
      split
      · rw [fSVL_eq]; exact finHK_eq r _ K
      · exact finHK_eq r H K
def endD (X : Cx) (ops : List Oper) (A : List Nat) (S : List (Nat × Nat)) (st : St) (K : Ex → St → Prop) (acc : List DE) : Prop :=
  match (match panOf acc with | none => sameS (storesOf acc 0) S | some _ => isNilS (storesOf acc 0)), chainD A [] S, idsD st.nx acc 0 with
  | true, true, true => (match panOf acc with
    | none => fFL (finF ops acc st.F) fun F' => finGK acc st.gs fun gs' => finHK acc st.H fun H' => natF (st.nx + 4 * lenD acc) fun nx' => K .normal ⟨F', gs', H', nx', st.D⟩
    | some ch => (match isNilS (storesOf acc 0), onePan acc with
      | true, true => fFL (keepF ops st.F) fun F' => natF (st.nx + 4 * lenD acc) fun nx' => K (.panic ch) ⟨F', st.gs, st.H, nx', st.D⟩
      | _, _ => False))
  | _, _, _ => False

def splitK : Nat → List Oper → (List Oper → List Oper → Prop) → Prop
  | 0, l, K => K [] l
  | n + 1, x :: l, K => splitK n l fun a b => K (x :: a) b
  | _ + 1, [], K => K [] []
theorem splitK_eq (n : Nat) (l : List Oper) (K : List Oper → List Oper → Prop) : splitK n l K = K (l.take n) (l.drop n) := by
  induction n generalizing l K with
  | zero => simp [splitK]
  | succ n ih => cases l <;> simp [splitK, ih]

def leO : Nat → List Oper → Bool
  | 0, _ => true
  | n + 1, _ :: l => leO n l
  | _ + 1, [] => false
theorem leO_ok : ∀ {n : Nat} {l : List Oper}, leO n l = true → n ≤ l.length
  | 0, _, _ => Nat.zero_le _
  | n + 1, _ :: l, h => by have := leO_ok (n := n) h; simp; omega
  | n + 1, [], h => by cases h

/-- The guards look at the operations before the place. -/
def guardsD (m : Nat) : List Oper → Bool
  | [] => true
  | o :: r => match o.guard with
    | none => guardsD m r
    | some (j, _) => if Nat.ble (j + 1) m then guardsD m r else false

/-- From a place on each operation waits for all before it. -/
def fullA : List Nat → Nat → Bool
  | [], _ => true
  | x :: r, j => if Nat.beq (x + 1) (Nat.shiftLeft 1 j) then fullA r (j + 1) else false

/-- A region whose order Go leaves open, the first m operations in any order, the others one after the other. -/
def drawn (X : Cx) (ops : List Oper) (A : List Nat) (S : List (Nat × Nat)) (m : Nat) (st : St) (K : Ex → St → Prop) : Prop :=
  splitK m ops fun ops₁ ops₂ => match uniqD ops₁ ops₁ 0, edgesD ops 0, putD st.gs X.nt ops₁, guardsD m ops₁, fullA (dropL m A) m, leO m ops with
  | true, true, true, true, true, true => evalD X ops₁ A S (findF st.F) (findH st.H) st.nx 0 ops₁ [] (endD X ops₁ A S st (fun e st' => match e with
    | .normal => execL X ops (Qof X K) (fun st => endRegion st (K .normal)) (fun ch st => K (.panic ch) st) m ops₂ st'
    | e => K e st'))
  | _, _, _, _, _, _ => False

end Go.X
end

section
set_option linter.unusedVariables false
set_option linter.unusedSimpArgs false
set_option linter.unusedSectionVars false
/- Regions whose order Go leaves open: the one look serves every order. -/
set_option linter.unusedVariables false
set_option linter.unusedSimpArgs false
namespace Go.X
open Go

/-! ### The checks, as facts -/

theorem uniqD_ok {ops : List Oper} : ∀ (l : List Oper) (i : Nat), uniqD ops l i = true → ∀ j o d, l[j]? = some o → o.dst = some d → dstIdx ops 0 d = some (i + j) := by
  intro l
  induction l with
  | nil => intro i _ j o d h; simp at h
  | cons x r ih =>
    intro i h j o d hj hd
    simp only [uniqD] at h
    cases j with
    | zero =>
      simp at hj; subst hj
      rw [hd] at h
      simp only at h
      split at h
      · rename_i k e
        split at h
        · rename_i hk
          have : k = i := by simpa using hk
          rw [e, this]; simp
        · cases h
      · cases h
    | succ j =>
      simp at hj
      have hr : uniqD ops r (i + 1) = true := by
        split at h
        · split at h
          · split at h
            · exact h
            · cases h
          · cases h
        · exact h
      have := ih (i + 1) hr j o d hj hd
      rw [this]; congr 1; omega

theorem dstIdx_some : ∀ {ops : List Oper} {i t k : Nat}, dstIdx ops i t = some k → i ≤ k ∧ ∃ o, ops[k - i]? = some o ∧ o.dst = some t
  | [], i, t, k, h => by cases h
  | o :: r, i, t, k, h => by
    simp only [dstIdx] at h
    split at h
    · rename_i d hd
      split at h
      · rename_i e
        cases h
        have : d = t := by simpa using e
        exact ⟨Nat.le_refl _, o, by simp, by rw [hd, this]⟩
      · obtain ⟨h1, o', h2, h3⟩ := dstIdx_some h
        exact ⟨by omega, o', by rw [show k - i = (k - (i + 1)) + 1 by omega]; simpa using h2, h3⟩
    · obtain ⟨h1, o', h2, h3⟩ := dstIdx_some h
      exact ⟨by omega, o', by rw [show k - i = (k - (i + 1)) + 1 by omega]; simpa using h2, h3⟩

theorem edgesUp_ok : ∀ {l : List Edge} {i : Nat}, edgesUp l i = true → ∀ e ∈ l, bindsAny e = true → e.on < i
  | [], i, _, e, h, _ => by cases h
  | x :: r, i, h, e, he, hb => by
    simp only [edgesUp] at h
    rcases List.mem_cons.1 he with rfl | he
    · rw [hb] at h
      simp only at h
      split at h
      · rename_i h1
        have := Nat.le_of_ble_eq_true h1; omega
      · cases h
    · split at h
      · split at h
        · exact edgesUp_ok h e he hb
        · cases h
      · exact edgesUp_ok h e he hb

theorem edgesD_ok : ∀ {l : List Oper} {i : Nat}, edgesD l i = true → ∀ j o, l[j]? = some o → ∀ e ∈ o.after.toList, bindsAny e = true → e.on < i + j
  | [], i, _, j, o, h => by simp at h
  | x :: r, i, h, j, o, hj => by
    simp only [edgesD] at h
    split at h
    · rename_i h1
      cases j with
      | zero => simp at hj; subst hj; exact edgesUp_ok h1
      | succ j =>
        simp at hj
        intro e he hb
        have := edgesD_ok h j o hj e he hb
        omega
    · cases h

theorem putD_ok {gs : List Nat} {nt : Nat} : ∀ {l : List Oper}, putD gs nt l = true → ∀ (j : Nat) (o : Oper), l[j]? = some o → putN gs nt o.dst = false
  | [], _, j, o, h => by simp at h
  | x :: r, h, j, o, hj => by
    simp only [putD] at h
    split at h
    · cases h
    · rename_i h1
      cases j with
      | zero => simp at hj; subst hj; exact h1
      | succ j => simp at hj; exact putD_ok h j o hj

theorem storesOf_ok : ∀ {acc : List DE} {k j : Nat} {e : DE} {id off : Nat} {cs : List SV}, acc[j]? = some e → e.eff = .st id off cs → (k + j, id) ∈ storesOf acc k
  | [], k, j, e, id, off, cs, h, _ => by simp at h
  | x :: r, k, j, e, id, off, cs, h, he => by
    simp only [storesOf]
    cases j with
    | zero => simp at h; subst h; rw [he]; simp
    | succ j =>
      simp at h
      have := storesOf_ok (k := k + 1) h he
      rw [show k + 1 + j = k + (j + 1) by omega] at this
      split
      · exact List.mem_cons_of_mem _ this
      · exact this

theorem sameS_eq : ∀ {a b : List (Nat × Nat)}, sameS a b = true → a = b
  | [], [], _ => rfl
  | (a, b) :: r, (c, d) :: s, h => by
    simp only [sameS] at h
    split at h
    · rename_i h1
      split at h
      · rename_i h2
        have e1 : a = c := by simpa using h1
        have e2 : b = d := by simpa using h2
        rw [e1, e2, sameS_eq h]
      · cases h
    · cases h
  | [], _ :: _, h => by simp [sameS] at h
  | _ :: _, [], h => by simp [sameS] at h

theorem allBits_ok {n : Nat} : ∀ {l : List (Nat × Nat)}, allBits n l = true → ∀ x ∈ l, hasBit n x.1 = true
  | [], _, x, h => by cases h
  | (j, id) :: r, h, x, hx => by
    simp only [allBits] at h
    split at h
    · rename_i h1
      rcases List.mem_cons.1 hx with rfl | hx
      · exact h1
      · exact allBits_ok h x hx
    · cases h

theorem chainD_ok {A : List Nat} : ∀ {l done : List (Nat × Nat)}, chainD A done l = true → ∀ x ∈ done, ∀ y ∈ l, hasBit (getN A y.1) x.1 = true
  | [], done, _, x, _, y, h => by cases h
  | (j, id) :: r, done, h, x, hx, y, hy => by
    simp only [chainD] at h
    split at h
    · rename_i h1
      rcases List.mem_cons.1 hy with rfl | hy
      · exact allBits_ok h1 x hx
      · exact chainD_ok h x (List.mem_cons_of_mem _ hx) y hy
    · cases h
theorem chainD_pair {A : List Nat} : ∀ {l done : List (Nat × Nat)}, chainD A done l = true → ∀ (a b : Nat) (x y : Nat × Nat), l[a]? = some x → l[b]? = some y → a < b → hasBit (getN A y.1) x.1 = true
  | [], done, _, a, b, x, y, h, _, _ => by simp at h
  | (j, id) :: r, done, h, a, b, x, y, ha, hb, hab => by
    simp only [chainD] at h
    split at h
    · cases b with
      | zero => omega
      | succ b =>
        simp at hb
        cases a with
        | zero =>
          simp at ha; subst ha
          exact chainD_ok h _ List.mem_cons_self y (List.mem_of_getElem? hb)
        | succ a => simp at ha; exact chainD_pair h a b x y ha hb (by omega)
    · cases h

theorem storesOf_lt : ∀ {acc : List DE} {k : Nat} {x : Nat × Nat}, x ∈ storesOf acc k → k ≤ x.1
  | [], k, x, h => by cases h
  | e :: r, k, x, h => by
    simp only [storesOf] at h
    split at h
    · rcases List.mem_cons.1 h with rfl | h
      · exact Nat.le_refl _
      · have := storesOf_lt h; omega
    · have := storesOf_lt h; omega
theorem storesOf_sorted : ∀ {acc : List DE} {k a b : Nat} {x y : Nat × Nat}, (storesOf acc k)[a]? = some x → (storesOf acc k)[b]? = some y → x.1 < y.1 → a < b
  | [], k, a, b, x, y, h, _, _ => by simp [storesOf] at h
  | e :: r, k, a, b, x, y, ha, hb, hlt => by
    simp only [storesOf] at ha hb
    split at ha
    · rename_i id off cs he
      rw [he] at hb
      simp only at hb
      cases b with
      | zero =>
        simp at hb
        subst hb
        cases a with
        | zero => simp at ha; subst ha; omega
        | succ a =>
          simp at ha
          have := storesOf_lt (List.mem_of_getElem? ha)
          simp at hlt; omega
      | succ b =>
        cases a with
        | zero => omega
        | succ a =>
          simp at ha hb
          have := storesOf_sorted ha hb hlt
          omega
    · rename_i hne
      have hb' : (storesOf r (k + 1))[b]? = some y := by
        split at hb
        · rename_i id off cs he; exact absurd he (hne id off cs)
        · exact hb
      exact storesOf_sorted ha hb' hlt

theorem idsBelow_ok {fr : Nat} : ∀ {l : List (Nat × HB)}, idsBelow fr l = true → ∀ id hb, findH l id = some hb → fr ≤ id ∧ id < fr + 4
  | [], _, id, hb, h => by cases h
  | (i, x) :: r, h, id, hb, hf => by
    simp only [idsBelow] at h
    split at h
    · rename_i h1
      split at h
      · rename_i h2
        simp only [findH] at hf
        split at hf
        · rename_i e
          have : i = id := by simpa using e
          subst this
          exact ⟨Nat.le_of_ble_eq_true h1, Nat.le_of_ble_eq_true h2⟩
        · exact idsBelow_ok h id hb hf
      · cases h
    · cases h
theorem idsD_ok {nx : Nat} : ∀ {acc : List DE} {k : Nat}, idsD nx acc k = true → ∀ j e l, acc[j]? = some e → e.eff = .new l → ∀ id hb, findH l id = some hb → nx + 4 * (k + j) ≤ id ∧ id < nx + 4 * (k + j) + 4
  | [], k, _, j, e, l, h, _ => by simp at h
  | x :: r, k, h, j, e, l, hj, he => by
    simp only [idsD] at h
    cases j with
    | zero =>
      simp at hj; subst hj
      rw [he] at h
      simp only at h
      split at h
      · rename_i h1; exact idsBelow_ok h1
      · cases h
    | succ j =>
      simp at hj
      have hr : idsD nx r (k + 1) = true := by
        split at h
        · split at h
          · exact h
          · cases h
        · exact h
      intro id hb hf
      have := idsD_ok hr j e l hj he id hb hf
      rw [show k + (j + 1) = k + 1 + j by omega]
      exact this

/-- What waits for what. -/
theorem ancOf_ok {A : List Nat} {k : Nat} : ∀ {l : List Edge} {s : Nat}, hasBit (ancOf A l s) k = true → hasBit s k = true ∨ ∃ e ∈ l, bindsAny e = true ∧ (e.on = k ∨ hasBit (getN A e.on) k = true)
  | [], s, h => .inl h
  | e :: r, s, h => by
    simp only [ancOf] at h
    split at h
    · rename_i hb
      rcases ancOf_ok h with h1 | ⟨e', h1, h2⟩
      · have h1' : ((s ||| (1 <<< e.on)) ||| getN A e.on).testBit k = true := by rw [← hasBit_eq]; exact h1
        rw [Nat.testBit_or, Nat.testBit_or, Bool.or_eq_true, Bool.or_eq_true] at h1'
        rcases h1' with (h2 | h2) | h2
        · exact .inl (by rw [hasBit_eq]; exact h2)
        · refine .inr ⟨e, List.mem_cons_self, hb, .inl ?_⟩
          rw [Nat.one_shiftLeft, Nat.testBit_two_pow] at h2
          simpa using h2
        · exact .inr ⟨e, List.mem_cons_self, hb, .inr (by rw [hasBit_eq]; exact h2)⟩
      · exact .inr ⟨e', List.mem_cons_of_mem _ h1, h2⟩
    · rcases ancOf_ok h with h1 | ⟨e', h1, h2⟩
      · exact .inl h1
      · exact .inr ⟨e', List.mem_cons_of_mem _ h1, h2⟩

theorem ancL_pre : ∀ (l : List Oper) (A : List Nat), ∃ B, ancL l A = A ++ B
  | [], A => ⟨[], by simp [ancL]⟩
  | o :: r, A => by
    obtain ⟨B, hB⟩ := ancL_pre r (A ++ [ancOf A o.after.toList 0])
    exact ⟨[ancOf A o.after.toList 0] ++ B, by rw [ancL, hB, List.append_assoc]⟩

theorem getN_append {A B : List Nat} {i : Nat} (h : i < A.length) : getN (A ++ B) i = getN A i := by
  simp only [getN, nth_eq, List.getElem?_append_left h]
theorem getN_ge {A : List Nat} {i : Nat} (h : A.length ≤ i) : getN A i = 0 := by
  simp [getN, nth_eq, List.getElem?_eq_none h]

theorem ancL_ok : ∀ (l : List Oper) (A : List Nat) (j : Nat) (o : Oper) (k : Nat), l[j]? = some o → hasBit (getN (ancL l A) (A.length + j)) k = true →
    ∃ e ∈ o.after.toList, bindsAny e = true ∧ (e.on = k ∨ hasBit (getN (ancL l A) e.on) k = true)
  | [], A, j, o, k, h, _ => by simp at h
  | x :: r, A, j, o, k, hj, hb => by
    cases j with
    | zero =>
      simp at hj; subst hj
      obtain ⟨B, hB⟩ := ancL_pre r (A ++ [ancOf A x.after.toList 0])
      have e1 : ancL (x :: r) A = A ++ ([ancOf A x.after.toList 0] ++ B) := by rw [ancL, hB, List.append_assoc]
      have e2 : getN (ancL (x :: r) A) (A.length + 0) = ancOf A x.after.toList 0 := by
        rw [e1]; simp [getN, nth_eq]
      rw [e2] at hb
      rcases ancOf_ok hb with h1 | ⟨e, h1, h2, h3⟩
      · rw [hasBit_eq] at h1; simp at h1
      · refine ⟨e, h1, h2, ?_⟩
        rcases h3 with h3 | h3
        · exact .inl h3
        · right
          rcases Nat.lt_or_ge e.on A.length with hlt | hge
          · rw [e1, getN_append hlt]; exact h3
          · rw [getN_ge hge, hasBit_eq] at h3; simp at h3
    | succ j =>
      simp at hj
      rw [ancL] at hb ⊢
      have := ancL_ok r (A ++ [ancOf A x.after.toList 0]) j o k hj (by simpa [Nat.add_assoc, Nat.add_comm 1] using hb)
      exact this

end Go.X
end

section
set_option linter.unusedVariables false
set_option linter.unusedSimpArgs false
set_option linter.unusedSectionVars false
/- Regions whose order Go leaves open: the state after any of the operations. -/
set_option linter.unusedVariables false
set_option linter.unusedSimpArgs false
namespace Go.X
open Go

/-- Does an entry touch a piece? -/
def aff (e : DE) (id : Nat) : Bool :=
  match e.eff with
  | .new l => (findH l id).isSome
  | .st id' _ _ => Nat.beq id' id
  | _ => false

def eff1 (e : DE) (id : Nat) (x : Option HB) : Option HB :=
  match e.eff with
  | .new l => (match findH l id with
    | some hb => some hb
    | none => x)
  | .st id' off cs => if Nat.beq id' id then (match x with
    | some (.cells T old) => some (.cells T (setL old off cs))
    | y => y) else x
  | _ => x

theorem eff1_not {e : DE} {id : Nat} {x : Option HB} (h : aff e id = false) : eff1 e id x = x := by
  unfold aff at h; unfold eff1
  split at h
  · rename_i l he; cases hf : findH l id <;> simp_all
  · simp [h]
  · rfl

/-- A piece after the listed operations. -/
def pD (L : Nat → Bool) : List DE → Nat → Nat → Option HB → Option HB
  | [], _, _, x => x
  | e :: r, k, id, x => pD L r (k + 1) id (if L k then eff1 e id x else x)

theorem pD_skip {L : Nat → Bool} : ∀ {acc : List DE} {k id : Nat} {x : Option HB}, (∀ j e, acc[j]? = some e → L (k + j) = true → aff e id = false) → pD L acc k id x = x
  | [], k, id, x, _ => rfl
  | e :: r, k, id, x, h => by
    simp only [pD]
    rw [pD_skip (acc := r) (fun j e' hj hl => h (j + 1) e' (by simpa using hj) (by rw [show k + (j + 1) = k + 1 + j by omega]; exact hl))]
    split
    · rename_i hl; exact eff1_not (h 0 e (by simp) (by simpa using hl))
    · rfl

theorem pD_append {L : Nat → Bool} : ∀ {a b : List DE} {k id : Nat} {x : Option HB}, pD L (a ++ b) k id x = pD L b (k + a.length) id (pD L a k id x)
  | [], b, k, id, x => rfl
  | e :: r, b, k, id, x => by
    simp only [List.cons_append, pD, List.length_cons]
    rw [pD_append, show k + 1 + r.length = k + (r.length + 1) by omega]

theorem pD_congr {L L' : Nat → Bool} : ∀ {acc : List DE} {k id : Nat} {x : Option HB}, (∀ j, j < acc.length → L (k + j) = L' (k + j)) → pD L acc k id x = pD L' acc k id x
  | [], k, id, x, _ => rfl
  | e :: r, k, id, x, h => by
    simp only [pD]
    have h0 := h 0 (by simp)
    simp only [Nat.add_zero] at h0
    rw [h0]
    exact pD_congr fun j hj => by
      have := h (j + 1) (by simp; omega)
      rwa [show k + (j + 1) = k + 1 + j by omega] at this

structure DOk (X : Cx) (ops : List Oper) (A : List Nat) (S : List (Nat × Nat)) (st : St) (acc : List DE) : Prop where
  len : acc.length = ops.length
  step : ∀ j o, ops[j]? = some o → ∃ pre e, stepD X ops A S (findF st.F) (findH st.H) st.nx j o (acc.take j) = some (pre, e) ∧ PreH pre ∧ acc[j]? = some e
  anc : ∀ (j : Nat) (o : Oper) (k : Nat), ops[j]? = some o → hasBit (getN A j) k = true → ∃ e ∈ o.after.toList, bindsAny e = true ∧ (e.on = k ∨ hasBit (getN A e.on) k = true)
  uniq : ∀ (j : Nat) (o : Oper) (d : Nat), ops[j]? = some o → o.dst = some d → dstIdx ops 0 d = some j
  edges : ∀ (j : Nat) (o : Oper), ops[j]? = some o → ∀ e ∈ o.after.toList, bindsAny e = true → e.on < j
  put : ∀ (j : Nat) (o : Oper), ops[j]? = some o → putN st.gs X.nt o.dst = false
  stores : ∀ (j : Nat) (e : DE) (id off : Nat) (cs : List SV), acc[j]? = some e → e.eff = .st id off cs → (j, id) ∈ S
  chain : ∀ (j j' : Nat) (e e' : DE) (id off : Nat) (cs : List SV) (id' off' : Nat) (cs' : List SV), acc[j]? = some e → e.eff = .st id off cs → acc[j']? = some e' → e'.eff = .st id' off' cs' → j < j' → hasBit (getN A j') j = true
  ids : ∀ (j : Nat) (e : DE) (l : List (Nat × HB)), acc[j]? = some e → e.eff = .new l → ∀ id hb, findH l id = some hb → st.nx + 4 * j ≤ id ∧ id < st.nx + 4 * j + 4

/-- The slots after the listed operations. -/
def fD (ops : List Oper) (acc : List DE) (F0 : LF) (L : Nat → Bool) : LF := fun t =>
  match dstIdx ops 0 t with
  | none => F0 t
  | some k => if L k then (match nth acc k with
    | some e => some ⟨e.π, e.v⟩
    | none => none) else F0 t

def hD (acc : List DE) (H0 : LH) (L : Nat → Bool) : LH := fun id => pD L acc 0 id (H0 id)

structure DInv (X : Cx) (ops : List Oper) (A : List Nat) (st : St) (acc : List DE) (L : Nat → Bool) (ρ : Env) (a : Act) (w : World) : Prop where
  cl : ∀ j k, L j = true → hasBit (getN A j) k = true → L k = true
  lt : ∀ j, L j = true → j < ops.length
  fm : FM ρ (fD ops acc (findF st.F) L) a
  hm : HM ρ (hD acc (findH st.H) L) w
  kp : Keep X.G ρ (hD acc (findH st.H) L) w
  df : DefOk ρ a.defers st.D
  sz : a.tmps.size = X.nt
  gs0 : ∀ t e, findF st.F t = some e → ∀ x ∈ e.gp, x.1 ∈ st.gs
  nx : ∀ j, st.nx ≤ j → ρ j ≠ none → ∃ k e l hb, L k = true ∧ acc[k]? = some e ∧ e.eff = .new l ∧ findH l j = some hb
  np : ∀ k e, L k = true → acc[k]? = some e → e.eff ≠ .skip ∧ ∀ ch, e.eff ≠ .pan ch
  ext : ∀ id hb, findH st.H id = some hb → id < st.nx

section
variable {X : Cx} {ops : List Oper} {A : List Nat} {S : List (Nat × Nat)} {st : St} {acc : List DE} {L : Nat → Bool} {ρ : Env} {a : Act} {w : World}

/-- A ready operation has all that it waits for. -/
theorem ready_anc (hd : DOk X ops A S st acc) (hcl : ∀ j k, L j = true → hasBit (getN A j) k = true → L k = true) {i : Nat} {o : Oper} (ho : ops[i]? = some o)
    (hr : ∀ e ∈ o.after.toList, bindsAny e = true → L e.on = true) {k : Nat} (hk : hasBit (getN A i) k = true) : L k = true := by
  obtain ⟨e, he, hb, h⟩ := hd.anc i o k ho hk
  have hl := hr e he hb
  rcases h with h | h
  · rw [← h]; exact hl
  · exact hcl e.on k hl h

theorem anc_lt (hd : DOk X ops A S st acc) : ∀ (i : Nat) (o : Oper) (k : Nat), ops[i]? = some o → hasBit (getN A i) k = true → k < i := by
  intro i
  induction i using Nat.strongRecOn with
  | _ i ih =>
    intro o k ho hk
    obtain ⟨e, he, hb, h⟩ := hd.anc i o k ho hk
    have hlt := hd.edges i o ho e he hb
    rcases h with h | h
    · omega
    · rcases hoo : ops[e.on]? with _ | o'
      · have : ops.length ≤ e.on := by simpa using hoo
        have hi : i < ops.length := by
          rcases Nat.lt_or_ge i ops.length with h | h
          · exact h
          · rw [List.getElem?_eq_none h] at ho; cases ho
        omega
      · have := ih e.on hlt o' k hoo h
        omega

theorem viewF_le (hd : DOk X ops A S st acc) (hi : DInv X ops A st acc L ρ a w) {i : Nat} {o : Oper} (ho : ops[i]? = some o) (hnl : L i = false)
    (hr : ∀ e ∈ o.after.toList, bindsAny e = true → L e.on = true) : FM ρ (viewF A ops (findF st.F) (acc.take i) i) a := by
  intro t e hf
  refine hi.fm t e ?_
  unfold viewF at hf
  unfold fD
  cases hdi : dstIdx ops 0 t with
  | none => rw [hdi] at hf; exact hf
  | some k =>
    rw [hdi] at hf
    simp only at hf ⊢
    split at hf
    · rename_i hk
      have hlk := ready_anc hd hi.cl ho hr hk
      rw [hlk]
      simp only [if_true]
      rw [nth_eq] at hf ⊢
      have hki := anc_lt hd i o k ho hk
      rw [List.getElem?_take, if_pos hki] at hf
      exact hf
    · split at hf
      · rename_i hk
        have : L k = false := by
          cases hl : L k with
          | false => rfl
          | true => rw [hi.cl k i hl hk] at hnl; cases hnl
        rw [this]
        simpa using hf
      · cases hf

theorem deadB_no : ∀ {S : List (Nat × Nat)} {i id : Nat}, deadB S A i id = false → ∀ j, (j, id) ∈ S → hasBit (getN A j) i = true
  | [], i, id, _, j, h => by cases h
  | (j', id') :: r, i, id, h, j, hj => by
    simp only [deadB] at h
    rcases List.mem_cons.1 hj with e | hj
    · cases e
      simp only [Nat.beq_refl, if_true] at h
      split at h
      · assumption
      · cases h
    · split at h
      · split at h
        · exact deadB_no h j hj
        · cases h
      · exact deadB_no h j hj

theorem newsOf_some {anc : Nat} : ∀ {acc : List DE} {k id : Nat} {hb : HB}, newsOf anc acc k id = some hb → ∃ j e l, acc[j]? = some e ∧ e.eff = .new l ∧ hasBit anc (k + j) = true ∧ findH l id = some hb
  | [], k, id, hb, h => by cases h
  | x :: r, k, id, hb, h => by
    have rec_ : newsOf anc r (k + 1) id = some hb → ∃ j e l, (x :: r)[j]? = some e ∧ e.eff = .new l ∧ hasBit anc (k + j) = true ∧ findH l id = some hb := fun h => by
      obtain ⟨j, e, l, h1, h2, h3, h4⟩ := newsOf_some h
      exact ⟨j + 1, e, l, by simpa using h1, h2, by rw [show k + (j + 1) = k + 1 + j by omega]; exact h3, h4⟩
    simp only [newsOf] at h
    split at h
    · rename_i l he
      split at h
      · rename_i hb'
        split at h
        · rename_i hb'' hf
          cases h
          exact ⟨0, x, l, by simp, he, by simpa using hb', hf⟩
        · exact rec_ h
      · exact rec_ h
    · exact rec_ h

/-- Only one operation lays a piece. -/
theorem new_uniq (hd : DOk X ops A S st acc) {j j' : Nat} {e e' : DE} {l l' : List (Nat × HB)} {id : Nat} {hb hb' : HB} (h1 : acc[j]? = some e) (h2 : e.eff = .new l) (h3 : findH l id = some hb)
    (h4 : acc[j']? = some e') (h5 : e'.eff = .new l') (h6 : findH l' id = some hb') : j = j' := by
  have a1 := hd.ids j e l h1 h2 id hb h3
  have a2 := hd.ids j' e' l' h4 h5 id hb' h6
  omega

/-- A piece that was there before, and is not stored into, is as it was. -/
theorem hD_old (hd : DOk X ops A S st acc) {id : Nat} (hlt : id < st.nx) (hs : ∀ j e off cs, L j = true → acc[j]? = some e → e.eff ≠ .st id off cs) : hD acc (findH st.H) L id = findH st.H id := by
  refine pD_skip fun j e hj hl => ?_
  simp only [Nat.zero_add] at hl
  unfold aff
  split
  · rename_i l he
    cases hf : findH l id with
    | none => rfl
    | some hb => have := hd.ids j e l hj he id hb hf; omega
  · rename_i id' off cs he
    cases hb : Nat.beq id' id with
    | false => rfl
    | true =>
      have : id' = id := by simpa using hb
      subst this
      exact absurd he (hs j e off cs hl hj)
  · rfl

/-- A piece that a listed operation has laid, and that is not stored into. -/
theorem hD_new (hd : DOk X ops A S st acc) {id j : Nat} {e : DE} {l : List (Nat × HB)} {hb : HB} (hj : acc[j]? = some e) (he : e.eff = .new l) (hl : L j = true) (hf : findH l id = some hb)
    (hs : ∀ j e off cs, L j = true → acc[j]? = some e → e.eff ≠ .st id off cs) : hD acc (findH st.H) L id = some hb := by
  have hjl : j < acc.length := by
    rcases Nat.lt_or_ge j acc.length with h | h
    · exact h
    · rw [List.getElem?_eq_none h] at hj; cases hj
  have hsplit : acc = acc.take j ++ e :: acc.drop (j + 1) := by
    have h1 := List.take_append_drop j acc
    have h2 : acc.drop j = e :: acc.drop (j + 1) := by
      rw [List.drop_eq_getElem_cons hjl]
      congr 1
      rw [List.getElem?_eq_getElem hjl] at hj; exact Option.some.inj hj
    rw [← h2]; exact h1.symm
  have hlen : (acc.take j).length = j := by simp; omega
  have other : ∀ j' e', acc[j']? = some e' → L j' = true → j' ≠ j → aff e' id = false := by
    intro j' e' hj' hl' hne
    unfold aff
    split
    · rename_i l' he'
      cases hf' : findH l' id with
      | none => rfl
      | some hb' => exact absurd (new_uniq hd hj' he' hf' hj he hf) hne
    · rename_i id' off cs he'
      cases hb : Nat.beq id' id with
      | false => rfl
      | true =>
        have : id' = id := by simpa using hb
        subst this
        exact absurd he' (hs j' e' off cs hl' hj')
    · rfl
  show pD L acc 0 id (findH st.H id) = some hb
  rw [hsplit, pD_append, pD_skip (acc := acc.take j) (fun j' e' hj' hl' => by
    rw [List.getElem?_take] at hj'
    split at hj'
    · exact other j' e' hj' (by simpa using hl') (by omega)
    · cases hj')]
  simp only [pD, hlen, Nat.zero_add, hl, if_true]
  rw [pD_skip (acc := acc.drop (j + 1)) (fun j' e' hj' hl' => by
    rw [List.getElem?_drop] at hj'
    exact other _ e' hj' hl' (by omega))]
  simp [eff1, he, hf]

theorem viewH_le (hd : DOk X ops A S st acc) (hi : DInv X ops A st acc L ρ a w) {i : Nat} {o : Oper} (ho : ops[i]? = some o) (hnl : L i = false)
    (hr : ∀ e ∈ o.after.toList, bindsAny e = true → L e.on = true) {id : Nat} {hb : HB} (hv : viewH S A (findH st.H) (acc.take i) i id = some hb) : hD acc (findH st.H) L id = some hb := by
  unfold viewH at hv
  split at hv
  · cases hv
  · rename_i hdead
    have hno := deadB_no hdead
    have hs : ∀ j e off cs, L j = true → acc[j]? = some e → e.eff ≠ .st id off cs := by
      intro j e off cs hl hj he
      have := hi.cl j i hl (hno j (hd.stores j e id off cs hj he))
      rw [this] at hnl; cases hnl
    split at hv
    · rename_i hb' hn
      cases hv
      obtain ⟨j, e, l, h1, h2, h3, h4⟩ := newsOf_some hn
      rw [List.getElem?_take] at h1
      split at h1
      · simp only [Nat.zero_add] at h3
        exact hD_new hd h1 h2 (ready_anc hd hi.cl ho hr h3) h4 hs
      · cases h1
    · rw [hD_old hd (hi.ext _ _ hv) hs]; exact hv

end

/-- A state that says less of the heap. -/
theorem HM.sub {ρ : Env} {H H' : LH} {w : World} (h : HM ρ H w) (hs : ∀ id hb, H' id = some hb → H id = some hb) : HM ρ H' w where
  ok id hb hf := h.ok id hb (hs _ _ hf)
  sep i j x y n₁ n₂ b h1 h2 l1 l2 r1 r2 o1 o2 := h.sep i j x y n₁ n₂ b (hs _ _ h1) (hs _ _ h2) l1 l2 r1 r2 o1 o2
  ro j size m get nm b hf hm hr hb ho := by
    refine h.ro j size m get nm b (hs _ _ hf) hm hr hb ?_
    obtain ⟨id, x, nm', h1, h2, h3, h4⟩ := ho
    exact ⟨id, x, nm', hs _ _ h1, h2, h3, h4⟩
  fam b hz ho := by
    refine h.fam b (hz.sub fun id size C hf => hs _ _ hf) ?_
    obtain ⟨id, x, nm', h1, h2, h3, h4⟩ := ho
    exact ⟨id, x, nm', hs _ _ h1, h2, h3, h4⟩
theorem Own.sub {ρ : Env} {H H' : LH} {b : Nat} (hs : ∀ id hb, H' id = some hb → H id = some hb) (h : Own ρ H' b) : Own ρ H b := by
  obtain ⟨id, x, nm', h1, h2, h3, h4⟩ := h
  exact ⟨id, x, nm', hs _ _ h1, h2, h3, h4⟩

end Go.X
end

section
set_option linter.unusedVariables false
set_option linter.unusedSimpArgs false
set_option linter.unusedSectionVars false
/- Regions whose order Go leaves open: one operation more; all of them. -/
set_option linter.unusedVariables false
set_option linter.unusedSimpArgs false
namespace Go.X
open Go

theorem gpOk_ok {ops : List Oper} {n : Nat} : ∀ {π : GP}, gpOk ops n π = true → ∀ x ∈ π, ∀ m, dstIdx ops 0 x.1 = some m → hasBit n m = true
  | [], _, x, h => by cases h
  | (s, p) :: r, h, x, hx => by
    intro m hm
    simp only [gpOk] at h
    rcases List.mem_cons.1 hx with rfl | hx
    · simp only at hm
      rw [hm] at h
      simp only at h
      split at h
      · assumption
      · cases h
    · split at h
      · split at h
        · exact gpOk_ok h x hx m hm
        · cases h
      · exact gpOk_ok h x hx m hm

section
variable {X : Cx} {ops : List Oper} {A : List Nat} {S : List (Nat × Nat)} {st : St} {acc : List DE} {L L' : Nat → Bool} {ρ ρ' : Env} {a : Act} {w w' : World}

theorem trueG_ok {ρ : Env} {F : LF} {a : Act} (hF : FM ρ F a) : ∀ {π : GP}, trueG F π = true → GPsat a π
  | [], _ => fun x hx => by cases hx
  | (s, w) :: r, h => by
    simp only [trueG] at h
    split at h
    · rename_i q e
      split at h
      · rename_i hq
        have hr := trueG_ok hF h
        obtain ⟨v, h4, h5⟩ := (hF s _ e).1 (fun x hx => by cases hx)
        simp only [den, Option.some.injEq] at h5
        subst h5
        have hqw : q = w := by cases q <;> cases w <;> first | rfl | cases hq
        subst hqw
        intro x hx
        rcases List.mem_cons.1 hx with rfl | hx
        · exact h4
        · exact hr x hx
      · cases h
    · cases h
theorem falseG_ok {ρ : Env} {F : LF} {a : Act} (hF : FM ρ F a) : ∀ {π : GP}, falseG F π = true → ¬ GPsat a π
  | [], h => by cases h
  | (s, w) :: r, h => by
    simp only [falseG] at h
    intro hs
    have hr : GPsat a r := fun x hx => hs x (List.mem_cons_of_mem _ hx)
    split at h
    · rename_i q e
      split at h
      · exact falseG_ok hF h hr
      · rename_i hq
        obtain ⟨v, h4, h5⟩ := (hF s _ e).1 (fun x hx => by cases hx)
        simp only [den, Option.some.injEq] at h5
        subst h5
        have h6 := hs (s, w) List.mem_cons_self
        rw [h4] at h6
        simp only [Option.some.injEq, Value.bool.injEq] at h6
        subst h6
        cases q <;> cases hq
    · exact falseG_ok hF h hr
theorem offG_gp {F : LF} {π : GP} {pre : Option Prop} {e : DE} {po : Option (Bool × List PanicEntry)} (h : offG F π = some (pre, e, po)) : pre = none ∧ e = ⟨π, .sb false, .no⟩ ∧ po = none ∧ falseG F π = true := by
  unfold offG at h
  split at h
  · rename_i hf
    cases h
    exact ⟨rfl, rfl, rfl, hf⟩
  · cases h

theorem stepP_gp {F0 : LF} {H0 : LH} {nx i : Nat} {o : Oper} {pre : Option Prop} {e : DE} {po : Option (Bool × List PanicEntry)} (h : stepP X ops A S F0 H0 nx i o acc = some (pre, e, po)) : gpOk ops (getN A i) e.π = true := by
  unfold stepP at h
  split at h
  · cases h; rfl
  · split at h
    · rename_i π hg
      split at h
      · rename_i hgp
        split at h
        · split at h
          · cases h; exact hgp
          · cases h
        · split at h
          · split at h
            · cases h; exact hgp
            · split at h
              · cases h; exact hgp
              · split at h
                · cases h; rfl
                · obtain ⟨rfl, rfl, rfl, _⟩ := offG_gp h; exact hgp
              · cases h
            · cases h
          · split at h
            · split at h
              · split at h
                · cases h; exact hgp
                · cases h; exact hgp
                · cases h
              · split at h
                · cases h; exact hgp
                · cases h
              · obtain ⟨rfl, rfl, rfl, _⟩ := offG_gp h; exact hgp
            · obtain ⟨rfl, rfl, rfl, _⟩ := offG_gp h; exact hgp
      · cases h
    · cases h
theorem pickE_π (po : Option (Bool × List PanicEntry)) (e : DE) : (pickE po e).π = e.π := by
  unfold pickE; split <;> rfl
theorem stepD_gp {F0 : LF} {H0 : LH} {nx i : Nat} {o : Oper} {pre : Option Prop} {e : DE} (h : stepD X ops A S F0 H0 nx i o acc = some (pre, e)) : gpOk ops (getN A i) e.π = true := by
  obtain ⟨e₀, po, h1, rfl⟩ := stepD_some h
  rw [pickE_π]; exact stepP_gp h1

theorem gp_fact (hd : DOk X ops A S st acc) {k : Nat} {e : DE} (hk : acc[k]? = some e) : ∀ x ∈ e.π, ∀ m, dstIdx ops 0 x.1 = some m → hasBit (getN A k) m = true := by
  have hlt : k < ops.length := by
    rw [← hd.len]
    rcases Nat.lt_or_ge k acc.length with h | h
    · exact h
    · rw [List.getElem?_eq_none h] at hk; cases hk
  obtain ⟨pre, e', h1, h2, h3⟩ := hd.step k _ (List.getElem?_eq_getElem hlt)
  rw [hk] at h3; cases h3
  exact gpOk_ok (stepD_gp h1)

theorem fD_add (hd : DOk X ops A S st acc) {i : Nat} {o : Oper} (ho : ops[i]? = some o) {e : DE} (he : acc[i]? = some e) (hnl : L i = false) (hL : ∀ j, L' j = if j = i then true else L j) {F0 : LF} (t : Nat) :
    (o.dst = some t → fD ops acc F0 L' t = some ⟨e.π, e.v⟩) ∧ (o.dst ≠ some t → fD ops acc F0 L' t = fD ops acc F0 L t) := by
  constructor
  · intro h
    simp only [fD, hd.uniq i o t ho h, hL, if_true, nth_eq, he]
  · intro h
    simp only [fD]
    cases hdi : dstIdx ops 0 t with
    | none => rfl
    | some k =>
      have hne : k ≠ i := by
        rintro rfl
        obtain ⟨_, o', h1, h2⟩ := dstIdx_some hdi
        simp only [Nat.sub_zero] at h1
        rw [ho] at h1; cases h1
        exact h h2
      simp only [hL, if_neg hne]

/-- One operation more: the slots. -/
theorem DInv.add (hd : DOk X ops A S st acc) (hi : DInv X ops A st acc L ρ a w) {i : Nat} {o : Oper} (ho : ops[i]? = some o) (hnl : L i = false)
    (hr : ∀ e ∈ o.after.toList, bindsAny e = true → L e.on = true) (hL : ∀ j, L' j = if j = i then true else L j) {e : DE} (he : acc[i]? = some e) (hns : e.eff ≠ .skip) (hnp : ∀ ch, e.eff ≠ .pan ch) {v : Value}
    (hx : Ext ρ ρ') (hm : HM ρ' (hD acc (findH st.H) L') w') (kp : Keep X.G ρ' (hD acc (findH st.H) L') w')
    (hnx : ∀ j, ρ' j ≠ ρ j → ∃ l hb, e.eff = .new l ∧ findH l j = some hb) (hv : o.dst.isSome = true → GPsat a e.π → den ρ' e.v = some v) (hu : o.dst.isSome = true → ¬ GPsat a e.π → v = undef) :
    DInv X ops A st acc L' ρ' (a.put o.dst v) w' := by
  have hil : i < ops.length := by
    rcases Nat.lt_or_ge i ops.length with h | h
    · exact h
    · rw [List.getElem?_eq_none h] at ho; cases ho
  have hLi : L' i = true := by rw [hL]; simp
  have hLo : ∀ j, L j = true → L' j = true := fun j h => by rw [hL]; split <;> first | rfl | exact h
  refine { cl := ?_, lt := ?_, fm := ?_, hm := hm, kp := kp, df := ?_, sz := ?_, gs0 := hi.gs0, nx := ?_, np := ?_, ext := hi.ext }
  · intro j k hj hb
    rw [hL] at hj
    split at hj
    · rename_i e1; subst e1
      exact hLo k (ready_anc hd hi.cl ho hr hb)
    · exact hLo k (hi.cl j k hj hb)
  · intro j hj
    rw [hL] at hj
    split at hj
    · rename_i e1; subst e1; exact hil
    · exact hi.lt j hj
  · intro t x hf
    obtain ⟨h1, h2⟩ := fD_add hd ho he hnl hL (F0 := findF st.F) t
    cases hdst : o.dst with
    | none =>
      rw [h2 (by rw [hdst]; simp)] at hf
      exact (hi.fm.ext hx) t x hf
    | some d =>
      have hput := hd.put i o ho
      rw [hdst] at hput
      obtain ⟨hdlt, hdg⟩ := putN_ok hput
      have hud := hd.uniq i o d ho hdst
      by_cases htd : d = t
      · subst htd
        rw [h1 hdst] at hf; cases hf
        have hne : ∀ x ∈ e.π, x.1 ≠ d := by
          rintro x hx' rfl
          have := gp_fact hd he x hx' i hud
          have := anc_lt hd i o i ho this
          omega
        have hat : (a.put (some d) v).tmps[d]? = some v := by simp [Act.put, Array.getElem?_setIfInBounds, hi.sz, hdlt]
        rw [GPsat_put hne, hat]
        exact ⟨fun hs => ⟨v, rfl, hv (by rw [hdst]; rfl) hs⟩, fun hs => by rw [hu (by rw [hdst]; rfl) hs]⟩
      · rw [h2 (by rw [hdst]; simpa using htd)] at hf
        have hne : ∀ y ∈ x.gp, y.1 ≠ d := by
          intro y hy hyd
          unfold fD at hf
          cases hdi : dstIdx ops 0 t with
          | none => rw [hdi] at hf; exact hdg (hyd ▸ hi.gs0 t x hf y hy)
          | some k =>
            rw [hdi] at hf
            simp only at hf
            split at hf
            · rename_i hlk
              rw [nth_eq] at hf
              cases hk : acc[k]? with
              | none => rw [hk] at hf; cases hf
              | some ek =>
                rw [hk] at hf
                cases hf
                have := gp_fact hd hk y hy i (by rw [hyd]; exact hud)
                have := hi.cl k i hlk this
                rw [hnl] at this; cases this
            · exact hdg (hyd ▸ hi.gs0 t x hf y hy)
        have hat : (a.put (some d) v).tmps[t]? = a.tmps[t]? := by simp [Act.put, Array.getElem?_setIfInBounds, htd]
        rw [GPsat_put hne, hat]
        exact (hi.fm.ext hx) t x hf
  · rw [defers_put]; exact hi.df.ext hx
  · rw [size_put]; exact hi.sz
  · intro j hj hne
    rcases Classical.em (ρ' j = ρ j) with e1 | e1
    · rw [e1] at hne
      obtain ⟨k, ek, l, hb, h1, h2, h3, h4⟩ := hi.nx j hj hne
      exact ⟨k, ek, l, hb, hLo k h1, h2, h3, h4⟩
    · obtain ⟨l, hb, h1, h2⟩ := hnx j e1
      exact ⟨i, e, l, hb, hLi, he, h1, h2⟩
  · intro k ek hk hek
    rw [hL] at hk
    split at hk
    · rename_i e1; subst e1
      rw [he] at hek; cases hek
      exact ⟨hns, hnp⟩
    · exact hi.np k ek hk hek

/-- The pieces after one operation more. -/
theorem hD_add (hd : DOk X ops A S st acc) (hcl : ∀ j k, L j = true → hasBit (getN A j) k = true → L k = true) {i : Nat} {e : DE} (he : acc[i]? = some e) (hnl : L i = false)
    (hL : ∀ j, L' j = if j = i then true else L j) {id : Nat}
    (hlater : ∀ j e', i < j → L j = true → acc[j]? = some e' → aff e' id = true → aff e id = false) :
    hD acc (findH st.H) L' id = eff1 e id (hD acc (findH st.H) L id) := by
  have hil : i < acc.length := by
    rcases Nat.lt_or_ge i acc.length with h | h
    · exact h
    · rw [List.getElem?_eq_none h] at he; cases he
  have hsplit : acc = acc.take i ++ e :: acc.drop (i + 1) := by
    have h1 := List.take_append_drop i acc
    have h2 : acc.drop i = e :: acc.drop (i + 1) := by
      rw [List.drop_eq_getElem_cons hil]
      congr 1
      rw [List.getElem?_eq_getElem hil] at he; exact Option.some.inj he
    rw [← h2]; exact h1.symm
  have hlen : (acc.take i).length = i := by simp; omega
  have hpre : ∀ x, pD L' (acc.take i) 0 id x = pD L (acc.take i) 0 id x := fun x => pD_congr fun j hj => by
    rw [hL, if_neg (by simp; omega)]
  have hpost : ∀ x, pD L' (acc.drop (i + 1)) (i + 1) id x = pD L (acc.drop (i + 1)) (i + 1) id x := fun x => pD_congr fun j hj => by
    rw [hL, if_neg (by omega)]
  have hLi : L' i = true := by rw [hL]; simp
  show pD L' acc 0 id (findH st.H id) = eff1 e id (pD L acc 0 id (findH st.H id))
  conv => lhs; rw [hsplit]
  conv => rhs; rw [hsplit]
  rw [pD_append, pD_append, hpre]
  simp only [pD, hlen, Nat.zero_add, hLi, hnl, if_true, Bool.false_eq_true, if_false, hpost]
  generalize pD L (acc.take i) 0 id (findH st.H id) = x
  cases haff : aff e id with
  | false => rw [eff1_not haff, eff1_not haff]
  | true =>
    have hsk : ∀ y, pD L (acc.drop (i + 1)) (i + 1) id y = y := fun y => pD_skip fun j e' hj hl => by
      rw [List.getElem?_drop] at hj
      cases h : aff e' id with
      | false => rfl
      | true => rw [hlater (i + 1 + j) e' (by omega) hl hj h] at haff; cases haff
    rw [hsk, hsk]

end
end Go.X
end

section
set_option linter.unusedVariables false
set_option linter.unusedSimpArgs false
set_option linter.unusedSectionVars false
/- Regions whose order Go leaves open: the step, and the whole. -/
set_option linter.unusedVariables false
set_option linter.unusedSimpArgs false
namespace Go.X
open Go

section
variable {X : Cx} {ops : List Oper} {A : List Nat} {S : List (Nat × Nat)} {st : St} {acc : List DE} {L L' : Nat → Bool} {ρ ρ' : Env} {a : Act} {w w' : World}

theorem core_store {T : Tab} {F : LF} {π : GP} {H : LH} {fr : Nat} {op : Op} {p : Option Prop} {s : SV} {id off : Nat} {cs : List SV} (h : core T F π H fr op = some ⟨p, s, .st id off cs⟩) (ho : isStore op = true) :
    ∃ t x y ti v T' old, op = .store t x y ∧ T t = some ti ∧ ev F π x = some (.sp id off) ∧ ev F π y = some v ∧ H id = some (.cells T' old) ∧ cellsS v = some cs ∧ cs.length = ti.size ∧ off + cs.length ≤ old.length ∧ p = none := by
  cases op <;> simp only [isStore] at ho <;> first | cases ho | skip
  rename_i t x y
  simp only [core] at h
  split at h
  · rename_i ti id' off' v e1 e2 e3
    split at h
    · rename_i T' old cs' e4 e5
      split at h
      · rename_i e6 e7
        cases h
        have e6' : lenL cs = ti.size := by simpa using e6
        have e7' : off + lenL cs ≤ lenL old := by simpa using e7
        rw [lenL_eq] at e6'
        rw [lenL_eq, lenL_eq] at e7'
        exact ⟨t, x, y, ti, v, T', old, rfl, e1, e2, e3, e4, e5, e6', e7', rfl⟩
      · cases h
    · cases h
  · cases h

theorem effOf_st {e : Eff} {fr id off : Nat} {cs : List SV} (h : effOf e fr = .st id off cs) : e = .st id off cs := by
  cases e <;> simp [effOf] at h
  obtain ⟨h1, h2, h3⟩ := h
  rw [h1, h2, h3]

/-- Where a store comes from. -/
theorem stepD_st {F0 : LF} {H0 : LH} {nx i : Nat} {o : Oper} {pre : Option Prop} {e : DE} {id off : Nat} {cs : List SV} (h : stepD X ops A S F0 H0 nx i o acc = some (pre, e)) (he : e.eff = .st id off cs) :
    ∃ v, core X.T (viewF A ops F0 acc i) e.π (viewH [] A H0 acc i) (nx + 4 * i) o.op = some ⟨none, v, .st id off cs⟩ ∧ isStore o.op = true := by
  obtain ⟨e₀, po, h', rfl⟩ := stepD_some h
  clear h
  have h := h'
  clear h'
  have he₀ : e₀.eff = .st id off cs := by
    unfold pickE at he
    split at he
    · cases he
    · exact he
  rw [pickE_π]
  unfold stepP at h
  split at h
  · cases h; cases he₀
  · split at h
    · rename_i π hg
      split at h
      · rename_i hgp
        split at h
        · rename_i hst
          split at h
          · rename_i v id' off' cs' hn hdst hc
            cases h
            simp only [DEff.st.injEq] at he₀
            obtain ⟨h1, h2, h3⟩ := he₀
            subst h1; subst h2; subst h3
            exact ⟨v, hc, hst⟩
          · cases h
        · split at h
          · split at h
            · rename_i hns
              cases h
              have := effOf_st he₀
              subst this
              cases hns
            · split at h
              · cases h; cases he₀
              · split at h
                · cases h; cases he₀
                · obtain ⟨rfl, rfl, rfl, _⟩ := offG_gp h; cases he₀
              · cases h
            · cases h
          · split at h
            · split at h
              · split at h
                · cases h; cases he₀
                · cases h; cases he₀
                · cases h
              · split at h
                · cases h; cases he₀
                · cases h
              · obtain ⟨rfl, rfl, rfl, _⟩ := offG_gp h; cases he₀
            · obtain ⟨rfl, rfl, rfl, _⟩ := offG_gp h; cases he₀
      · cases h
    · cases h

theorem lt_of_get {α : Type} {l : List α} {i : Nat} {x : α} (h : l[i]? = some x) : i < l.length := by
  rcases Nat.lt_or_ge i l.length with h' | h'
  · exact h'
  · rw [List.getElem?_eq_none h'] at h; cases h

/-- The piece that is stored into: it was there, or an operation that is waited for has laid it. -/
theorem st_src (hd : DOk X ops A S st acc) {j : Nat} {e : DE} {id off : Nat} {cs : List SV} (hj : acc[j]? = some e) (he : e.eff = .st id off cs) :
    ∃ T old, off + cs.length ≤ old.length ∧ viewH [] A (findH st.H) (acc.take j) j id = some (.cells T old) := by
  have hlt : j < ops.length := by rw [← hd.len]; exact lt_of_get hj
  obtain ⟨pre, e', h1, h2, h3⟩ := hd.step j _ (List.getElem?_eq_getElem hlt)
  rw [hj] at h3; cases h3
  obtain ⟨v, hc, hst⟩ := stepD_st h1 he
  obtain ⟨t, x, y, ti, v', T', old, _, _, _, _, h4, _, _, h5, _⟩ := core_store hc hst
  exact ⟨T', old, h5, h4⟩

theorem view_src {j id : Nat} {hb : HB} (h : viewH [] A (findH st.H) (acc.take j) j id = some hb) :
    (∃ k e l, acc[k]? = some e ∧ e.eff = .new l ∧ hasBit (getN A j) k = true ∧ findH l id = some hb) ∨ findH st.H id = some hb := by
  unfold viewH at h
  simp only [deadB] at h
  split at h
  · rename_i hb' hn
    cases h
    obtain ⟨k, e, l, h1, h2, h3, h4⟩ := newsOf_some hn
    rw [List.getElem?_take] at h1
    split at h1
    · exact .inl ⟨k, e, l, h1, h2, by simpa using h3, h4⟩
    · cases h1
  · exact .inr h

/-- What is listed later does not touch what this operation touches. -/
theorem hlater (hd : DOk X ops A S st acc) (hi : DInv X ops A st acc L ρ a w) {i : Nat} {e : DE} (he : acc[i]? = some e) (hnl : L i = false) {id : Nat} :
    ∀ j e', i < j → L j = true → acc[j]? = some e' → aff e' id = true → aff e id = false := by
  intro j e' hij hl hj ha
  cases hae : aff e id with
  | false => rfl
  | true =>
    exfalso
    unfold aff at hae ha
    split at hae
    · rename_i l hel
      cases hf : findH l id with
      | none => rw [hf] at hae; cases hae
      | some hb =>
        split at ha
        · rename_i l' hel'
          cases hf' : findH l' id with
          | none => rw [hf'] at ha; cases ha
          | some hb' => have := new_uniq hd he hel hf hj hel' hf'; omega
        · rename_i id' off cs hel'
          have e1 : id' = id := by simpa using ha
          subst e1
          obtain ⟨T, old, _, hv⟩ := st_src hd hj hel'
          rcases view_src hv with ⟨k, ek, lk, h1, h2, h3, h4⟩ | h1
          · have e2 := new_uniq hd he hel hf h1 h2 h4
            subst e2
            have := hi.cl j i hl h3
            rw [hnl] at this; cases this
          · have := hi.ext _ _ h1
            have := hd.ids i e l he hel _ _ hf
            omega
        · cases ha
    · rename_i id' off cs hel
      have e1 : id' = id := by simpa using hae
      subst e1
      split at ha
      · rename_i l' hel'
        cases hf' : findH l' id' with
        | none => rw [hf'] at ha; cases ha
        | some hb' =>
          obtain ⟨T, old, _, hv⟩ := st_src hd he hel
          have h5 := hd.ids j e' l' hj hel' _ _ hf'
          rcases view_src hv with ⟨k, ek, lk, h1, h2, h3, h4⟩ | h1
          · have e2 := new_uniq hd hj hel' hf' h1 h2 h4
            have hoi : ops[i]? = some (ops[i]'(by rw [← hd.len]; exact lt_of_get he)) := List.getElem?_eq_getElem _
            have := anc_lt hd i _ k hoi h3
            omega
          · have := hi.ext _ _ h1
            omega
      · rename_i id₂ off₂ cs₂ hel'
        have := hd.chain i j e e' _ _ _ _ _ _ he hel hj hel' hij
        have := hi.cl j i hl this
        rw [hnl] at this; cases this
      · cases ha
    · cases hae

/-- The piece of a store, as it now stands. -/
theorem st_now (hd : DOk X ops A S st acc) (hi : DInv X ops A st acc L ρ a w) {i : Nat} {o : Oper} (ho : ops[i]? = some o) (hnl : L i = false)
    (hr : ∀ e ∈ o.after.toList, bindsAny e = true → L e.on = true) {id : Nat} {T : Nat} {old : List SV} (hv : viewH [] A (findH st.H) (acc.take i) i id = some (.cells T old)) :
    ∃ old', hD acc (findH st.H) L id = some (.cells T old') ∧ old'.length = old.length := by
  have key : ∀ (l : List DE) (k : Nat) (x : Option HB) (old₀ : List SV), x = some (.cells T old₀) → old₀.length = old.length →
      (∀ (j : Nat) (e : DE), l[j]? = some e → L (k + j) = true → ∀ lk, e.eff = .new lk → findH lk id = none) →
      (∀ (j : Nat) (e : DE) (off : Nat) (cs : List SV), l[j]? = some e → e.eff = .st id off cs → off + cs.length ≤ old.length) →
      ∃ old', pD L l k id x = some (.cells T old') ∧ old'.length = old.length := by
    intro l
    induction l with
    | nil => intro k x old₀ hx hlen _ _; exact ⟨old₀, hx, hlen⟩
    | cons e r ih =>
      intro k x old₀ hx hlen h1 h2
      simp only [pD]
      have h1' : ∀ (j : Nat) (e : DE), r[j]? = some e → L (k + 1 + j) = true → ∀ lk, e.eff = .new lk → findH lk id = none := fun j e hj hl => h1 (j + 1) e (by simpa using hj) (by rw [show k + (j + 1) = k + 1 + j by omega]; exact hl)
      have h2' : ∀ (j : Nat) (e : DE) (off : Nat) (cs : List SV), r[j]? = some e → e.eff = .st id off cs → off + cs.length ≤ old.length := fun j e off cs hj => h2 (j + 1) e off cs (by simpa using hj)
      split
      · rename_i hl
        cases hef : e.eff with
        | new lk => exact ih (k + 1) _ old₀ (by simp [eff1, hef, h1 0 e (by simp) (by simpa using hl) lk hef, hx]) hlen h1' h2'
        | st id' off cs =>
          by_cases hid : id' = id
          · subst hid
            refine ih (k + 1) _ (setL old₀ off cs) (by simp [eff1, hef, hx]) ?_ h1' h2'
            have := h2 0 e off cs (by simp) hef
            rw [setL_eq _ _ _ (by omega)]
            simp; omega
          · exact ih (k + 1) _ old₀ (by simp [eff1, hef, hx, hid]) hlen h1' h2'
        | no => exact ih (k + 1) _ old₀ (by simp [eff1, hef, hx]) hlen h1' h2'
        | pan ch => exact ih (k + 1) _ old₀ (by simp [eff1, hef, hx]) hlen h1' h2'
        | skip => exact ih (k + 1) _ old₀ (by simp [eff1, hef, hx]) hlen h1' h2'
      · exact ih (k + 1) x old₀ hx hlen h1' h2'
  have fits : ∀ (j : Nat) (e : DE) (off : Nat) (cs : List SV), acc[j]? = some e → e.eff = .st id off cs → off + cs.length ≤ old.length := by
    intro j e off cs hj he
    obtain ⟨T', old', h1, h2⟩ := st_src hd hj he
    rcases view_src h2 with ⟨k, ek, lk, a1, a2, a3, a4⟩ | a1 <;> rcases view_src hv with ⟨k', ek', lk', b1, b2, b3, b4⟩ | b1
    · have e1 := new_uniq hd a1 a2 a4 b1 b2 b4
      subst e1
      rw [a1] at b1; cases b1
      rw [a2] at b2; cases b2
      rw [a4] at b4; cases b4
      exact h1
    · have := hd.ids k ek lk a1 a2 _ _ a4
      have := hi.ext _ _ b1
      omega
    · have := hd.ids k' ek' lk' b1 b2 _ _ b4
      have := hi.ext _ _ a1
      omega
    · rw [a1] at b1; cases b1
      exact h1
  rcases view_src hv with ⟨k, ek, lk, b1, b2, b3, b4⟩ | b1
  · have hlk := ready_anc hd hi.cl ho hr b3
    have hk := lt_of_get b1
    have hsplit : acc = acc.take k ++ ek :: acc.drop (k + 1) := by
      have h1 := List.take_append_drop k acc
      have h2 : acc.drop k = ek :: acc.drop (k + 1) := by
        rw [List.drop_eq_getElem_cons hk]
        congr 1
        rw [List.getElem?_eq_getElem hk] at b1; exact Option.some.inj b1
      rw [← h2]; exact h1.symm
    have hlen : (acc.take k).length = k := by simp; omega
    show ∃ old', pD L acc 0 id (findH st.H id) = some (.cells T old') ∧ old'.length = old.length
    rw [hsplit, pD_append]
    simp only [pD, hlen, Nat.zero_add, hlk, if_true]
    refine key _ _ _ old (by simp [eff1, b2, b4]) rfl ?_ ?_
    · intro j e hj hl l' hel
      rw [List.getElem?_drop] at hj
      cases hf : findH l' id with
      | none => rfl
      | some hb =>
        have := new_uniq hd hj hel hf b1 b2 b4
        omega
    · intro j e off cs hj he
      rw [List.getElem?_drop] at hj
      exact fits _ e off cs hj he
  · refine key _ _ _ old b1 rfl ?_ fits
    intro j e hj hl l' hel
    cases hf : findH l' id with
    | none => rfl
    | some hb =>
      have := hd.ids j e l' hj hel _ _ hf
      have := hi.ext _ _ b1
      omega

end
end Go.X
end

section
set_option linter.unusedVariables false
set_option linter.unusedSimpArgs false
set_option linter.unusedSectionVars false
/- Regions whose order Go leaves open: one operation more. -/
set_option linter.unusedVariables false
set_option linter.unusedSimpArgs false
namespace Go.X
open Go

section
variable {X : Cx} {ops : List Oper} {A : List Nat} {S : List (Nat × Nat)} {st : St} {acc : List DE} {L L' : Nat → Bool} {ρ ρ' : Env} {a : Act} {w w' : World}

theorem hD_same (hd : DOk X ops A S st acc) (hi : DInv X ops A st acc L ρ a w) {i : Nat} {e : DE} (he : acc[i]? = some e) (hnl : L i = false) (hL : ∀ j, L' j = if j = i then true else L j)
    (hno : ∀ id, aff e id = false) : hD acc (findH st.H) L' = hD acc (findH st.H) L := by
  funext id
  rw [hD_add hd hi.cl he hnl hL (hlater hd hi he hnl), eff1_not (hno id)]

theorem newsL_eq (l : List (Nat × HB)) (H : LH) (id : Nat) : newsL l H id = match findH l id with
    | some hb => some hb
    | none => H id := by
  induction l with
  | nil => rfl
  | cons x r ih =>
    obtain ⟨j, hb⟩ := x
    simp only [newsL, findH]
    by_cases h : j = id
    · subst h; simp [updL]
    · have hb : Nat.beq j id = false := by
        cases hbb : Nat.beq j id with
        | false => rfl
        | true => exact absurd (Nat.eq_of_beq_eq_true hbb) h
      rw [updL_ne _ _ h, hb]
      exact ih

theorem hD_news (hd : DOk X ops A S st acc) (hi : DInv X ops A st acc L ρ a w) {i : Nat} {e : DE} (he : acc[i]? = some e) (hnl : L i = false) (hL : ∀ j, L' j = if j = i then true else L j)
    {l : List (Nat × HB)} (hl : e.eff = .new l) : hD acc (findH st.H) L' = newsL l (hD acc (findH st.H) L) := by
  funext id
  rw [hD_add hd hi.cl he hnl hL (hlater hd hi he hnl), newsL_eq]
  simp only [eff1, hl]
  all_goals cases findH l id <;> rfl

theorem hD_store (hd : DOk X ops A S st acc) (hi : DInv X ops A st acc L ρ a w) {i : Nat} {e : DE} (he : acc[i]? = some e) (hnl : L i = false) (hL : ∀ j, L' j = if j = i then true else L j)
    {id off : Nat} {cs : List SV} (hl : e.eff = .st id off cs) {T : Nat} {old : List SV} (hn : hD acc (findH st.H) L id = some (.cells T old)) :
    hD acc (findH st.H) L' = updL (hD acc (findH st.H) L) id (.cells T (setL old off cs)) := by
  funext id'
  rw [hD_add hd hi.cl he hnl hL (hlater hd hi he hnl)]
  by_cases h : id = id'
  · subst h
    rw [updL_self, hn]
    simp [eff1, hl]
  · rw [updL_ne _ _ h]
    simp [eff1, hl, h]

theorem findH_mem : ∀ {l : List (Nat × HB)} {j : Nat} {hb : HB}, (j, hb) ∈ l → ∃ hb', findH l j = some hb'
  | (i, x) :: r, j, hb, h => by
    simp only [findH]
    split
    · exact ⟨_, rfl⟩
    · rename_i hne
      rcases List.mem_cons.1 h with e | h
      · cases e; simp at hne
      · exact findH_mem h

theorem fr_free (hd : DOk X ops A S st acc) (hi : DInv X ops A st acc L ρ a w) {i : Nat} (hnl : L i = false) : ∀ j, st.nx + 4 * i ≤ j → j < st.nx + 4 * i + 4 → ρ j = none := by
  intro j h1 h2
  cases h : ρ j with
  | none => rfl
  | some nm =>
    obtain ⟨k, e, l, hb, h3, h4, h5, h6⟩ := hi.nx j (by omega) (by rw [h]; simp)
    have := hd.ids k e l h4 h5 _ _ h6
    have : k = i := by omega
    subst this
    rw [hnl] at h3; cases h3

theorem deadAnc_yes : ∀ {acc : List DE} {n k : Nat}, deadAnc n acc k = true → ∃ j e, acc[j]? = some e ∧ hasBit n (k + j) = true ∧ (e.eff = .skip ∨ ∃ ch, e.eff = .pan ch)
  | [], n, k, h => by cases h
  | x :: r, n, k, h => by
    have rec_ : deadAnc n r (k + 1) = true → ∃ j e, (x :: r)[j]? = some e ∧ hasBit n (k + j) = true ∧ (e.eff = .skip ∨ ∃ ch, e.eff = .pan ch) := fun h => by
      obtain ⟨j, e, h1, h2, h3⟩ := deadAnc_yes h
      exact ⟨j + 1, e, by simpa using h1, by rw [show k + (j + 1) = k + 1 + j by omega]; exact h2, h3⟩
    simp only [deadAnc] at h
    split at h
    · rename_i ch he
      split at h
      · rename_i hb; exact ⟨0, x, by simp, by simpa using hb, .inr ⟨ch, he⟩⟩
      · exact rec_ h
    · rename_i he
      split at h
      · rename_i hb; exact ⟨0, x, by simp, by simpa using hb, .inl he⟩
      · exact rec_ h
    · exact rec_ h

theorem isCall_op {op : Op} {c : Call} (h : isCall op = some c) : op = .call c := by
  cases op <;> simp [isCall] at h; rw [h]

theorem callC_mono (hX : X.Ok) {F : LF} {π : GP} {H H' : LH} {fr : Nat} {c : Call} {out : COut} (hH : ∀ id hb, H id = some hb → H' id = some hb) (h : callC X F π H fr c = some out) : callC X F π H' fr c = some out := by
  unfold callC at h ⊢
  split at h
  · rename_i f hc
    split at h
    · rename_i n first caps l e1 e2
      split at h
      · rename_i ct e3
        exact hX.mono n ct e3 _ _ _ _ _ hH h
      · cases h
    · cases h
  · cases h

/-- One operation more. -/
theorem dstep (hX : X.Ok) (hd : DOk X ops A S st acc) (hi : DInv X ops A st acc L ρ a w) {i : Nat} {o : Oper} (ho : ops[i]? = some o) (hnl : L i = false)
    (hr : ∀ e ∈ o.after.toList, bindsAny e = true → L e.on = true) (hL : ∀ j, L' j = if j = i then true else L j) {Q : Exit → Act → World → Prop} {next : Act → World → Prop}
    (hK : ∀ ρ' a' w', DInv X ops A st acc L' ρ' a' w' → next a' w')
    (hP : ∀ ch e w', acc[i]? = some e → e.eff = .pan ch → w.heap.size ≤ w'.heap.size → (∀ b, b < w.heap.size → w'.heap[b]? = w.heap[b]?) → Str w w' → Q (.panic ch) a w') :
    wpOpIn (FW X.r) 0 X.P ops.toArray Q i next a w := by
  have ho' : ops.toArray[i]? = some o := by simpa using ho
  obtain ⟨pre, e, hs, hpre, he⟩ := hd.step i o ho
  have hF := viewF_le hd hi ho hnl hr
  have hVH : ∀ id hb, viewH S A (findH st.H) (acc.take i) i id = some hb → hD acc (findH st.H) L id = some hb := fun id hb => viewH_le hd hi ho hnl hr
  have hH : HM ρ (viewH S A (findH st.H) (acc.take i) i) w := hi.hm.sub hVH
  have hfr := fr_free hd hi hnl
  have hfr0 : ρ (st.nx + 4 * i) = none := hfr _ (Nat.le_refl _) (by omega)
  unfold wpOpIn
  simp only [ho']
  obtain ⟨e₀, po, hs, hpk⟩ := stepD_some hs
  unfold stepP at hs
  split at hs
  · rename_i hdead
    obtain ⟨j, ej, h1, h2, h3⟩ := deadAnc_yes hdead
    rw [List.getElem?_take] at h1
    split at h1
    · have := hi.np j ej (ready_anc hd hi.cl ho hr (by simpa using h2)) h1
      rcases h3 with h3 | ⟨ch, h3⟩
      · exact absurd h3 this.1
      · exact absurd h3 (this.2 ch)
    · cases h1
  · split at hs
    · rename_i π hg
      have hwant := guardOf_ok hF hg
      have hpass : offG (viewF A ops (findF st.F) (acc.take i) i) π = some (pre, e₀, po) → (if Region.wanted o (yielded ops.toArray a.tmps) = true then Oper.wpIn (FW X.r) 0 X.P o a w next Q else (∀ f, o.about X.P w a.eval = some f → (FW X.r).fn f) ∧ next (a.put o.dst undef) w) := by
        intro h
        obtain ⟨rfl, rfl, rfl, hff⟩ := offG_gp h
        subst hpk
        have hno := falseG_ok hF hff
        have hh := hD_same hd hi he hnl hL (fun id => rfl)
        split
        · rename_i hw
          exact absurd (hwant.1 hw) hno
        · rename_i hw
          refine ⟨fun f _ => FW_fn _ f, hK ρ _ _ ?_⟩
          exact hi.add hd ho hnl hr hL he (by intro h; cases h) (by intro ch h; cases h) (Ext.refl ρ) (by rw [hh]; exact hi.hm) (by rw [hh]; exact hi.kp)
            (fun j hj => absurd rfl hj) (fun _ hs => absurd (hwant.2 hs) hw) (fun _ _ => rfl)
      split at hs
      · rename_i hgp
        split at hs
        · rename_i hst
          split at hs
          · -- a store
            rename_i v id off cs hnil hdst hc
            cases hs
            subst hpk
            have hπ := nilGP_eq hnil
            subst hπ
            have hsat : GPsat a [] := fun x hx => by cases hx
            rw [if_pos (hwant.2 hsat)]
            obtain ⟨t, x, y, ti, u, T', old, hop, e1, e2, e3, e4, e5, e6, e7, _⟩ := core_store hc hst
            obtain ⟨old', h1, h2⟩ := st_now hd hi ho hnl hr e4
            have hok := store_ok (fr := 0) (P := X.P) hX.tab hi.hm e1 (ev_ok hF hsat e2) (ev_ok hF hsat e3) h1 e5 e6 (by omega)
            obtain ⟨TT, old'', b, w', us, b1, b2, b3, b4, b5, b6, b7, b8, b9, b10⟩ := hok
            rw [h1] at b1; cases b1
            refine wpIn_skipv (w' := w') (core_notDefer hc) (by simp only [execOp, hop]; exact b6) (hK ρ _ _ ?_)
            have hh := hD_store hd hi he hnl hL rfl h1
            obtain ⟨nm', hn', hok0⟩ := hi.hm.ok _ _ h1
            rw [b2] at hn'; cases hn'
            obtain ⟨vs, v1, v2, v3⟩ := hok0
            have hok' : HBok ρ w' (.cells T' (setL old' off cs)) (.blk b) := by
              refine ⟨_, denL_set v1 b3 off b5, ?_, b9 vs v1⟩
              rw [List.all_eq_true] at v2 b4 ⊢
              intro y hy
              simp only [List.mem_append] at hy
              rcases hy with (hy | hy) | hy
              · exact v2 y (List.mem_of_mem_take hy)
              · exact b4 y hy
              · exact v2 y (List.mem_of_mem_drop hy)
            exact hi.add hd ho hnl hr hL he (by intro h; cases h) (by intro ch h; cases h) (Ext.refl ρ)
              (by rw [hh]; exact hi.hm.put h1 rfl b2 rfl (by omega) (fun k _ hkb => b8 k hkb) hok' rfl (fun _ _ _ h => by cases h))
              (by rw [hh]; exact hi.kp.put h1 rfl b2 rfl (by omega) (fun k _ hkb => b8 k hkb) b10)
              (fun j hj => absurd rfl hj) (fun hd' => by rw [hdst] at hd'; cases hd') (fun hd' => by rw [hdst] at hd'; cases hd')
          · cases hs
        · split at hs
          · -- the executor's own arms
            rename_i p v eff hc
            split at hs
            · rename_i hnil hns
              cases hs
              subst hpk
              have hπ := nilGP_eq hnil
              subst hπ
              have hsat : GPsat a [] := fun x hx => by cases hx
              rw [if_pos (hwant.2 hsat)]
              have hok := core_ok hX.tab hF hsat hH hfr0 hc hpre
              cases eff with
              | st id off cs => cases hns
              | no =>
                obtain ⟨u, h1, h2⟩ := hok
                refine wpIn_value (core_notDefer hc) h1 (hK ρ _ _ ?_)
                have hh := hD_same hd hi he hnl hL (fun id => rfl)
                exact hi.add hd ho hnl hr hL he (by intro h; cases h) (by intro ch h; cases h) (Ext.refl ρ) (by rw [hh]; exact hi.hm) (by rw [hh]; exact hi.kp)
                  (fun j hj => absurd rfl hj) (fun _ _ => h2) (fun _ hn => absurd hsat hn)
              | new hb =>
                obtain ⟨u, nm, ob, h1, h2, h3, h4, h5⟩ := hok
                refine wpIn_value (core_notDefer hc) h1 (hK (upd ρ (st.nx + 4 * i) nm) _ _ ?_)
                have hh := hD_news hd hi he hnl hL (l := [(st.nx + 4 * i, hb)]) rfl
                exact hi.add hd ho hnl hr hL he (by intro h; cases h) (by intro ch h; cases h) (Ext.upd nm hfr0)
                  (by rw [hh]; exact hi.hm.push hfr0 ob h3 h4 h5.1 h5.2) (by rw [hh]; exact hi.kp.push hfr0 ob h4 h5.2)
                  (fun j hj => ⟨_, hb, rfl, by
                    have : j = st.nx + 4 * i := by
                      rcases Classical.em (j = st.nx + 4 * i) with h | h
                      · exact h
                      · rw [upd_ne _ _ h] at hj; exact absurd rfl hj
                    rw [this]; simp [findH]⟩) (fun _ _ => h2) (fun _ hn => absurd hsat hn)
            · rename_i hnil hns
              split at hs
              · rename_i hc'
                cases hs
                subst hpk
                have hh := hD_same hd hi he hnl hL (fun id => rfl)
                split
                · rename_i hw
                  have hsat := hwant.1 hw
                  obtain ⟨u, h1, h2⟩ := core_ok hX.tab hF hsat hH hfr0 hc (underO_ok hF hsat hpre)
                  refine wpIn_value (core_notDefer hc) h1 (hK ρ _ _ ?_)
                  exact hi.add hd ho hnl hr hL he (by intro h; cases h) (by intro ch h; cases h) (Ext.refl ρ) (by rw [hh]; exact hi.hm) (by rw [hh]; exact hi.kp)
                    (fun j hj => absurd rfl hj) (fun _ _ => h2) (fun _ hn => absurd hsat hn)
                · rename_i hw
                  refine ⟨fun f _ => FW_fn _ f, hK ρ _ _ ?_⟩
                  exact hi.add hd ho hnl hr hL he (by intro h; cases h) (by intro ch h; cases h) (Ext.refl ρ) (by rw [hh]; exact hi.hm) (by rw [hh]; exact hi.kp)
                    (fun j hj => absurd rfl hj) (fun _ hs => absurd (hwant.2 hs) hw) (fun _ _ => rfl)
              · rename_i hb
                split at hs
                · rename_i htg
                  cases hs
                  subst hpk
                  have hsat : GPsat a π := trueG_ok hF htg
                  rw [if_pos (hwant.2 hsat)]
                  obtain ⟨u, nm, ob, h1, h2, h3, h4, h5⟩ := core_ok hX.tab hF hsat hH hfr0 hc hpre
                  refine wpIn_value (core_notDefer hc) h1 (hK (upd ρ (st.nx + 4 * i) nm) _ _ ?_)
                  have hh := hD_news hd hi he hnl hL (l := [(st.nx + 4 * i, hb)]) rfl
                  exact hi.add hd ho hnl hr hL he (by intro h; cases h) (by intro ch h; cases h) (Ext.upd nm hfr0)
                    (by rw [hh]; exact hi.hm.push hfr0 ob h3 h4 h5.1 h5.2) (by rw [hh]; exact hi.kp.push hfr0 ob h4 h5.2)
                    (fun j hj => ⟨_, hb, rfl, by
                      have : j = st.nx + 4 * i := by
                        rcases Classical.em (j = st.nx + 4 * i) with h | h
                        · exact h
                        · rw [upd_ne _ _ h] at hj; exact absurd rfl hj
                      rw [this]; simp [findH]⟩) (fun _ _ => h2) (fun _ hn => absurd (fun x hx => by cases hx) hn)
                · exact hpass hs
              · cases hs
            · cases hs
          · split at hs
            · rename_i c hcall
              have hop := isCall_op hcall
              have hnd : ∀ c, o.op ≠ .defer c := by rw [hop]; intro c' hc'; cases hc'
              split at hs
              · -- no news
                rename_i p pan v hcc
                have hcc' := callC_mono hX hVH hcc
                split at hs
                · cases hs
                  subst hpk
                  have hh := hD_same hd hi he hnl hL (fun id => rfl)
                  split
                  · rename_i hw
                    have hsat := hwant.1 hw
                    obtain ⟨n, args, h1, h2⟩ := callC_ok hX hF hsat hi.hm hfr (ty := o.type) hcc' (underO_ok hF hsat hpre)
                    refine wpIn_call hnd (by simp only [execOp, hop]; exact h1) h2 (fun en w' hr' => ?_)
                    obtain ⟨ρ', u, rfl, hend⟩ := hr'
                    have hρ : ρ' = ρ := funext fun j => by
                      rcases Classical.em (ρ' j = ρ j) with h | h
                      · exact h
                      · obtain ⟨_, _, hb, hm⟩ := hend.fresh j h
                        cases hm
                    subst hρ
                    refine hK ρ' _ _ ?_
                    exact hi.add hd ho hnl hr hL he (by intro h; cases h) (by intro ch h; cases h) (Ext.refl _) (by rw [hh]; exact hi.hm.world hend.size hend.same) (by rw [hh]; exact hi.kp.world hend.size hend.same hend.str)
                      (fun j hj => absurd rfl hj) (fun _ _ => hend.den) (fun _ hn => absurd hsat hn)
                  · rename_i hw
                    refine ⟨fun f _ => FW_fn _ f, hK ρ _ _ ?_⟩
                    exact hi.add hd ho hnl hr hL he (by intro h; cases h) (by intro ch h; cases h) (Ext.refl ρ) (by rw [hh]; exact hi.hm) (by rw [hh]; exact hi.kp)
                      (fun j hj => absurd rfl hj) (fun _ hs => absurd (hwant.2 hs) hw) (fun _ _ => rfl)
                · rename_i c ch hnil
                  cases hs
                  have hπ := nilGP_eq hnil
                  subst hπ
                  have hsat : GPsat a [] := fun x hx => by cases hx
                  rw [if_pos (hwant.2 hsat)]
                  obtain ⟨n, args, h1, h2⟩ := callC_ok hX hF hsat hi.hm hfr (ty := o.type) hcc' hpre
                  refine wpIn_call hnd (by simp only [execOp, hop]; exact h1) h2 (fun en w' hr' => ?_)
                  rcases hr' with ⟨hct, rfl, h3, h4, h5⟩ | ⟨hcf, ρ', u, rfl, hend⟩
                  · have hct : c = true := hct
                    subst hct
                    subst hpk
                    exact hP ch _ w' he rfl h3 h4 h5
                  · have hcf : c = false := hcf
                    subst hcf
                    have hpk : e = ⟨[], v, .no⟩ := hpk
                    subst hpk
                    have hh := hD_same hd hi he hnl hL (fun id => rfl)
                    have hρ : ρ' = ρ := funext fun j => by
                      rcases Classical.em (ρ' j = ρ j) with h | h
                      · exact h
                      · obtain ⟨_, _, hb, hm⟩ := hend.fresh j h
                        cases hm
                    subst hρ
                    refine hK ρ' _ _ ?_
                    exact hi.add hd ho hnl hr hL he (by intro h; cases h) (by intro ch h; cases h) (Ext.refl _) (by rw [hh]; exact hi.hm.world hend.size hend.same) (by rw [hh]; exact hi.kp.world hend.size hend.same hend.str)
                      (fun j hj => absurd rfl hj) (fun _ _ => hend.den) (fun _ hn => absurd hsat hn)
                · cases hs
              · -- news
                rename_i p pan v n l hcc
                have hcc' := callC_mono hX hVH hcc
                split at hs
                · rename_i hnil
                  simp only [Option.some.injEq, Prod.mk.injEq] at hs
                  obtain ⟨rfl, rfl, rfl⟩ := hs
                  have hπ := nilGP_eq hnil
                  subst hπ
                  have hsat : GPsat a [] := fun x hx => by cases hx
                  rw [if_pos (hwant.2 hsat)]
                  obtain ⟨f, args, h1, h2⟩ := callC_ok hX hF hsat hi.hm hfr (ty := o.type) hcc' hpre
                  refine wpIn_call hnd (by simp only [execOp, hop]; exact h1) h2 (fun en w' hr' => ?_)
                  have key : ∀ (ρ' : Env) (u : Value), e = ⟨[], v, .new (n :: l)⟩ → CallEnd ρ (hD acc (findH st.H) L) (st.nx + 4 * i) w ⟨p, pan, v, n :: l⟩ u w' ρ' → next (a.put o.dst u) w' := by
                    intro ρ' u hpk hend
                    subst hpk
                    refine hK ρ' _ _ ?_
                    have hh := hD_news hd hi he hnl hL (l := n :: l) rfl
                    exact hi.add hd ho hnl hr hL he (by intro h; cases h) (by intro ch h; cases h) hend.ext (by rw [hh]; exact hend.hm)
                      (by rw [hh]; exact {
                        str := hi.kp.str.trans hend.str
                        size := Nat.le_trans hi.kp.size hend.size
                        same := fun b hb hM => (hend.same b (by have := hi.kp.size; omega)).trans (hi.kp.same b hb hM)
                        own := fun b ho => by
                          rcases hend.own b ho with h1 | h1
                          · exact hi.kp.own b h1
                          · have := hi.kp.size; exact .inr (by omega)
                        ext := hi.kp.ext.trans hend.ext
                        fz := fun b hz => hi.kp.fz b (hend.fz b hz) })
                      (fun j hj => by
                        obtain ⟨_, _, hb, hm⟩ := hend.fresh j hj
                        obtain ⟨hb', hf⟩ := findH_mem hm
                        exact ⟨_, hb', rfl, hf⟩) (fun _ _ => hend.den) (fun _ hn => absurd hsat hn)
                  cases pan with
                  | none =>
                    obtain ⟨ρ', u, rfl, hend⟩ := hr'
                    exact key ρ' u hpk hend
                  | some cc =>
                    obtain ⟨c, ch⟩ := cc
                    rcases hr' with ⟨hct, rfl, h3, h4, h5⟩ | ⟨hcf, ρ', u, rfl, hend⟩
                    · have hct : c = true := hct
                      subst hct
                      subst hpk
                      exact hP ch _ w' he rfl h3 h4 h5
                    · have hcf : c = false := hcf
                      subst hcf
                      exact key ρ' u hpk hend
                · cases hs
              · exact hpass hs
            · exact hpass hs
      · cases hs
    · cases hs

end
end Go.X
end

section
set_option linter.unusedVariables false
set_option linter.unusedSimpArgs false
set_option linter.unusedSectionVars false
/- Regions whose order Go leaves open: the whole. -/
set_option linter.unusedVariables false
set_option linter.unusedSimpArgs false
namespace Go.X
open Go

def cnt (L : Nat → Bool) : Nat → Nat
  | 0 => 0
  | n + 1 => cnt L n + if L n then 0 else 1
theorem cnt_ge {L L' : Nat → Bool} {i : Nat} (hL : ∀ j, L' j = if j = i then true else L j) : ∀ n, n ≤ i → cnt L' n = cnt L n
  | 0, _ => rfl
  | n + 1, h => by
    simp only [cnt, cnt_ge hL n (by omega), hL n, if_neg (show n ≠ i by omega)]
theorem cnt_set {L L' : Nat → Bool} {i : Nat} (hL : ∀ j, L' j = if j = i then true else L j) (hi : L i = false) : ∀ n, i < n → cnt L' n + 1 = cnt L n
  | 0, h => by omega
  | n + 1, h => by
    simp only [cnt]
    by_cases hn : n = i
    · subst hn
      rw [cnt_ge hL n (Nat.le_refl _), hL n]
      simp [hi]
    · have := cnt_set hL hi n (by omega)
      rw [hL n, if_neg hn]; omega
theorem cnt_zero {L : Nat → Bool} : ∀ {n}, cnt L n = 0 → ∀ j, j < n → L j = true
  | 0, _, j, h => by omega
  | n + 1, h, j, hj => by
    simp only [cnt] at h
    by_cases hn : j = n
    · subst hn
      cases hl : L j with
      | true => rfl
      | false => rw [hl] at h; simp at h
    · exact cnt_zero (n := n) (by omega) j (by omega)
theorem cnt_full (n : Nat) : cnt (fun _ => false) n = n := by
  induction n with
  | zero => rfl
  | succ n ih => simp [cnt, ih]

section
variable {X : Cx} {ops : List Oper} {A : List Nat} {S : List (Nat × Nat)} {st : St} {acc : List DE} {L : Nat → Bool} {ρ : Env} {a : Act} {w : World}

theorem ready_mem {ops : List Oper} {listed : Array Bool} {i : Nat} (hsz : listed.size = ops.length) (hl : ∀ j, j < ops.length → listed[j]? = some (L j)) :
    i ∈ Region.ready .any ops.toArray listed ↔ i < ops.length ∧ L i = false ∧ ∃ o, ops[i]? = some o ∧ ∀ e ∈ o.after.toList, bindsAny e = true → listed.getD e.on false = true := by
  unfold Region.ready
  simp only [List.mem_filter, List.mem_range, List.size_toArray, Bool.and_eq_true, Bool.not_eq_true']
  constructor
  · rintro ⟨h1, h2, h3⟩
    have hg : listed.getD i true = L i := by rw [Array.getD_eq_getD_getElem?, hl i h1]; rfl
    refine ⟨h1, by rw [← hg]; exact h2, ops[i], List.getElem?_eq_getElem h1, ?_⟩
    rw [List.getElem?_toArray, List.getElem?_eq_getElem h1] at h3
    simp only [Option.map_some, Option.getD_some, Array.all_eq_true_iff_forall_mem] at h3
    intro e he hb
    have := h3 e (by simpa using he)
    rw [bindsAny_eq, hb] at this
    simpa using this
  · rintro ⟨h1, h2, o, ho, h3⟩
    have hg : listed.getD i true = L i := by rw [Array.getD_eq_getD_getElem?, hl i h1]; rfl
    refine ⟨h1, by rw [hg]; exact h2, ?_⟩
    rw [List.getElem?_toArray, ho]
    simp only [Option.map_some, Option.getD_some, Array.all_eq_true_iff_forall_mem]
    intro e he
    rw [bindsAny_eq]
    cases hb : bindsAny e with
    | false => rfl
    | true => rw [h3 e (by simpa using he) hb]; rfl

theorem guardsD_ok {m : Nat} : ∀ {l : List Oper}, guardsD m l = true → ∀ (i : Nat) (o : Oper), l[i]? = some o → ∀ (j : Nat) (p : Bool), o.guard = some (j, p) → j < m
  | [], _, i, o, h => by simp at h
  | x :: r, h, i, o, hi => by
    simp only [guardsD] at h
    intro j p hg
    cases i with
    | zero =>
      simp at hi; subst hi
      rw [hg] at h
      simp only at h
      split at h
      · rename_i h1; exact Nat.le_of_ble_eq_true h1
      · cases h
    | succ i =>
      simp at hi
      have hr : guardsD m r = true := by
        split at h
        · exact h
        · split at h
          · exact h
          · cases h
      exact guardsD_ok hr i o hi j p hg

theorem wpOp_take {ops₁ ops₂ : List Oper} {Q : Exit → Act → World → Prop} {i : Nat} {o : Oper} (ho : ops₁[i]? = some o) (hg : ∀ (j : Nat) (p : Bool), o.guard = some (j, p) → j < ops₁.length) {r : Option Nat} {P : Program} {K : Act → World → Prop}
    (h : wpOpIn (FW r) 0 P ops₁.toArray Q i K a w) : wpOpIn (FW r) 0 P (ops₁ ++ ops₂).toArray Q i K a w := by
  have hi := lt_of_get ho
  have e1 : (ops₁ ++ ops₂).toArray[i]? = some o := by rw [List.getElem?_toArray, List.getElem?_append_left hi]; exact ho
  have e2 : ops₁.toArray[i]? = some o := by rw [List.getElem?_toArray]; exact ho
  have e3 : Region.wanted o (yielded (ops₁ ++ ops₂).toArray a.tmps) = Region.wanted o (yielded ops₁.toArray a.tmps) := by
    unfold Region.wanted
    cases hgo : o.guard with
    | none => rfl
    | some p =>
      obtain ⟨j, want⟩ := p
      have hj := hg j want hgo
      simp only [yielded, List.getElem?_toArray, List.getElem?_append_left hj]
  unfold wpOpIn at h ⊢
  rw [e2] at h
  rw [e1]
  simp only at h ⊢
  rw [e3]
  exact h

theorem fullA_ok : ∀ {l : List Nat} {j i n : Nat}, fullA l j = true → l[i]? = some n → ∀ k, k < j + i → hasBit n k = true
  | [], j, i, n, _, h => by simp at h
  | x :: r, j, i, n, h, hi => by
    simp only [fullA] at h
    split at h
    · rename_i hx
      cases i with
      | zero =>
        simp at hi; subst hi
        intro k hk
        have hx' : x + 1 = Nat.shiftLeft 1 j := by simpa using hx
        have e : Nat.shiftLeft 1 j = 2 ^ j := by rw [← Nat.one_shiftLeft]; rfl
        rw [e] at hx'
        have hxx : x = 2 ^ j - 1 := by omega
        rw [hasBit_eq, hxx, Nat.testBit_two_pow_sub_one]
        simpa using hk
      | succ i =>
        simp at hi
        intro k hk
        exact fullA_ok h hi k (by omega)
    · cases h

theorem ancL_len : ∀ (l : List Oper) (A : List Nat), (ancL l A).length = A.length + l.length
  | [], A => by simp [ancL]
  | o :: r, A => by rw [ancL, ancL_len]; simp; omega

/-- The operations of the end, whose order is fixed. -/
theorem wpAny_forced {A : List Nat} {ops : List Oper} {m : Nat} {r : Option Nat} {P : Program} {Q : Exit → Act → World → Prop} (hedge : ∀ (j : Nat) (o : Oper), ops[j]? = some o → ∀ e ∈ o.after.toList, bindsAny e = true → e.on < j)
    (hfull : ∀ (i : Nat) (o : Oper), ops[i]? = some o → m ≤ i → ∀ k, k < i → ∃ e ∈ o.after.toList, bindsAny e = true ∧ (e.on = k ∨ hasBit (getN A e.on) k = true))
    (hanc : ∀ (j : Nat) (o : Oper) (k : Nat), ops[j]? = some o → hasBit (getN A j) k = true → k < j) :
    ∀ (fuel d k : Nat) (listed : Array Bool) (a : Act) (w : World), k + d = ops.length → m ≤ k → d ≤ fuel → listed.size = ops.length → (∀ j, j < ops.length → listed[j]? = some (decide (j < k))) →
      wpOpsIn (FW r) 0 P ops.toArray Q (List.range' k d) a w → wpAnyIn (FW r) 0 P .any ops.toArray Q fuel listed a w := by
  have hready : ∀ (k : Nat) (listed : Array Bool), m ≤ k → listed.size = ops.length → (∀ j, j < ops.length → listed[j]? = some (decide (j < k))) → ∀ i, i ∈ Region.ready .any ops.toArray listed → i = k := by
    intro k listed hmk hsz hl i hi
    rw [ready_mem hsz hl] at hi
    obtain ⟨h1, h2, o, ho, h3⟩ := hi
    have hik : k ≤ i := by simpa using h2
    rcases Nat.lt_or_ge k i with hlt | hge
    · obtain ⟨e, he, hb, h4⟩ := hfull i o ho (by omega) k hlt
      have hon := hedge i o ho e he hb
      have h5 := h3 e he hb
      rw [Array.getD_eq_getD_getElem?, hl e.on (by omega)] at h5
      have h6 : e.on < k := by simpa using h5
      rcases h4 with h4 | h4
      · omega
      · have := hanc e.on _ k (List.getElem?_eq_getElem (by omega)) h4
        omega
    · omega
  intro fuel
  induction fuel with
  | zero =>
    intro d k listed a w hkd hmk hd hsz hl h
    have hd0 : d = 0 := by omega
    subst hd0
    refine ⟨?_, h⟩
    cases hr : Region.ready .any ops.toArray listed with
    | nil => rfl
    | cons i r =>
      have hm : i ∈ Region.ready .any ops.toArray listed := by rw [hr]; exact List.mem_cons_self
      have := hready k listed hmk hsz hl i hm
      rw [ready_mem hsz hl] at hm
      omega
  | succ fuel ih =>
    intro d k listed a w hkd hmk hd hsz hl h
    cases d with
    | zero =>
      refine ⟨fun _ => h, fun i hi => ?_⟩
      have := hready k listed hmk hsz hl i hi
      rw [ready_mem hsz hl] at hi
      omega
    | succ d =>
      have hklt : k < ops.length := by omega
      have hkr : k ∈ Region.ready .any ops.toArray listed := by
        rw [ready_mem hsz hl]
        refine ⟨hklt, by simp, ops[k], List.getElem?_eq_getElem hklt, fun e he hb => ?_⟩
        have := hedge k _ (List.getElem?_eq_getElem hklt) e he hb
        rw [Array.getD_eq_getD_getElem?, hl e.on (by omega)]
        simpa using this
      refine ⟨fun hr => absurd hkr (by rw [hr]; exact List.not_mem_nil), fun i hi => ?_⟩
      have hik := hready k listed hmk hsz hl i hi
      subst hik
      rw [List.range'_succ, wpOpsIn_cons] at h
      refine wpOpIn_mono (fun a' w' h' => ih d (i + 1) _ a' w' (by omega) (by omega) (by omega) (by simp [hsz]) (fun j hj => ?_) h') h
      rw [Array.getElem?_setIfInBounds]
      by_cases hji : i = j
      · subst hji; simp [hsz, hj]
      · rw [if_neg hji, hl j hj]
        congr 1
        simp only [decide_eq_decide]
        omega

theorem dloop (hX : X.Ok) {ops₁ ops₂ : List Oper} (hd : DOk X ops₁ A S st acc) (hgd : guardsD ops₁.length ops₁ = true) {Q : Exit → Act → World → Prop}
    (hedge : ∀ (j : Nat) (o : Oper), (ops₁ ++ ops₂)[j]? = some o → ∀ e ∈ o.after.toList, bindsAny e = true → e.on < j)
    (hfull : ∀ (i : Nat) (o : Oper), (ops₁ ++ ops₂)[i]? = some o → ops₁.length ≤ i → ∀ k, k < i → ∃ e ∈ o.after.toList, bindsAny e = true ∧ (e.on = k ∨ hasBit (getN A e.on) k = true))
    (hanc : ∀ (j : Nat) (o : Oper) (k : Nat), (ops₁ ++ ops₂)[j]? = some o → hasBit (getN A j) k = true → k < j)
    (hN : ∀ L ρ a w, DInv X ops₁ A st acc L ρ a w → (∀ j, j < ops₁.length → L j = true) → wpOpsIn (FW X.r) 0 X.P (ops₁ ++ ops₂).toArray Q (List.range' ops₁.length ops₂.length) a w)
    (hP : ∀ (L : Nat → Bool) (ρ : Env) (a : Act) (w : World) (ch : List PanicEntry) (e : DE) (i : Nat) (w' : World), DInv X ops₁ A st acc L ρ a w → acc[i]? = some e → e.eff = .pan ch → w.heap.size ≤ w'.heap.size → (∀ b, b < w.heap.size → w'.heap[b]? = w.heap[b]?) → Str w w' → Q (.panic ch) a w') :
    ∀ (fuel : Nat) (listed : Array Bool) (L : Nat → Bool) (ρ : Env) (a : Act) (w : World), listed.size = (ops₁ ++ ops₂).length → (∀ j, j < (ops₁ ++ ops₂).length → listed[j]? = some (L j)) → cnt L (ops₁ ++ ops₂).length ≤ fuel →
      DInv X ops₁ A st acc L ρ a w → wpAnyIn (FW X.r) 0 X.P .any (ops₁ ++ ops₂).toArray Q fuel listed a w := by
  have hlen : (ops₁ ++ ops₂).length = ops₁.length + ops₂.length := by simp
  have hphase2 : ∀ (fuel : Nat) (listed : Array Bool) (L : Nat → Bool) (ρ : Env) (a : Act) (w : World), listed.size = (ops₁ ++ ops₂).length → (∀ j, j < (ops₁ ++ ops₂).length → listed[j]? = some (L j)) → cnt L (ops₁ ++ ops₂).length ≤ fuel →
      DInv X ops₁ A st acc L ρ a w → (∀ j, j < ops₁.length → L j = true) → wpAnyIn (FW X.r) 0 X.P .any (ops₁ ++ ops₂).toArray Q fuel listed a w := by
    intro fuel listed L ρ a w hsz hl hc hi hz
    have hLd : ∀ j, j < (ops₁ ++ ops₂).length → L j = decide (j < ops₁.length) := by
      intro j hj
      by_cases hjm : j < ops₁.length
      · rw [hz j hjm]; simp [hjm]
      · cases hl' : L j with
        | false => simp [hjm]
        | true => exact absurd (hi.lt j hl') hjm
    have hcnt : ∀ n, ops₁.length ≤ n → n ≤ (ops₁ ++ ops₂).length → n - ops₁.length ≤ cnt L n := by
      intro n h1 h2
      induction n with
      | zero => omega
      | succ n ih =>
        simp only [cnt]
        rcases Nat.lt_or_ge n ops₁.length with h | h
        · omega
        · have := ih h (by omega)
          have e : L n = false := by rw [hLd n (by omega)]; simp; omega
          rw [e]; simp; omega
    have := hcnt (ops₁ ++ ops₂).length (by omega) (Nat.le_refl _)
    refine wpAny_forced (A := A) (m := ops₁.length) hedge hfull hanc fuel ops₂.length ops₁.length listed a w (by omega) (Nat.le_refl _) (by omega) hsz (fun j hj => ?_) (hN L ρ a w hi hz)
    rw [hl j hj, hLd j hj]
  intro fuel
  induction fuel with
  | zero =>
    intro listed L ρ a w hsz hl hc hi
    have hz := cnt_zero (L := L) (n := (ops₁ ++ ops₂).length) (by omega)
    exact hphase2 0 listed L ρ a w hsz hl hc hi (fun j hj => hz j (by omega))
  | succ fuel ih =>
    intro listed L ρ a w hsz hl hc hi
    rcases Classical.em (∀ j, j < ops₁.length → L j = true) with hz | hz
    · exact hphase2 _ listed L ρ a w hsz hl hc hi hz
    refine ⟨fun hr => ?_, fun i hir => ?_⟩
    · exfalso
      apply hz
      intro j
      induction j using Nat.strongRecOn with
      | _ j ihj =>
        intro hj
        cases h : L j with
        | true => rfl
        | false =>
          have hm : j ∈ Region.ready .any (ops₁ ++ ops₂).toArray listed := by
            rw [ready_mem hsz hl]
            refine ⟨by omega, h, (ops₁ ++ ops₂)[j]'(by omega), List.getElem?_eq_getElem _, fun e he hb => ?_⟩
            have hlt := hedge j _ (List.getElem?_eq_getElem (by omega)) e he hb
            rw [Array.getD_eq_getD_getElem?, hl e.on (by omega), ihj e.on hlt (by omega)]
            rfl
          rw [hr] at hm; cases hm
    · rw [ready_mem hsz hl] at hir
      obtain ⟨hilt, hnl, o, ho, hr⟩ := hir
      have hr' : ∀ e ∈ o.after.toList, bindsAny e = true → L e.on = true := by
        intro e he hb
        have h1 := hr e he hb
        have h2 := hedge i o ho e he hb
        rw [Array.getD_eq_getD_getElem?, hl e.on (by omega)] at h1
        exact h1
      have him : i < ops₁.length := by
        rcases Nat.lt_or_ge i ops₁.length with h | h
        · exact h
        · exfalso
          apply hz
          intro j hj
          obtain ⟨e, he, hb, h4⟩ := hfull i o ho h j (by omega)
          have h5 := hr' e he hb
          rcases h4 with h4 | h4
          · rw [← h4]; exact h5
          · exact hi.cl e.on j h5 h4
      have ho₁ : ops₁[i]? = some o := by rw [List.getElem?_append_left him] at ho; exact ho
      refine wpOp_take ho₁ (fun j p hg => guardsD_ok hgd i o ho₁ j p hg) ?_
      refine dstep hX hd hi ho₁ hnl hr' (L' := fun j => if j = i then true else L j) (fun j => rfl) (fun ρ' a' w' hi' => ?_) (fun ch e w' he hch hs hk hst => hP L ρ a w ch e i w' hi he hch hs hk hst)
      refine ih _ (fun j => if j = i then true else L j) ρ' a' w' (by simp [hsz]) (fun j hj => ?_) ?_ hi'
      · rw [Array.getElem?_setIfInBounds]
        by_cases hji : i = j
        · subst hji
          rw [if_pos rfl, if_pos rfl, if_pos (by rw [hsz]; exact hj)]
        · rw [if_neg hji, if_neg (Ne.symm hji)]; exact hl j hj
      · have := cnt_set (L := L) (L' := fun j => if j = i then true else L j) (i := i) (fun j => rfl) hnl (ops₁ ++ ops₂).length hilt
        omega

/-! ### The state behind it -/

theorem finF_not : ∀ {l : List Oper} {s : List DE} {F : List (Nat × FE)} {t : Nat}, (∀ (j : Nat) (o : Oper), l[j]? = some o → o.dst ≠ some t) → findF (finF l s F) t = findF F t
  | [], _, F, t, _ => by simp [finF]
  | _ :: _, [], F, t, _ => by simp [finF]
  | o :: r, e :: s, F, t, h => by
    simp only [finF]
    rw [finF_not (fun j o' hj => h (j + 1) o' (by simpa using hj))]
    have h0 := h 0 o (by simp)
    split
    · rename_i d hd
      rw [findF_cons_ne]
      rintro rfl
      exact h0 hd
    · rfl
theorem finF_at : ∀ {l : List Oper} {s : List DE} {F : List (Nat × FE)} {t j : Nat} {o : Oper} {e : DE}, l[j]? = some o → o.dst = some t → s[j]? = some e →
    (∀ (j' : Nat) (o' : Oper), j < j' → l[j']? = some o' → o'.dst ≠ some t) → findF (finF l s F) t = some ⟨e.π, e.v⟩
  | [], _, F, t, j, o, e, h, _, _, _ => by simp at h
  | _ :: _, [], F, t, j, o, e, _, _, h, _ => by simp at h
  | o' :: r, e' :: s, F, t, j, o, e, h1, h2, h3, h4 => by
    simp only [finF]
    cases j with
    | zero =>
      simp at h1 h3
      subst h1; subst h3
      rw [finF_not (fun j o'' hj => h4 (j + 1) o'' (by omega) (by simpa using hj)), h2]
      exact findF_cons_self _ _ _
    | succ j =>
      simp at h1 h3
      exact finF_at h1 h2 h3 (fun j' o'' hj h => h4 (j' + 1) o'' (by omega) (by simpa using h))

theorem finF_eq (hd : DOk X ops A S st acc) (hall : ∀ j, j < ops.length → L j = true) : findF (finF ops acc st.F) = fD ops acc (findF st.F) L := by
  funext t
  unfold fD
  cases hdi : dstIdx ops 0 t with
  | none =>
    simp only
    refine finF_not fun j o hj hdst => ?_
    have := hd.uniq j o t hj hdst
    rw [hdi] at this; cases this
  | some k =>
    obtain ⟨_, o, h1, h2⟩ := dstIdx_some hdi
    simp only [Nat.sub_zero] at h1
    have hk := lt_of_get h1
    have hak : acc[k]? = some (acc[k]'(by rw [hd.len]; exact hk)) := List.getElem?_eq_getElem _
    simp only [hall k hk, if_true, nth_eq, hak]
    refine finF_at h1 h2 hak (fun j' o' hj ho' hdst => ?_)
    have := hd.uniq j' o' t ho' hdst
    rw [hdi] at this
    cases this
    omega

theorem finH_eq {L : Nat → Bool} : ∀ {l : List DE} {k : Nat} {H : List (Nat × HB)} {id : Nat}, (∀ j, j < l.length → L (k + j) = true) → findH (finH l H) id = pD L l k id (findH H id)
  | [], k, H, id, _ => rfl
  | e :: r, k, H, id, hL => by
    have h0 : L k = true := by simpa using hL 0 (by simp)
    have hL' : ∀ j, j < r.length → L (k + 1 + j) = true := fun j hj => by
      have := hL (j + 1) (by simp; omega)
      rwa [show k + (j + 1) = k + 1 + j by omega] at this
    simp only [finH, pD, h0, if_true]
    split
    · rename_i l he
      rw [finH_eq (k := k + 1) hL']
      congr 1
      rw [newsL_append, newsL_eq]
      simp only [eff1, he]
      all_goals cases findH l id <;> rfl
    · rename_i id' off cs he
      by_cases hid : id' = id
      · subst hid
        split
        · rename_i T old hf
          rw [finH_eq (k := k + 1) hL']
          congr 1
          simp [findH, eff1, he, hf]
        · rename_i hne
          rw [finH_eq (k := k + 1) hL']
          congr 1
          simp only [eff1, he, Nat.beq_refl, if_true]
      · have hb : Nat.beq id' id = false := by
          cases hbb : Nat.beq id' id with
          | false => rfl
          | true => exact absurd (Nat.eq_of_beq_eq_true hbb) hid
        have hx : eff1 e id (findH H id) = findH H id := by simp [eff1, he, hb]
        rw [hx]
        split
        · rw [finH_eq (k := k + 1) hL']
          congr 1
          simp [findH, hb]
        · exact finH_eq (k := k + 1) hL'
    · rename_i h1 h2
      rw [finH_eq (k := k + 1) hL']
      congr 1
      unfold eff1
      split
      · rename_i l he; exact absurd he (h1 l)
      · rename_i id' off cs he; exact absurd he (h2 _ _ _)
      · rfl

theorem finG_mem : ∀ {l : List DE} {gs : List Nat}, (∀ x ∈ gs, x ∈ finG l gs) ∧ ∀ (j : Nat) (e : DE), l[j]? = some e → ∀ x ∈ e.π, x.1 ∈ finG l gs
  | [], gs => ⟨fun x hx => hx, fun j e h => by simp at h⟩
  | e :: r, gs => by
    simp only [finG]
    have ih := finG_mem (l := r) (gs := gpSlots e.π gs)
    have hg := gpSlots_mem (π := e.π) (l := gs)
    refine ⟨fun x hx => ih.1 x (hg.1 x hx), fun j e' hj x hx => ?_⟩
    cases j with
    | zero => simp at hj; subst hj; exact ih.1 _ (hg.2 x hx)
    | succ j => simp at hj; exact ih.2 j e' hj x hx

theorem finGK_eq : ∀ (l : List DE) (gs : List Nat) (K : List Nat → Prop), finGK l gs K = K (finG l gs)
  | [], gs, K => rfl
  | e :: r, gs, K => by
    simp only [finGK, finG]
    split
    · rename_i h
      cases hp : e.π with
      | nil => rw [finGK_eq]; rfl
      | cons x y => rw [hp] at h; cases h
    · rw [fNs_eq, finGK_eq]
theorem lenD_eq (l : List DE) : lenD l = l.length := by
  induction l with
  | nil => rfl
  | cons x r ih => simp [lenD, ih]

theorem panOf_none : ∀ {l : List DE} {j : Nat} {e : DE} {ch : List PanicEntry}, panOf l = none → l[j]? = some e → e.eff ≠ .pan ch
  | [], j, e, ch, _, h => by simp at h
  | x :: r, j, e, ch, h, hj => by
    simp only [panOf] at h
    split at h
    · cases h
    · rename_i hne
      cases j with
      | zero => simp at hj; subst hj; exact hne ch
      | succ j => simp at hj; exact panOf_none h hj
end

theorem onePan_eq : ∀ {l : List DE} {j : Nat} {e : DE} {ch ch' : List PanicEntry}, onePan l = true → panOf l = some ch → l[j]? = some e → e.eff = .pan ch' → ch' = ch
  | [], j, e, ch, ch', _, h, _, _ => by cases h
  | x :: r, j, e, ch, ch', h1, h2, h3, h4 => by
    simp only [onePan] at h1
    simp only [panOf] at h2
    split at h1
    · rename_i ch₀ he
      rw [he] at h2
      cases h2
      cases j with
      | zero => simp at h3; subst h3; rw [he] at h4; cases h4; rfl
      | succ j =>
        simp at h3
        split at h1
        · rename_i hn; exact absurd h4 (panOf_none hn h3)
        · cases h1
    · rename_i hne
      split at h2
      · rename_i ch₀ he; exact absurd he (hne ch₀)
      · cases j with
        | zero => simp at h3; subst h3; exact absurd h4 (hne ch')
        | succ j => simp at h3; exact onePan_eq h1 h2 h3 h4

section
variable {X : Cx} {st : St}

/-- A region whose order Go leaves open. -/
theorem drawn_ok (hX : X.Ok) (hm : X.P.follows .mixedOrders = true) (A : List Nat) (S : List (Nat × Nat)) (m : Nat) {id : Nat} {ops : Array Oper} (hA : ancL ops.toList [] = A) {K : Ex → St → Prop} (h : drawn X ops.toList A S m st K) : SemC X (.region id ops true) st K := by
  intro ρ a w hmod
  unfold drawn at h
  rw [splitK_eq] at h
  generalize hops₁ : ops.toList.take m = ops₁ at h
  generalize hops₂ : ops.toList.drop m = ops₂ at h
  have hops : ops.toList = ops₁ ++ ops₂ := by rw [← hops₁, ← hops₂, List.take_append_drop]
  have hopsA : ops = (ops₁ ++ ops₂).toArray := by rw [← hops]
  split at h
  · rename_i hu he hp hgd hfull hle
    have hm1 : ops₁.length = m := by rw [← hops₁, List.length_take]; have := leO_ok hle; omega
    obtain ⟨acc, hlen, hend, hstep⟩ := evalD_ok ops₁ 0 [] rfl (by simp) rfl h (fun j o hj => by omega)
    unfold endD at hend
    split at hend
    · rename_i hsame hchain hids
      have hSe : storesOf acc 0 = S ∨ storesOf acc 0 = [] := by
        split at hsame
        · exact .inl (sameS_eq hsame)
        · refine .inr ?_
          cases hs : storesOf acc 0 with
          | nil => rfl
          | cons x r => rw [hs] at hsame; cases hsame
      have hext : ∀ id hb, findH st.H id = some hb → id < st.nx := fun id hb hf => by
        obtain ⟨nm, h1, _⟩ := hmod.hm.ok id hb hf
        rcases Nat.lt_or_ge id st.nx with h2 | h2
        · exact h2
        · rw [hmod.nx id h2] at h1; cases h1
      rw [hops] at hA he
      have hanc0 : ∀ (j : Nat) (o : Oper) (k : Nat), (ops₁ ++ ops₂)[j]? = some o → hasBit (getN A j) k = true → ∃ e ∈ o.after.toList, bindsAny e = true ∧ (e.on = k ∨ hasBit (getN A e.on) k = true) := by
        intro j o k hj hb
        have := ancL_ok (ops₁ ++ ops₂) [] j o k hj (by rw [hA]; simpa using hb)
        rw [hA] at this
        exact this
      have hedge : ∀ (j : Nat) (o : Oper), (ops₁ ++ ops₂)[j]? = some o → ∀ e ∈ o.after.toList, bindsAny e = true → e.on < j := by
        intro j o hj e hE hb
        have := edgesD_ok he j o hj e hE hb
        omega
      have hpre : ∀ (j : Nat) (o : Oper), ops₁[j]? = some o → (ops₁ ++ ops₂)[j]? = some o := fun j o hj => by rw [List.getElem?_append_left (lt_of_get hj)]; exact hj
      have hd : DOk X ops₁ A S st acc := {
        len := hlen
        step := hstep
        anc := fun j o k hj hb => hanc0 j o k (hpre j o hj) hb
        uniq := fun j o d hj hdst => by
          have := uniqD_ok ops₁ 0 hu j o d hj hdst
          simpa using this
        edges := fun j o hj => hedge j o (hpre j o hj)
        put := fun j o hj => putD_ok hp j o hj
        stores := fun j e id off cs hj hE => by
          have := storesOf_ok (k := 0) hj hE
          rcases hSe with hSe | hSe
          · rw [hSe] at this
            simpa using this
          · rw [hSe] at this; cases this
        chain := fun j j' e e' id off cs id' off' cs' h1 h2 h3 h4 h5 => by
          have a1 := storesOf_ok (k := 0) h1 h2
          have a2 := storesOf_ok (k := 0) h3 h4
          rw [Nat.zero_add] at a1 a2
          rcases hSe with hSe | hSe
          case inr => rw [hSe] at a1; cases a1
          obtain ⟨x, hx⟩ := List.getElem?_of_mem a1
          obtain ⟨y, hy⟩ := List.getElem?_of_mem a2
          have hxy := storesOf_sorted hx hy h5
          rw [hSe] at hx hy
          exact chainD_pair hchain x y _ _ hx hy hxy
        ids := fun j e l hj hE id hb hf => by
          have := idsD_ok hids j e l hj hE id hb hf
          simpa using this }
      have hfull' : ∀ (i : Nat) (o : Oper), (ops₁ ++ ops₂)[i]? = some o → ops₁.length ≤ i → ∀ k, k < i → ∃ e ∈ o.after.toList, bindsAny e = true ∧ (e.on = k ∨ hasBit (getN A e.on) k = true) := by
        intro i o ho hmi k hk
        refine hanc0 i o k ho ?_
        rw [dropL_eq] at hfull
        unfold getN
        rw [nth_eq]
        cases hAi : A[i]? with
        | none =>
          exfalso
          have h1 : A.length = (ops₁ ++ ops₂).length := by rw [← hA, ancL_len]; simp
          have h2 := lt_of_get ho
          rw [List.getElem?_eq_none_iff] at hAi
          omega
        | some n =>
          refine fullA_ok hfull (i := i - m) ?_ k (by omega)
          rw [List.getElem?_drop, show m + (i - m) = i by omega]
          exact hAi
      have hanc' : ∀ (j : Nat) (o : Oper) (k : Nat), (ops₁ ++ ops₂)[j]? = some o → hasBit (getN A j) k = true → k < j := by
        intro j
        induction j using Nat.strongRecOn with
        | _ j ih =>
          intro o k ho hk
          obtain ⟨e, he', hb, h'⟩ := hanc0 j o k ho hk
          have hlt := hedge j o ho e he' hb
          rcases h' with h' | h'
          · omega
          · have := ih e.on hlt _ k (List.getElem?_eq_getElem (by have := lt_of_get ho; omega)) h'
            omega
      have hi : DInv X ops₁ A st acc (fun _ => false) ρ a { w with drawn := w.drawn + 1 } := {
        cl := fun j k h => by cases h
        lt := fun j h => by cases h
        fm := by
          intro t e hf
          refine hmod.fm t e ?_
          unfold fD at hf
          split at hf
          · exact hf
          · simpa using hf
        hm := by
          have e : hD acc (findH st.H) (fun _ => false) = findH st.H := by funext id; exact pD_skip fun j e _ h => by cases h
          rw [e]
          exact hmod.hm.world (Nat.le_refl _) (fun _ _ => rfl)
        kp := by
          have e : hD acc (findH st.H) (fun _ => false) = findH st.H := by funext id; exact pD_skip fun j e _ h => by cases h
          rw [e]
          exact hmod.kp.world (Nat.le_refl _) (fun _ _ => rfl)
        df := hmod.df
        sz := hmod.sz
        gs0 := hmod.gs
        nx := fun j hj hne => absurd (hmod.nx j hj) hne
        np := fun k e h => by cases h
        ext := hext }
      have hrep : ∀ n j, j < n → (Array.replicate n false)[j]? = some false := fun n j hj => by simp [hj]
      rw [hopsA]
      refine wpIn_region_any hm (dloop hX hd (by rw [hm1]; exact hgd) hedge hfull' hanc' ?_ ?_ _ _ (fun _ => false) ρ a _ (by simp) (fun j hj => hrep _ j (by simpa using hj)) (by rw [cnt_full]; simp) hi)
      · intro L ρ' a' w' hi' hall
        split at hend
        · rename_i hpan
          rw [fFL_eq, finGK_eq, finHK_eq, natF_eq] at hend
          have e1 := finF_eq hd hall
          have e2 : findH (finH acc st.H) = hD acc (findH st.H) L := by
            funext id
            exact finH_eq (k := 0) (fun j hj => by rw [Nat.zero_add]; exact hall j (by rw [← hlen]; exact hj))
          have hmod' : Mod X ρ' ⟨finF ops₁ acc st.F, finG acc st.gs, finH acc st.H, st.nx + 4 * lenD acc, st.D⟩ a' w' := {
            fm := by rw [e1]; exact hi'.fm
            gs := fun t e hf x hx => by
              have hf : findF (finF ops₁ acc st.F) t = some e := hf
              rw [e1] at hf
              unfold fD at hf
              split at hf
              · exact finG_mem.1 _ (hi'.gs0 t e hf x hx)
              · rename_i k _
                split at hf
                · rw [nth_eq] at hf
                  cases hk : acc[k]? with
                  | none => rw [hk] at hf; cases hf
                  | some ek =>
                    rw [hk] at hf; cases hf
                    exact finG_mem.2 k ek hk x hx
                · exact finG_mem.1 _ (hi'.gs0 t e hf x hx)
            df := hi'.df
            hm := by rw [e2]; exact hi'.hm
            kp := by rw [e2]; exact hi'.kp
            nx := fun j hj => by
              have hj : st.nx + 4 * lenD acc ≤ j := hj
              cases hr : ρ' j with
              | none => rfl
              | some nm =>
                obtain ⟨k, e, l, hb, h1, h2, h3, h4⟩ := hi'.nx j (by omega) (by rw [hr]; simp)
                have := hd.ids k e l h2 h3 _ _ h4
                have := lt_of_get h2
                rw [lenD_eq] at hj
                omega
            sz := hi'.sz }
          rw [hm1]
          have hd2 : (ops₁ ++ ops₂).drop m = ops₂ := by rw [← hm1]; simp
          have := execL_ok hX (ops := ops₁ ++ ops₂) (Q := Qof X K) (K := fun st => endRegion st (K .normal)) (Kp := fun ch st => K (.panic ch) st)
            (fun ρ' st' a' w' hm' hk => ⟨.normal, st', ρ', rfl, hm', by unfold endRegion at hk; split at hk <;> exact hk⟩)
            (fun ch ρ' st' a' w' hm' hk => ⟨.panic ch, st', ρ', rfl, hm', hk⟩) ops₂ m ρ' _ a' w' hd2 (by rw [← hops]; exact hend) hmod'
          exact this
        · rename_i ch hpan
          -- some operation panics: not all can be listed
          exfalso
          have : ∀ {l : List DE}, panOf l = some ch → ∃ (j : Nat) (e : DE), l[j]? = some e ∧ e.eff = .pan ch := by
            intro l
            induction l with
            | nil => intro h; cases h
            | cons x r ih =>
              intro h
              simp only [panOf] at h
              split at h
              · rename_i ch' hx; cases h; exact ⟨0, x, by simp, hx⟩
              · obtain ⟨j, e, h1, h2⟩ := ih h; exact ⟨j + 1, e, by simpa using h1, h2⟩
          obtain ⟨j, e, h1, h2⟩ := this hpan
          exact (hi'.np j e (hall j (by rw [← hlen]; exact lt_of_get h1)) h1).2 ch h2
      · intro L ρ' a' w' ch e i w'' hi' hei hch hsz hkeep hstr
        split at hend
        · rename_i hpan
          exact absurd hch (panOf_none hpan hei)
        · rename_i ch' hpan
          split at hend
          · rename_i hnil hone
            have hcc := onePan_eq hone hpan hei hch
            subst hcc
            rw [fFL_eq, natF_eq] at hend
            refine ⟨.panic ch, _, ρ', rfl, ?_, hend⟩
            have hSn : storesOf acc 0 = [] := by
              cases hs : storesOf acc 0 with
              | nil => rfl
              | cons x r => rw [hs] at hnil; cases hnil
            have hle : ∀ id hb, findH st.H id = some hb → hD acc (findH st.H) L id = some hb := by
              intro id hb hf
              rw [hD_old hd (hext _ _ hf) (fun j e off cs _ hj he' => ?_)]
              · exact hf
              · have := storesOf_ok (k := 0) hj he'
                rw [hSn] at this; cases this
            have hm' : HM ρ' (findH st.H) w' := hi'.hm.sub hle
            exact {
              fm := fun t e hf => by
                obtain ⟨h1, h2⟩ := keepF_find hf
                refine hi'.fm t e ?_
                unfold fD
                rw [h2]
                exact h1
              gs := fun t e hf x hx => hi'.gs0 t e (keepF_find hf).1 x hx
              df := hi'.df
              hm := hm'.world hsz hkeep
              kp := {
                str := hi'.kp.str.trans hstr
                size := Nat.le_trans hi'.kp.size hsz
                same := fun b hb hM => (hkeep b (by have := hi'.kp.size; omega)).trans (hi'.kp.same b hb hM)
                own := fun b ho => hi'.kp.own b (Own.sub hle ho)
                ext := hi'.kp.ext
                fz := fun b hz => hi'.kp.fz b (hz.sub fun id size C hf => hle _ _ hf) }
              nx := fun j hj => by
                have hj : st.nx + 4 * lenD acc ≤ j := hj
                cases hr : ρ' j with
                | none => rfl
                | some nm =>
                  obtain ⟨k, e, l, hb, h1, h2, h3, h4⟩ := hi'.nx j (by omega) (by rw [hr]; simp)
                  have := hd.ids k e l h2 h3 _ _ h4
                  have := lt_of_get h2
                  rw [lenD_eq] at hj
                  omega
              sz := hi'.sz }
          · exact hend.elim
    · exact hend.elim
  · exact h.elim
end
end Go.X
end

section
set_option linter.unusedVariables false
set_option linter.unusedSimpArgs false
set_option linter.unusedSectionVars false
/- Ids renamed; contracts out of walks. -/
set_option linter.unusedVariables false
set_option linter.unusedSimpArgs false
namespace Go.X
open Go

mutual
def renSV (s : Nat → Nat) : SV → SV
  | .sp i o => .sp (s i) o
  | .se i n o => .se (s i) n o
  | .sl i => .sl (s i)
  | .sm i => .sm (s i)
  | .fy i => .fy (s i)
  | .ss i o l t => .ss (s i) o l t
  | .agg l => .agg (renL s l)
  | .tup l => .tup (renL s l)
  | .fn f a b => .fn f (renL s a) (renL s b)
  | .ifc t x => .ifc t (renSV s x)
  | .sv x => .sv x
  | .si k n => .si k n
  | .sb p => .sb p
def renL (s : Nat → Nat) : List SV → List SV
  | [] => []
  | x :: r => renSV s x :: renL s r
end

def NmLe (nm nm' : Nm) : Prop := nm' = nm ∨ (∃ k n c z, nm' = .row k n c z ∧ nm = .sl (some ⟨k, 0, none⟩) n c z) ∨ ∃ k n c z, nm = .row k n c z ∧ nm' = .sl (some ⟨k, 0, none⟩) n c z

def Sim (ρ₀ ρ : Env) (s : Nat → Nat) (x : Nat → Prop) : Prop := ∀ j, x j → ∃ nm nm', ρ₀ j = some nm ∧ ρ (s j) = some nm' ∧ NmLe nm nm'

theorem add_zero_mk (k o : Nat) : (⟨k, 0, none⟩ : Addr).add o = ⟨k, o, none⟩ := by rw [add_mk]; simp

mutual
def InSV (p : Nat → Prop) : SV → Prop
  | .sp i _ => p i
  | .se i _ _ => p i
  | .sl i => p i
  | .sm i => p i
  | .fy i => p i
  | .ss i _ _ _ => p i
  | .agg l => InL p l
  | .tup l => InL p l
  | .fn _ a b => InL p a ∧ InL p b
  | .ifc _ x => InSV p x
  | .sv _ => True
  | .si _ _ => True
  | .sb _ => True
def InL (p : Nat → Prop) : List SV → Prop
  | [] => True
  | x :: r => InSV p x ∧ InL p r
end

section
variable {ρ₀ ρ : Env} {s : Nat → Nat} {p : Nat → Prop}
mutual
theorem den_ren (h : Sim ρ₀ ρ s p) : ∀ (x : SV), InSV p x → den ρ (renSV s x) = den ρ₀ x
  | .sv x, _ => by simp [renSV, den]
  | .si k n, _ => by simp [renSV, den]
  | .sb q, _ => by simp [renSV, den]
  | .sp i o, hi => by
    obtain ⟨nm, nm', h1, h2, h3⟩ := h i hi
    simp only [renSV, den, h1, h2]
    rcases h3 with rfl | ⟨k, n, c, z, rfl, rfl⟩ | ⟨k, n, c, z, rfl, rfl⟩ <;> rfl
  | .se i n o, hi => by
    obtain ⟨nm, nm', h1, h2, h3⟩ := h i hi
    simp only [renSV, den, h1, h2]
    rcases h3 with rfl | ⟨k, n, c, z, rfl, rfl⟩ | ⟨k, n, c, z, rfl, rfl⟩
    · rfl
    · simp only [add_zero_mk]
    · simp only [add_zero_mk]
  | .sl i, hi => by
    obtain ⟨nm, nm', h1, h2, h3⟩ := h i hi
    simp only [renSV, den, h1, h2]
    rcases h3 with rfl | ⟨k, n, c, z, rfl, rfl⟩ | ⟨k, n, c, z, rfl, rfl⟩ <;> rfl
  | .sm i, hi => by
    obtain ⟨nm, nm', h1, h2, h3⟩ := h i hi
    simp only [renSV, den, h1, h2]
    rcases h3 with rfl | ⟨k, n, c, z, rfl, rfl⟩ | ⟨k, n, c, z, rfl, rfl⟩ <;> rfl
  | .fy i, hi => by
    obtain ⟨nm, nm', h1, h2, h3⟩ := h i hi
    simp only [renSV, den, h1, h2]
    rcases h3 with rfl | ⟨k, n, c, z, rfl, rfl⟩ | ⟨k, n, c, z, rfl, rfl⟩ <;> rfl
  | .ss i o l t, hi => by
    obtain ⟨nm, nm', h1, h2, h3⟩ := h i hi
    simp only [renSV, den, h1, h2]
    rcases h3 with rfl | ⟨k, n, c, z, rfl, rfl⟩ | ⟨k, n, c, z, rfl, rfl⟩
    · rfl
    · simp only [partOf, add_zero_mk]
    · simp only [partOf, add_zero_mk]
  | .agg l, hi => by simp only [renSV, den, denL_ren h l hi]
  | .tup l, hi => by simp only [renSV, den, denL_ren h l hi]
  | .fn f a b, hi => by simp only [renSV, den, denL_ren h a hi.1, denL_ren h b hi.2]
  | .ifc t x, hi => by simp only [renSV, den, den_ren h x hi]
theorem denL_ren (h : Sim ρ₀ ρ s p) : ∀ (l : List SV), InL p l → denL ρ (renL s l) = denL ρ₀ l
  | [], _ => by simp [renL, denL]
  | x :: r, hi => by simp only [renL, denL, den_ren h x hi.1, denL_ren h r hi.2]
end
mutual
theorem InSV.mono {q : Nat → Prop} (h : ∀ j, p j → q j) : ∀ (x : SV), InSV p x → InSV q x
  | .sv x, _ => trivial
  | .si k n, _ => trivial
  | .sb q, _ => trivial
  | .sp i o, hi => h i hi
  | .se i n o, hi => h i hi
  | .sl i, hi => h i hi
  | .sm i, hi => h i hi
  | .fy i, hi => h i hi
  | .ss i _ _ _, hi => h i hi
  | .agg l, hi => InL.mono h l hi
  | .tup l, hi => InL.mono h l hi
  | .fn f a b, hi => ⟨InL.mono h a hi.1, InL.mono h b hi.2⟩
  | .ifc t x, hi => InSV.mono h x hi
theorem InL.mono {q : Nat → Prop} (h : ∀ j, p j → q j) : ∀ (l : List SV), InL p l → InL q l
  | [], _ => trivial
  | x :: r, hi => ⟨InSV.mono h x hi.1, InL.mono h r hi.2⟩
end
end

def numb : Nat → List (Nat × HB) → List (Nat × HB)
  | _, [] => []
  | i, (_, hb) :: r => (i, hb) :: numb (i + 1) r
def sigP (ps : List (Nat × HB)) (j : Nat) : Nat := match nth ps j with
  | some (c, _) => c
  | none => 0

theorem numb_find : ∀ (ps : List (Nat × HB)) (i j : Nat) (hb : HB), findH (numb i ps) j = some hb → i ≤ j ∧ ∃ c, ps[j - i]? = some (c, hb)
  | [], i, j, hb, h => by cases h
  | (c, x) :: r, i, j, hb, h => by
    simp only [numb, findH] at h
    split at h
    · rename_i e
      have : i = j := by simpa using e
      subst this; cases h
      exact ⟨Nat.le_refl _, c, by simp⟩
    · rename_i e
      have hne : ¬ i = j := by simpa using e
      obtain ⟨h1, c', h2⟩ := numb_find r (i + 1) j hb h
      exact ⟨by omega, c', by rw [show j - i = (j - (i + 1)) + 1 by omega]; simpa using h2⟩
/-- A piece as it is handed on: ids renamed, rows to be read only. -/
def PieceOk (H : LH) (s : Nat → Nat) (c : Nat) : HB → Prop
  | .cells T cs => H c = some (.cells T (renL s cs))
  | .map es k => H c = some (.map es k)
  | .ro size n get => (∃ get', H c = some (.ro size n get') ∧ ∀ i, i < n → renL s (get i) = get' i) ∨ (∃ T xs, H c = some (.row T size n xs) ∧ ∀ i, i < n → renL s (get i) = (xs.drop (i * size)).take size) ∨
      ∃ T get', H c = some (.vec T size n get') ∧ ∀ i, i < n → renL s (get i) = get' i
  | .fam size C => H c = some (.fam size C)
  | _ => False
def InHB (p : Nat → Prop) : HB → Prop
  | .cells _ cs => InL p cs
  | .ro _ n get => ∀ i, i < n → InL p (get i)
  | .row _ _ _ xs => InL p xs
  | _ => True
def ownP : HB → Bool
  | .cells _ _ => true
  | .map _ _ => true
  | _ => false

def toSl : Nm → Nm
  | .row k n c z => .sl (some ⟨k, 0, none⟩) n c z
  | x => x
def isRo : HB → Bool
  | .ro _ _ _ => true
  | _ => false

/-- The pieces that are handed on. -/
structure Hand (H : LH) (ps : List (Nat × HB)) : Prop where
  ok : ∀ (j c : Nat) (hb : HB), ps[j]? = some (c, hb) → PieceOk H (sigP ps) c hb
  ids : ∀ (j c : Nat) (hb : HB), ps[j]? = some (c, hb) → InHB (fun i => i < ps.length) hb
  inj : ∀ (i j c : Nat) (hb hb' : HB), ps[i]? = some (c, hb) → ps[j]? = some (c, hb') → ownP hb = true → ownP hb' = true → i = j

def handE (ρ : Env) (ps : List (Nat × HB)) : Env := fun j => match ps[j]? with
  | some (c, hb) => if isRo hb then (ρ c).map toSl else ρ c
  | none => none

theorem denL_getL {ρ : Env} {l : List SV} {vs : List Value} (h : denL ρ l = some vs) (off size : Nat) : denL ρ ((l.drop off).take size) = some ((vs.drop off).take size) :=
  denL_take (denL_drop h off) size

theorem piece_some {ρ : Env} {H : LH} {w : World} (hm : HM ρ H w) {s : Nat → Nat} {c : Nat} {hb : HB} (h : PieceOk H s c hb) : ∃ nm hb', ρ c = some nm ∧ H c = some hb' ∧ HBok ρ w hb' nm := by
  have key : ∀ hb', H c = some hb' → ∃ nm hb', ρ c = some nm ∧ H c = some hb' ∧ HBok ρ w hb' nm := fun hb' hf => by
    obtain ⟨nm, h1, h2⟩ := hm.ok c hb' hf
    exact ⟨nm, hb', h1, hf, h2⟩
  cases hb with
  | cells T cs => exact key _ h
  | map es k => exact key _ h
  | ro size n get =>
    rcases h with ⟨get', h, _⟩ | ⟨T, xs, h, _⟩ | ⟨T, g, h, _⟩
    · exact key _ h
    · exact key _ h
    · exact key _ h
  | dead => exact h.elim
  | row _ _ _ _ => exact h.elim
  | vec _ _ _ _ => exact h.elim
  | mp _ => exact h.elim
  | it _ _ _ _ => exact h.elim
  | loop _ _ _ _ _ _ _ _ _ => exact h.elim
  | dfr => exact h.elim
  | fam _ _ => exact key _ h

section
variable {ρ : Env} {H : LH} {w : World} {ps : List (Nat × HB)}

theorem hand_sim (hm : HM ρ H w) (hh : Hand H ps) : Sim (handE ρ ps) ρ (sigP ps) (fun i => i < ps.length) := by
  intro j hj
  have hj' : ps[j]? = some (ps[j].1, ps[j].2) := List.getElem?_eq_getElem hj
  obtain ⟨nm, hb', h1, h2, h3⟩ := piece_some hm (hh.ok j _ _ hj')
  have hs : sigP ps j = ps[j].1 := by simp only [sigP, nth_eq, hj']
  refine ⟨if isRo ps[j].2 then toSl nm else nm, nm, ?_, by rw [hs]; exact h1, ?_⟩
  · simp only [handE, hj', h1]
    split <;> rfl
  · split
    · cases nm with
      | row k n c z => exact .inr (.inl ⟨k, n, c, z, rfl, rfl⟩)
      | blk n => exact .inl rfl
      | sl a n c z => exact .inl rfl
    · exact .inl rfl

theorem hand_own (hm : HM ρ H w) (hh : Hand H ps) {b : Nat} (ho : Own (handE ρ ps) (findH (numb 0 ps)) b) :
    ∃ (j c : Nat) (hb hb' : HB) (nm : Nm), ps[j]? = some (c, hb) ∧ ownP hb = true ∧ H c = some hb' ∧ hb'.live = true ∧ ρ c = some nm ∧ nm.owner = some b ∧ ownP hb' = true := by
  obtain ⟨id, hb, nm, h1, h2, h3, h4⟩ := ho
  obtain ⟨_, c, h5⟩ := numb_find ps 0 id hb h1
  simp only [Nat.sub_zero] at h5
  have hp := hh.ok id c hb h5
  simp only [handE, h5] at h3
  cases hb with
  | cells T cs =>
    simp only [isRo] at h3
    exact ⟨id, c, _, _, nm, h5, rfl, hp, rfl, h3, h4, rfl⟩
  | map es k =>
    simp only [isRo] at h3
    exact ⟨id, c, _, _, nm, h5, rfl, hp, rfl, h3, h4, rfl⟩
  | ro size n get =>
    simp only [isRo, if_true] at h3
    cases hr : ρ c with
    | none => rw [hr] at h3; cases h3
    | some nm' =>
      rw [hr] at h3
      simp only [Option.map_some, Option.some.injEq] at h3
      obtain ⟨nm2, hb2, e1, e2, e3⟩ := piece_some hm hp
      rw [hr] at e1; cases e1
      rcases hp with ⟨get', hp, _⟩ | ⟨T, xs, hp, _⟩ | ⟨T, xs, hp, _⟩
      · rw [hp] at e2; cases e2
        cases nm' with
        | sl a n' c' z => subst h3; simp [toSl, Nm.owner] at h4
        | blk k => exact e3.elim
        | row _ _ _ _ => exact e3.elim
      · rw [hp] at e2; cases e2
        cases nm' with
        | sl a n' c' z => exact e3.elim
        | blk k => exact e3.elim
        | row k n' c' z => subst h3; simp [toSl, Nm.owner] at h4
      · rw [hp] at e2; cases e2
        cases nm' with
        | sl a n' c' z => subst h3; simp [toSl, Nm.owner] at h4
        | blk k => exact e3.elim
        | row k n' c' z => subst h3; simp [toSl, Nm.owner] at h4
  | dead => exact hp.elim
  | row _ _ _ _ => exact hp.elim
  | vec _ _ _ _ => exact hp.elim
  | mp _ => exact hp.elim
  | it _ _ _ _ => exact hp.elim
  | loop _ _ _ _ _ _ _ _ _ => exact hp.elim
  | dfr => exact hp.elim
  | fam size C =>
    simp only [isRo] at h3
    obtain ⟨nm2, e1, e2⟩ := hm.ok _ _ hp
    simp only [Bool.false_eq_true, if_false] at h3
    rw [h3] at e1; cases e1
    cases nm <;> simp only [HBok] at e2
    simp [Nm.owner] at h4

theorem hand_hm (hm : HM ρ H w) (hh : Hand H ps) : HM (handE ρ ps) (findH (numb 0 ps)) w where
  ok id hb hf := by
    obtain ⟨_, c, h5⟩ := numb_find ps 0 id hb hf
    simp only [Nat.sub_zero] at h5
    have hp := hh.ok id c hb h5
    have hi := hh.ids id c hb h5
    have hsim := hand_sim hm hh
    cases hb with
    | cells T cs =>
      obtain ⟨nm, h1, h2⟩ := hm.ok _ _ hp
      refine ⟨nm, by simp only [handE, h5, isRo]; exact h1, ?_⟩
      cases nm <;> simp only [HBok] at h2 ⊢
      obtain ⟨vs, d1, d2⟩ := h2
      exact ⟨vs, by rw [← denL_ren hsim cs hi]; exact d1, d2⟩
    | map es k =>
      obtain ⟨nm, h1, h2⟩ := hm.ok _ _ hp
      exact ⟨nm, by simp only [handE, h5, isRo]; exact h1, by cases nm <;> exact h2⟩
    | ro size n get =>
      rcases hp with ⟨get', hp, hg⟩ | ⟨T, xs, hp, hx⟩ | ⟨T, get', hp, hg⟩
      · obtain ⟨nm, h1, h2⟩ := hm.ok _ _ hp
        refine ⟨toSl nm, by simp only [handE, h5, isRo, if_true, h1, Option.map_some], ?_⟩
        cases nm <;> simp only [HBok] at h2
        obtain ⟨e1, e2, e0, e3⟩ := h2
        refine ⟨e1, e2, e0, fun hn => ?_⟩
        obtain ⟨ad, a1, a2, a3⟩ := e3 hn
        refine ⟨ad, a1, a2, fun i hin => ?_⟩
        obtain ⟨vs, d1, d2⟩ := a3 i hin
        exact ⟨vs, by rw [← denL_ren hsim _ (hi i hin), hg i hin]; exact d1, d2⟩
      · obtain ⟨nm, h1, h2⟩ := hm.ok _ _ hp
        refine ⟨toSl nm, by simp only [handE, h5, isRo, if_true, h1, Option.map_some], ?_⟩
        cases nm <;> simp only [HBok] at h2
        rename_i nb n' cc z
        obtain ⟨e1, e2, e3, vs, rest, d1, d2, d3, d4, d5⟩ := h2
        refine ⟨e1, e2, e3.1, fun hn => ?_⟩
        have hlt : nb < w.heap.size := by
          rcases Nat.lt_or_ge nb w.heap.size with h | h
          · exact h
          · rw [Array.getElem?_eq_none h] at d5; cases d5
        refine ⟨⟨nb, 0, none⟩, rfl, hlt, fun i hin => ?_⟩
        have hd := denL_getL d1 (i * size) size
        rw [← hx i hin, denL_ren hsim _ (hi i hin)] at hd
        have hle : i * size + size ≤ n * size := by
          have : (i + 1) * size ≤ n * size := Nat.mul_le_mul_right _ hin
          rw [Nat.add_mul] at this; omega
        refine ⟨_, hd, ?_, by simp; omega, fun j v hv => ?_⟩
        · rw [List.all_eq_true] at d2 ⊢
          intro x hx'
          exact d2 x (List.mem_of_mem_drop (List.mem_of_mem_take hx'))
        · rw [List.getElem?_take] at hv
          split at hv
          · rename_i hj
            rw [List.getElem?_drop] at hv
            rw [add_zero_mk]
            simp only [World.cell?, d5]
            simp only [List.getElem?_toArray]
            rw [List.getElem?_append_left (by have := lt_of_get hv; omega)]
            exact hv
          · cases hv
      · obtain ⟨nm, h1, h2⟩ := hm.ok _ _ hp
        refine ⟨toSl nm, by simp only [handE, h5, isRo, if_true, h1, Option.map_some], ?_⟩
        cases nm <;> simp only [HBok] at h2
        · obtain ⟨rfl, rfl, rfl, rfl, rfl⟩ := h2
          exact ⟨rfl, rfl, Nat.le_refl _, fun h => by omega⟩
        rename_i nb n' cc z
        obtain ⟨e1, e2, e3, cells, d5, d6, d7⟩ := h2
        refine ⟨e1, e2, e3.1, fun hn => ?_⟩
        have hlt : nb < w.heap.size := by
          rcases Nat.lt_or_ge nb w.heap.size with h | h
          · exact h
          · rw [Array.getElem?_eq_none h] at d5; cases d5
        refine ⟨⟨nb, 0, none⟩, rfl, hlt, fun i hin => ?_⟩
        obtain ⟨vs, c1, c2, c3, c4⟩ := d7 i hin
        refine ⟨vs, by rw [← denL_ren hsim _ (hi i hin), hg i hin]; exact c1, c2, c3, fun j v hv => ?_⟩
        rw [add_zero_mk]
        simp only [World.cell?, d5]
        simp only [List.getElem?_toArray]
        exact c4 j v hv
    | dead => exact hp.elim
    | row _ _ _ _ => exact hp.elim
    | vec _ _ _ _ => exact hp.elim
    | mp _ => exact hp.elim
    | it _ _ _ _ => exact hp.elim
    | loop _ _ _ _ _ _ _ _ _ => exact hp.elim
    | dfr => exact hp.elim
    | fam size C =>
      obtain ⟨nm, h1, h2⟩ := hm.ok _ _ hp
      exact ⟨nm, by simp only [handE, h5, isRo]; exact h1, by cases nm <;> exact h2⟩
  sep i j x y n₁ n₂ b h1 h2 l1 l2 r1 r2 o1 o2 := by
    have hi : Own (handE ρ ps) (findH (numb 0 ps)) b := ⟨i, x, n₁, h1, l1, r1, o1⟩
    obtain ⟨_, c1, p1⟩ := numb_find ps 0 i x h1
    obtain ⟨_, c2, p2⟩ := numb_find ps 0 j y h2
    simp only [Nat.sub_zero] at p1 p2
    have key : ∀ {j c : Nat} {y : HB} {n : Nm}, ps[j]? = some (c, y) → handE ρ ps j = some n → n.owner = some b → ownP y = true ∧ ∃ hb', H c = some hb' ∧ hb'.live = true ∧ ∃ nm, ρ c = some nm ∧ nm.owner = some b := by
      intro j c y n hp hr ho
      have hok := hh.ok j c y hp
      simp only [handE, hp] at hr
      cases y with
      | cells T cs => exact ⟨rfl, _, hok, rfl, n, by simpa [isRo] using hr, ho⟩
      | map es k => exact ⟨rfl, _, hok, rfl, n, by simpa [isRo] using hr, ho⟩
      | ro size m get =>
        simp only [isRo, if_true] at hr
        cases hrc : ρ c with
        | none => rw [hrc] at hr; cases hr
        | some nm' =>
          rw [hrc] at hr
          simp only [Option.map_some, Option.some.injEq] at hr
          obtain ⟨nm2, hb2, e1, e2, e3⟩ := piece_some hm hok
          rw [hrc] at e1; cases e1
          rcases hok with ⟨get', hok, _⟩ | ⟨T, xs, hok, _⟩ | ⟨T, xs, hok, _⟩
          · rw [hok] at e2; cases e2
            cases nm' with
            | sl a n' c' z => subst hr; simp [toSl, Nm.owner] at ho
            | blk k => exact e3.elim
            | row _ _ _ _ => exact e3.elim
          · rw [hok] at e2; cases e2
            cases nm' with
            | sl a n' c' z => exact e3.elim
            | blk k => exact e3.elim
            | row k n' c' z => subst hr; simp [toSl, Nm.owner] at ho
          · rw [hok] at e2; cases e2
            cases nm' with
            | sl a n' c' z => subst hr; simp [toSl, Nm.owner] at ho
            | blk k => exact e3.elim
            | row k n' c' z => subst hr; simp [toSl, Nm.owner] at ho
      | dead => exact hok.elim
      | row _ _ _ _ => exact hok.elim
      | vec _ _ _ _ => exact hok.elim
      | mp _ => exact hok.elim
      | it _ _ _ _ => exact hok.elim
      | loop _ _ _ _ _ _ _ _ _ => exact hok.elim
      | dfr => exact hok.elim
      | fam size C =>
        simp only [isRo, Bool.false_eq_true, if_false] at hr
        obtain ⟨nm2, e1, e2⟩ := hm.ok _ _ hok
        rw [hr] at e1; cases e1
        cases n <;> simp only [HBok] at e2
        simp [Nm.owner] at ho
    obtain ⟨q1, hb1, f1, g1, m1, s1, t1⟩ := key p1 r1 o1
    obtain ⟨q2, hb2, f2, g2, m2, s2, t2⟩ := key p2 r2 o2
    have hc := hm.sep c1 c2 hb1 hb2 m1 m2 b f1 f2 g1 g2 s1 s2 t1 t2
    subst hc
    exact hh.inj i j c1 x y p1 p2 q1 q2
  ro id size n get nm b hf hn hr hb ho := by
    obtain ⟨_, c, h5⟩ := numb_find ps 0 id _ hf
    simp only [Nat.sub_zero] at h5
    have hp := hh.ok id c _ h5
    obtain ⟨j, c', x, hb', nm', p1, p2, p3, p4, p5, p6, p7⟩ := hand_own hm hh ho
    simp only [handE, h5, isRo, if_true] at hr
    rcases hp with ⟨get', hp, _⟩ | ⟨T, xs, hp, _⟩ | ⟨T, xs, hp, _⟩
    · obtain ⟨nm2, e1, e2⟩ := hm.ok _ _ hp
      rw [e1] at hr
      simp only [Option.map_some, Option.some.injEq] at hr
      cases nm2 <;> simp only [HBok] at e2
      simp only [toSl] at hr
      subst hr
      exact hm.ro c size n get' _ b hp hn e1 hb ⟨c', hb', nm', p3, p4, p5, p6⟩
    · obtain ⟨nm2, e1, e2⟩ := hm.ok _ _ hp
      rw [e1] at hr
      simp only [Option.map_some, Option.some.injEq] at hr
      cases nm2 <;> simp only [HBok] at e2
      simp only [toSl] at hr
      subst hr
      simp only [roBlock, Option.some.injEq] at hb
      subst hb
      have := hm.sep c c' _ hb' _ nm' _ hp p3 rfl p4 e1 p5 rfl p6
      subst this
      rw [hp] at p3; cases p3
      cases p7
    · obtain ⟨nm2, e1, e2⟩ := hm.ok _ _ hp
      rw [e1] at hr
      simp only [Option.map_some, Option.some.injEq] at hr
      cases nm2 <;> simp only [HBok] at e2
      · obtain ⟨rfl, rfl, rfl, rfl, rfl⟩ := e2
        omega
      simp only [toSl] at hr
      subst hr
      simp only [roBlock, Option.some.injEq] at hb
      subst hb
      have := hm.sep c c' _ hb' _ nm' _ hp p3 rfl p4 e1 p5 rfl p6
      subst this
      rw [hp] at p3; cases p3
      cases p7
  fam b hz ho := by
    obtain ⟨j, c', x, hb', nm', p1, p2, p3, p4, p5, p6, p7⟩ := hand_own hm hh ho
    refine hm.fam b (hz.mono fun id size C hf => ?_) ⟨c', hb', nm', p3, p4, p5, p6⟩
    obtain ⟨_, c, h5⟩ := numb_find ps 0 id _ hf
    simp only [Nat.sub_zero] at h5
    exact ⟨c, C, hh.ok id c _ h5, fun _ _ _ h => h⟩
end
end Go.X
end

section
set_option linter.unusedVariables false
set_option linter.unusedSimpArgs false
set_option linter.unusedSectionVars false
/- Contracts out of walks. -/
set_option linter.unusedVariables false
set_option linter.unusedSimpArgs false
namespace Go.X
open Go

def idxN : List Nat → Nat → Nat
  | [], _ => 0
  | x :: r, j => if Nat.beq x j then 0 else idxN r j + 1
def rOf (n : Nat) (ps : List (Nat × HB)) (K : List Nat) (fr j : Nat) : Nat :=
  match Nat.ble (j + 1) n with
  | true => sigP ps j
  | false => fr + idxN K j
/-- Ids of arguments, and of what is handed back. -/
def known (n : Nat) (K : List Nat) (j : Nat) : Prop := j < n ∨ j ∈ K
mutual
def knSV (n : Nat) (K : List Nat) : SV → Bool
  | .sp i _ => kn n K i
  | .se i _ _ => kn n K i
  | .sl i => kn n K i
  | .sm i => kn n K i
  | .fy i => kn n K i
  | .ss i _ _ _ => kn n K i
  | .agg l => knL n K l
  | .tup l => knL n K l
  | .fn _ a b => match knL n K a with
    | true => knL n K b
    | false => false
  | .ifc _ x => knSV n K x
  | .sv _ => true
  | .si _ _ => true
  | .sb _ => true
def knL (n : Nat) (K : List Nat) : List SV → Bool
  | [] => true
  | x :: r => match knSV n K x with
    | true => knL n K r
    | false => false
def kn (n : Nat) (K : List Nat) (j : Nat) : Bool :=
  match Nat.ble (j + 1) n with
  | true => true
  | false => memN K j
end
theorem kn_ok {n : Nat} {K : List Nat} {j : Nat} (h : kn n K j = true) : known n K j := by
  rw [kn] at h
  split at h
  · rename_i h1; exact .inl (Nat.le_of_ble_eq_true h1)
  · exact .inr (memN_iff.1 h)
mutual
theorem knSV_ok {n : Nat} {K : List Nat} : ∀ (x : SV), knSV n K x = true → InSV (known n K) x
  | .sp i _, h => kn_ok (by simpa [knSV] using h)
  | .se i _ _, h => kn_ok (by simpa [knSV] using h)
  | .sl i, h => kn_ok (by simpa [knSV] using h)
  | .sm i, h => kn_ok (by simpa [knSV] using h)
  | .fy i, h => kn_ok (by simpa [knSV] using h)
  | .ss i _ _ _, h => kn_ok (by simpa [knSV] using h)
  | .agg l, h => knL_ok l (by simpa [knSV] using h)
  | .tup l, h => knL_ok l (by simpa [knSV] using h)
  | .fn _ a b, h => by
    rw [knSV] at h
    split at h
    · rename_i e; exact ⟨knL_ok a e, knL_ok b h⟩
    · cases h
  | .ifc _ x, h => knSV_ok x (by simpa [knSV] using h)
  | .sv _, _ => trivial
  | .si _ _, _ => trivial
  | .sb _, _ => trivial
theorem knL_ok {n : Nat} {K : List Nat} : ∀ (l : List SV), knL n K l = true → InL (known n K) l
  | [], _ => trivial
  | x :: r, h => by
    rw [knL] at h
    split at h
    · rename_i e; exact ⟨knSV_ok x e, knL_ok r h⟩
    · cases h
end

/-- What a piece is handed back as. -/
def backHB (n : Nat) (K : List Nat) (r : Nat → Nat) : HB → HB → Prop
  | .cells T cs, hb => HBeq (.cells T (renL r cs)) hb ∧ knL n K cs = true
  | .row T s m xs, .row T' s' m' ys => HBeq (.row T s m (renL r xs)) (.row T' s' m' ys) ∧ knL n K xs = true
  | .row T s m xs, .ro s' m' g => s = s' ∧ m = m' ∧ ∀ i, i < m → renL r ((xs.drop (i * s)).take s) = g i ∧ knL n K ((xs.drop (i * s)).take s) = true
  | .vec T s m g', .ro s' m' g => s = s' ∧ m = m' ∧ ∀ i, i < m → renL r (g' i) = g i ∧ knL n K (g' i) = true
  | .vec T s m g', .vec T' s' m' g => T = T' ∧ s = s' ∧ m = m' ∧ ∀ i, i < m → renL r (g' i) = g i ∧ knL n K (g' i) = true
  | .map es c, .mp l => (es.map fun e => (e.1, e.2.1)).Perm l
  | .mp es, .mp l => es.Perm l
  | _, _ => False
/-- The pieces that are handed back. -/
def newsP (n : Nat) (K : List Nat) (r : Nat → Nat) (H' : List (Nat × HB)) : List Nat → Nat → List (Nat × HB) → Prop
  | [], _, [] => True
  | k :: ks, fr, (j, hb) :: l => j = fr ∧ (match findH H' k with
    | some h => backHB n K r h hb
    | none => False) ∧ newsP n K r H' ks (fr + 1) l
  | _, _, _ => False
/-- The pieces that were handed on are as they were. -/
def keepP (H' : List (Nat × HB)) : List (Nat × HB) → Prop
  | [] => True
  | (j, hb) :: r => (match ownP hb with
    | true => (match findH H' j with
      | some h => HBeq h hb
      | none => False)
    | false => True) ∧ keepP H' r

def okK (n : Nat) : List Nat → Bool
  | [] => true
  | k :: r => match Nat.ble n k, memN r k with
    | true, false => okK n r
    | _, _ => false
def shortK : List Nat → Bool
  | [] => true
  | [_] => true
  | [_, _] => true
  | [_, _, _] => true
  | [_, _, _, _] => true
  | _ => false

structure EndOk (ps : List (Nat × HB)) (K : List Nat) (fr : Nat) (out : COut) (v : SV) (st : St) : Prop where
  val : SVeq (renSV (rOf ps.length ps K fr) v) out.v
  vin : knSV ps.length K v = true
  news : newsP ps.length K (rOf ps.length ps K fr) st.H K fr out.news
  keep : keepP st.H (numb 0 ps)
  kge : okK ps.length K = true
  short : shortK K = true

theorem keepP_ok {H' : List (Nat × HB)} : ∀ {l : List (Nat × HB)}, keepP H' l → ∀ j hb, findH l j = some hb → ownP hb = true → findH H' j = some hb
  | [], _, j, hb, h, _ => by cases h
  | (i, x) :: r, hk, j, hb, h, ho => by
    simp only [keepP] at hk
    simp only [findH] at h
    split at h
    · rename_i e
      have : i = j := by simpa using e
      subst this; cases h
      have h1 := hk.1
      rw [ho] at h1
      simp only at h1
      split at h1
      · rename_i h' e'; rw [e', HBeq_eq h1]
      · exact h1.elim
    · exact keepP_ok hk.2 j hb h ho

theorem newsP_find {n : Nat} {K : List Nat} {r : Nat → Nat} {H' : List (Nat × HB)} : ∀ {ks : List Nat} {fr : Nat} {l : List (Nat × HB)}, newsP n K r H' ks fr l → ∀ id hb, findH l id = some hb →
    ∃ (i k : Nat) (h : HB), ks[i]? = some k ∧ id = fr + i ∧ findH H' k = some h ∧ backHB n K r h hb
  | [], fr, [], _, id, hb, h => by cases h
  | k :: ks, fr, (j, x) :: l, hp, id, hb, h => by
    obtain ⟨h1, h2, h3⟩ := hp
    simp only [findH] at h
    split at h
    · rename_i e
      have : j = id := by simpa using e
      subst this; cases h
      split at h2
      · rename_i h' e'
        exact ⟨0, k, h', by simp, by omega, e', h2⟩
      · exact h2.elim
    · obtain ⟨i, k', h', a1, a2, a3⟩ := newsP_find h3 id hb h
      exact ⟨i + 1, k', h', by simpa using a1, by omega, a3⟩
  | [], fr, _ :: _, hp, id, hb, h => hp.elim
  | _ :: _, fr, [], hp, id, hb, h => hp.elim
theorem newsP_mem {n : Nat} {K : List Nat} {r : Nat → Nat} {H' : List (Nat × HB)} : ∀ {ks : List Nat} {fr : Nat} {l : List (Nat × HB)}, newsP n K r H' ks fr l → ∀ (i k : Nat), ks[i]? = some k → ∃ hb h, (fr + i, hb) ∈ l ∧ findH H' k = some h
  | [], fr, [], _, i, k, h => by simp at h
  | k :: ks, fr, (j, x) :: l, hp, i, k', h => by
    obtain ⟨h1, h2, h3⟩ := hp
    subst h1
    cases i with
    | zero =>
      simp at h; subst h
      split at h2
      · rename_i h' e'
        exact ⟨x, h', by simp, e'⟩
      · exact h2.elim
    | succ i =>
      simp at h
      obtain ⟨hb, h', a1, a2⟩ := newsP_mem h3 i k' h
      exact ⟨hb, h', List.mem_cons_of_mem _ (by rw [show j + (i + 1) = j + 1 + i by omega]; exact a1), a2⟩
  | [], fr, _ :: _, hp, i, k, h => hp.elim
  | _ :: _, fr, [], hp, i, k, h => hp.elim

theorem okK_ge {n : Nat} : ∀ {K : List Nat}, okK n K = true → ∀ k ∈ K, n ≤ k
  | [], _, k, h => by cases h
  | x :: r, h, k, hk => by
    simp only [okK] at h
    split at h
    · rename_i h1 h2
      rcases List.mem_cons.1 hk with rfl | hk
      · exact Nat.le_of_ble_eq_true h1
      · exact okK_ge h k hk
    · cases h
theorem okK_nodup {n : Nat} : ∀ {K : List Nat}, okK n K = true → ∀ (i j k : Nat), K[i]? = some k → K[j]? = some k → i = j
  | [], _, i, j, k, h, _ => by simp at h
  | x :: r, h, i, j, k, hi, hj => by
    simp only [okK] at h
    split at h
    · rename_i h1 h2
      have hx : x ∉ r := fun hm => by rw [memN_iff.2 hm] at h2; cases h2
      cases i with
      | zero =>
        simp at hi; subst hi
        cases j with
        | zero => rfl
        | succ j => simp at hj; exact absurd (List.mem_of_getElem? hj) hx
      | succ i =>
        simp at hi
        cases j with
        | zero => simp at hj; subst hj; exact absurd (List.mem_of_getElem? hi) hx
        | succ j => simp at hj; rw [okK_nodup h i j k hi hj]
    · cases h
theorem idxN_ok : ∀ {K : List Nat} {j : Nat}, j ∈ K → K[idxN K j]? = some j
  | [], j, h => by cases h
  | x :: r, j, h => by
    simp only [idxN]
    split
    · rename_i e
      have : x = j := by simpa using e
      subst this; simp
    · rename_i e
      rcases List.mem_cons.1 h with rfl | h
      · simp at e
      · simpa using idxN_ok h
theorem shortK_ok {K : List Nat} (h : shortK K = true) : K.length ≤ 4 := by
  match K, h with
  | [], _ => simp
  | [_], _ => simp
  | [_, _], _ => simp
  | [_, _, _], _ => simp
  | [_, _, _, _], _ => simp
  | _ :: _ :: _ :: _ :: _ :: _, h => cases h

def isRoO : Option HB → Bool
  | some hb => isRo hb
  | none => false
def backN (hb : HB) (nm : Nm) : Nm := if isRo hb then toSl nm else nm

theorem back_live {n : Nat} {K : List Nat} {r : Nat → Nat} {h hb : HB} (k : backHB n K r h hb) : h.live = true := by
  cases h <;> first | rfl | exact k.elim
theorem back_ok {ρ ρ' : Env} {w : World} {n : Nat} {K : List Nat} {r : Nat → Nat} {h hb : HB} {nm : Nm} (hs : Sim ρ ρ' r (known n K)) (k : backHB n K r h hb) (ho : HBok ρ w h nm) : HBok ρ' w hb (backN hb nm) := by
  cases h with
  | cells T cs =>
    obtain ⟨k1, k2⟩ := k
    rw [← HBeq_eq k1]
    cases nm <;> simp only [HBok] at ho
    obtain ⟨vs, d1, d2⟩ := ho
    exact ⟨vs, by rw [denL_ren hs _ (knL_ok _ k2)]; exact d1, d2⟩
  | row T s m xs =>
    cases nm <;> simp only [HBok] at ho
    rename_i nb n' c' s'
    obtain ⟨e1, e2, e3, vs, rest, d1, d2, d3, d4, d5⟩ := ho
    cases hb with
    | row T' s2 m' ys =>
      obtain ⟨k1, k2⟩ := k
      have := HBeq_eq k1
      cases this
      exact ⟨e1, e2, e3, vs, rest, by rw [denL_ren hs _ (knL_ok _ k2)]; exact d1, d2, d3, d4, d5⟩
    | ro s2 m' g =>
      obtain ⟨rfl, rfl, k3⟩ := k
      refine ⟨e1, e2, e3.1, fun hn => ?_⟩
      have hlt : nb < w.heap.size := by
        rcases Nat.lt_or_ge nb w.heap.size with h | h
        · exact h
        · rw [Array.getElem?_eq_none h] at d5; cases d5
      refine ⟨⟨nb, 0, none⟩, rfl, hlt, fun i hin => ?_⟩
      obtain ⟨k4, k5⟩ := k3 i hin
      have hd := denL_getL d1 (i * s) s
      have hle : i * s + s ≤ m * s := by
        have : (i + 1) * s ≤ m * s := Nat.mul_le_mul_right _ hin
        rw [Nat.add_mul] at this; omega
      refine ⟨_, by rw [← k4, denL_ren hs _ (knL_ok _ k5)]; exact hd, ?_, by simp; omega, fun j v hv => ?_⟩
      · rw [List.all_eq_true] at d2 ⊢
        intro x hx'
        exact d2 x (List.mem_of_mem_drop (List.mem_of_mem_take hx'))
      · rw [List.getElem?_take] at hv
        split at hv
        · rename_i hj
          rw [List.getElem?_drop] at hv
          rw [add_zero_mk]
          simp only [World.cell?, d5]
          simp only [List.getElem?_toArray]
          rw [List.getElem?_append_left (by have := lt_of_get hv; omega)]
          exact hv
        · cases hv
    | _ => exact k.elim
  | vec T s m g' =>
    cases nm <;> simp only [HBok] at ho
    · obtain ⟨rfl, rfl, rfl, rfl, rfl⟩ := ho
      cases hb with
      | ro s2 m' g =>
        obtain ⟨rfl, rfl, k3⟩ := k
        exact ⟨rfl, rfl, Nat.le_refl _, fun h => by omega⟩
      | vec T' s2 m' g =>
        obtain ⟨rfl, rfl, rfl, k3⟩ := k
        exact ⟨rfl, rfl, rfl, rfl, rfl⟩
      | _ => exact k.elim
    rename_i nb n' c' s'
    obtain ⟨e1, e2, e3, cells, d5, d6, d7⟩ := ho
    cases hb with
    | ro s2 m' g =>
      obtain ⟨rfl, rfl, k3⟩ := k
      refine ⟨e1, e2, e3.1, fun hn => ?_⟩
      have hlt : nb < w.heap.size := by
        rcases Nat.lt_or_ge nb w.heap.size with h | h
        · exact h
        · rw [Array.getElem?_eq_none h] at d5; cases d5
      refine ⟨⟨nb, 0, none⟩, rfl, hlt, fun i hin => ?_⟩
      obtain ⟨k4, k5⟩ := k3 i hin
      obtain ⟨vs, c1, c2, c3, c4⟩ := d7 i hin
      refine ⟨vs, by rw [← k4, denL_ren hs _ (knL_ok _ k5)]; exact c1, c2, c3, fun j v hv => ?_⟩
      rw [add_zero_mk]
      simp only [World.cell?, d5]
      simp only [List.getElem?_toArray]
      exact c4 j v hv
    | vec T' s2 m' g =>
      obtain ⟨rfl, rfl, rfl, k3⟩ := k
      refine ⟨e1, e2, e3, cells, d5, d6, fun i hin => ?_⟩
      obtain ⟨k4, k5⟩ := k3 i hin
      obtain ⟨vs, c1, c2, c3, c4⟩ := d7 i hin
      exact ⟨vs, by rw [← k4, denL_ren hs _ (knL_ok _ k5)]; exact c1, c2, c3, c4⟩
    | _ => exact k.elim
  | map es c =>
    cases nm <;> simp only [HBok] at ho
    cases hb with
    | mp l => exact ⟨es, c, ho, k⟩
    | _ => exact k.elim
  | mp es =>
    cases nm <;> simp only [HBok] at ho
    cases hb with
    | mp l =>
      obtain ⟨ses, c, h1, h2⟩ := ho
      exact ⟨ses, c, h1, h2.trans k⟩
    | _ => exact k.elim
  | _ => exact k.elim
theorem back_own {ρ : Env} {w : World} {n : Nat} {K : List Nat} {r : Nat → Nat} {h hb : HB} {nm : Nm} {b : Nat} (k : backHB n K r h hb) (ho : HBok ρ w h nm) (o : (backN hb nm).owner = some b) : nm.owner = some b ∧ isRo hb = false := by
  cases hb with
  | ro s m g =>
    exfalso
    simp only [backN, isRo, if_true] at o
    cases h with
    | cells T cs => cases k.1
    | row T s m xs => cases nm <;> simp only [HBok] at ho; simp [toSl, Nm.owner] at o
    | vec T s m xs => cases nm <;> simp only [HBok] at ho <;> simp [toSl, Nm.owner] at o
    | _ => exact k.elim
  | _ => exact ⟨o, rfl⟩
theorem back_ro {ρ : Env} {w : World} {n : Nat} {K : List Nat} {r : Nat → Nat} {h : HB} {s m : Nat} {g : Nat → List SV} {nm : Nm} {b : Nat} (k : backHB n K r h (.ro s m g)) (ho : HBok ρ w h nm) (o : roBlock (backN (.ro s m g) nm) = some b) : nm.owner = some b := by
  simp only [backN, isRo, if_true] at o
  cases h with
  | cells T cs => cases k.1
  | row T s m xs => cases nm <;> simp only [HBok] at ho; simpa [toSl, roBlock, Nm.owner] using o
  | vec T s m xs =>
    cases nm <;> simp only [HBok] at ho
    · obtain ⟨rfl, _⟩ := ho
      simp [toSl, roBlock] at o
    · simpa [toSl, roBlock, Nm.owner] using o
  | _ => exact k.elim

theorem back_fam {n : Nat} {K : List Nat} {r : Nat → Nat} {h : HB} {s : Nat} {C : Value → Nat → (Nat → List SV) → Prop} (k : backHB n K r h (.fam s C)) : False := by
  cases h with
  | cells T cs => have := HBeq_eq k.1; cases this
  | row T s m xs => exact k.elim
  | vec T s m xs => exact k.elim
  | map es c => exact k.elim
  | mp es => exact k.elim
  | _ => exact k.elim
/-- What a contract rests on. -/
def Walk (P : Program) (T : Tab) (C : Nat → Option Ct) (fn : Func) (c : Code) (H : LH) (args : List SV) (fr : Nat) (out : COut) : Prop :=
  ∃ (ps : List (Nat × HB)) (args₀ : List SV) (H₀ : List (Nat × HB)) (n₀ : Nat) (K : List Nat), args = renL (sigP ps) args₀ ∧ knL ps.length [] args₀ = true ∧ args₀.length ≤ fn.ntmps ∧ Hand H ps ∧ H₀ = numb 0 ps ∧ n₀ = ps.length ∧
    ∀ G : Base, (∀ j, n₀ ≤ j → G.ρ j = none) → exec ⟨P, T, C, G, none, fn.ntmps⟩ c (start args₀ H₀ n₀) (Fin ⟨P, T, C, G, none, fn.ntmps⟩ fn.results.toList
      (fun v st => (out.pan = none ∨ ∃ ch, out.pan = some (false, ch)) ∧ EndOk ps K fr out v st) (fun ch st => out.pan = some (true, ch) ∧ keepP st.H H₀))

/-- What a contract rests on: the walk, as calls. -/
def WalkC (P : Program) (T : Tab) (C : Nat → Option Ct) (f : Nat) (nt : Nat) (H : LH) (args : List SV) (fr : Nat) (out : COut) : Prop :=
  ∃ (ps : List (Nat × HB)) (args₀ : List SV) (H₀ : List (Nat × HB)) (n₀ : Nat) (K : List Nat), args = renL (sigP ps) args₀ ∧ knL ps.length [] args₀ = true ∧ args₀.length ≤ nt ∧ Hand H ps ∧ H₀ = numb 0 ps ∧ n₀ = ps.length ∧
    ∀ (ρ : Env) (w : World) (vals : List Value), denL ρ args₀ = some vals → HM ρ (findH H₀) w → (∀ j, n₀ ≤ j → ρ j = none) → Calls P f vals.toArray w (CEnd ⟨P, T, C, ⟨w, Own ρ (findH H₀), ρ, Fz (findH H₀)⟩, none, nt⟩
      (fun v st => (out.pan = none ∨ ∃ ch, out.pan = some (false, ch)) ∧ EndOk ps K fr out v st) (fun ch st => out.pan = some (true, ch) ∧ keepP st.H H₀))

theorem cokC {P : Program} {T : Tab} {C : Nat → Option Ct} {f nt : Nat} {ct : Ct}
    (h : ∀ fr args H out, ct fr args H = some out → PreH out.pre → WalkC P T C f nt H args fr out) : COk P f ct := by
  intro ρ H w fr args vals out hm hfr hd hct hpre
  obtain ⟨ps, args₀, H₀, n₀, K, rfl, hin, hlen, hh, rfl, rfl, hex⟩ := h fr args H out hct hpre
  have hsim := hand_sim hm hh
  have hin' : InL (fun i => i < ps.length) args₀ := InL.mono (fun j hj => by rcases hj with h | h; exact h; cases h) _ (knL_ok _ hin)
  have hd₀ : denL (handE ρ ps) args₀ = some vals := by rw [← denL_ren hsim _ hin']; exact hd
  have hm₀ := hand_hm hm hh
  have hnx : ∀ j, ps.length ≤ j → handE ρ ps j = none := fun j hj => by simp only [handE]; rw [List.getElem?_eq_none hj]
  have hcall := hex (handE ρ ps) w vals hd₀ hm₀ hnx
  refine hcall.mono ?_
  rintro e w' hend
  -- what was there is as it was
  have hsame : ∀ {st : St} {ρe : Env}, MH ⟨P, T, C, ⟨w, Own (handE ρ ps) (findH (numb 0 ps)), handE ρ ps, Fz (findH (numb 0 ps))⟩, none, nt⟩ ρe st w' → keepP st.H (numb 0 ps) → ∀ b, b < w.heap.size → w'.heap[b]? = w.heap[b]? := by
    intro st ρe hmh hk b hb
    rcases Classical.em (Own (handE ρ ps) (findH (numb 0 ps)) b) with ho | ho
    · obtain ⟨id, x, nm, h1, h2, h3, h4⟩ := ho
      obtain ⟨j, c', y, hb', nm', q1, q2, _⟩ := hand_own hm hh ⟨id, x, nm, h1, h2, h3, h4⟩
      obtain ⟨nm₁, g1, g2⟩ := hm₀.ok id x h1
      rw [h3] at g1; cases g1
      have hown : ownP x = true := by
        cases x with
        | cells T cs => rfl
        | map es k => rfl
        | dead => cases h2
        | ro size n get => cases nm <;> simp only [HBok] at g2; simp [Nm.owner] at h4
        | fam size C => cases nm <;> simp only [HBok] at g2; simp [Nm.owner] at h4
        | _ =>
          obtain ⟨_, c2, p2⟩ := numb_find ps 0 id _ h1
          exact (hh.ok _ c2 _ p2).elim
      have h5 := keepP_ok hk id x h1 hown
      obtain ⟨nm₂, k1, k2⟩ := hmh.hm.ok id x h5
      have := hmh.kp.ext id nm h3
      rw [this] at k1; cases k1
      cases x with
      | cells T cs =>
        cases nm <;> simp only [HBok] at g2 k2
        simp only [Nm.owner] at h4; cases h4
        obtain ⟨vs, d1, _, d2⟩ := g2
        obtain ⟨vs', e1, _, e2⟩ := k2
        rw [denL_ext hmh.kp.ext _ _ d1] at e1; cases e1
        rw [d2, e2]
      | map es k =>
        cases nm <;> simp only [HBok] at g2 k2
        simp only [Nm.owner] at h4; cases h4
        obtain ⟨ms, m1, m2, _⟩ := g2
        obtain ⟨ms', m1', m2', _⟩ := k2
        rw [m1] at m1'; cases m1'
        rw [m2, m2']
      | dead => cases h2
      | _ => cases hown
    · exact hmh.kp.same b hb ho
  rcases hend with ⟨v, st, ρe, u, rfl, hv, hmh, hpan, hE⟩ | ⟨ch, st, ρe, rfl, hmh, hpan, hk⟩
  · have hsm := hsame hmh hE.keep
    have hsz : w.heap.size ≤ w'.heap.size := hmh.kp.size
    let ρ' : Env := fun j => if fr ≤ j ∧ j < fr + 4 then (match K[j - fr]? with
      | some k => if isRoO (findH out.news j) then (ρe k).map toSl else ρe k
      | none => none) else ρ j
    have hρo : ∀ j nm, ρ j = some nm → ρ' j = some nm := by
      intro j nm hj
      show (if fr ≤ j ∧ j < fr + 4 then _ else ρ j) = some nm
      rw [if_neg]
      · exact hj
      · rintro ⟨a, b⟩; rw [hfr j a b] at hj; cases hj
    have hKl := shortK_ok hE.short
    have hρn : ∀ i k, K[i]? = some k → ρ' (fr + i) = if isRoO (findH out.news (fr + i)) then (ρe k).map toSl else ρe k := by
      intro i k hk
      show (if fr ≤ fr + i ∧ fr + i < fr + 4 then _ else ρ (fr + i)) = _
      have := lt_of_get hk
      rw [if_pos ⟨by omega, by omega⟩, show fr + i - fr = i by omega, hk]
    have hrK : ∀ j, ¬ j < ps.length → rOf ps.length ps K fr j = fr + idxN K j := by
      intro j hj
      simp only [rOf]
      split
      · rename_i hb; exact absurd (Nat.le_of_ble_eq_true hb) hj
      · rfl
    have hrp : ∀ j, j < ps.length → rOf ps.length ps K fr j = sigP ps j := by
      intro j hj
      simp only [rOf]
      split
      · rfl
      · rename_i hb; rw [Nat.ble_eq_true_of_le hj] at hb; cases hb
    have hsim' : Sim ρe ρ' (rOf ps.length ps K fr) (known ps.length K) := by
      intro j hj
      rcases Classical.em (j < ps.length) with hlt | hge
      · obtain ⟨nm, nm', h1, h2, h3⟩ := hsim j hlt
        refine ⟨nm, nm', hmh.kp.ext _ _ h1, ?_, h3⟩
        rw [hrp j hlt]
        exact hρo _ _ h2
      · rcases hj with hj | hj
        · exact absurd hj hge
        · have hk := idxN_ok hj
          obtain ⟨_, h', _, hf'⟩ := newsP_mem hE.news _ _ hk
          obtain ⟨nm, h1, _⟩ := hmh.hm.ok _ _ hf'
          rw [hrK j hge, hρn _ _ hk]
          split
          · refine ⟨nm, toSl nm, h1, by rw [h1]; rfl, ?_⟩
            cases nm with
            | row k n c z => exact .inr (.inr ⟨k, n, c, z, rfl, rfl⟩)
            | blk n => exact .inl rfl
            | sl a n c z => exact .inl rfl
          · exact ⟨nm, nm, h1, h1, .inl rfl⟩
    have hnew : ∀ id hb, findH out.news id = some hb → ∃ (i k : Nat) (h' : HB) (nm : Nm), K[i]? = some k ∧ id = fr + i ∧ findH st.H k = some h' ∧ backHB ps.length K (rOf ps.length ps K fr) h' hb ∧ ρe k = some nm ∧ HBok ρe w' h' nm ∧ ρ' id = some (backN hb nm) := by
      intro id hb hf
      obtain ⟨i, k, h', a1, a2, a3, a4⟩ := newsP_find hE.news id hb hf
      obtain ⟨nm, b1, b2⟩ := hmh.hm.ok _ _ a3
      refine ⟨i, k, h', nm, a1, a2, a3, a4, b1, b2, ?_⟩
      subst a2
      rw [hρn i k a1, hf, b1]
      by_cases hro : isRo hb = true
      · simp [isRoO, backN, hro]
      · simp [isRoO, backN, hro]
    have hnewown : ∀ k h' nm b, findH st.H k = some h' → k ∈ K → h'.live = true → ρe k = some nm → nm.owner = some b → w.heap.size ≤ b := by
      intro k h' nm b h1 h2 h3 h4 h5
      rcases hmh.kp.own b ⟨k, h', nm, h1, h3, h4, h5⟩ with ho | ho
      · exfalso
        obtain ⟨id, x, nm', q1, q2, q3, q4⟩ := ho
        have hidlt : id < ps.length := by
          obtain ⟨_, c2, p2⟩ := numb_find ps 0 id _ q1
          simp only [Nat.sub_zero] at p2
          exact lt_of_get p2
        obtain ⟨j, c', y, hb', nm'', r1, r2, r3, r4, r5, r6, r7⟩ := hand_own hm hh ⟨id, x, nm', q1, q2, q3, q4⟩
        have hown : ownP x = true := by
          obtain ⟨nm₁, g1, g2⟩ := hm₀.ok id x q1
          rw [q3] at g1; cases g1
          cases x with
          | cells T cs => rfl
          | map es k => rfl
          | dead => cases q2
          | ro size n get => cases nm' <;> simp only [HBok] at g2; simp [Nm.owner] at q4
          | fam size C => cases nm' <;> simp only [HBok] at g2; simp [Nm.owner] at q4
          | _ =>
            obtain ⟨_, c2, p2⟩ := numb_find ps 0 id _ q1
            exact (hh.ok _ c2 _ p2).elim
        have hst := keepP_ok hE.keep id x q1 hown
        have := hmh.hm.sep k id h' x nm nm' b h1 hst h3 q2 h4 (hmh.kp.ext _ _ q3) h5 q4
        have := okK_ge hE.kge k h2
        omega
      · exact ho
    have hfz : ∀ b, Fz (newsL out.news H) b → Fz H b := fun b hz => hz.sub fun id size C f1 => by
      rw [newsL_eq] at f1
      cases g1 : findH out.news id with
      | some x1 =>
        rw [g1] at f1; cases f1
        obtain ⟨i, k, h', n1, a1, rfl, a3, a5, a6, a7, a8⟩ := hnew id _ g1
        exact (back_fam a5).elim
      | none => rw [g1] at f1; exact f1
    have hEnd : CallEnd ρ H fr w out u w' ρ' := {
      fz := hfz
      str := hmh.kp.str
      ext := hρo
      fresh := fun j hj => by
        have hin : fr ≤ j ∧ j < fr + 4 := by
          rcases Classical.em (fr ≤ j ∧ j < fr + 4) with h | h
          · exact h
          · exact absurd (show ρ' j = ρ j from if_neg h) hj
        refine ⟨hin.1, hin.2, ?_⟩
        cases hk : K[j - fr]? with
        | none =>
          exfalso; apply hj
          show (if fr ≤ j ∧ j < fr + 4 then _ else ρ j) = ρ j
          rw [if_pos hin, hk, hfr j hin.1 hin.2]
        | some k =>
          obtain ⟨hb, _, hm1, _⟩ := newsP_mem hE.news _ _ hk
          rw [show fr + (j - fr) = j by omega] at hm1
          exact ⟨hb, hm1⟩
      den := by
        rw [← SVeq_eq _ _ hE.val, den_ren hsim' _ (knSV_ok _ hE.vin)]
        exact hv
      hm := {
        ok := fun id hb hf => by
          rw [newsL_eq] at hf
          cases hfn : findH out.news id with
          | none =>
            rw [hfn] at hf
            obtain ⟨nm, h1, h2⟩ := (hm.world hsz hsm).ok id hb hf
            exact ⟨nm, hρo _ _ h1, HBok_ext hρo h2⟩
          | some hb' =>
            rw [hfn] at hf; cases hf
            obtain ⟨i, k, h', nm, a1, rfl, a3, a5, a6, a7, a8⟩ := hnew id hb hfn
            exact ⟨_, a8, back_ok hsim' a5 a7⟩
        sep := fun id id' hb hb' nm nm' b f1 f2 l1 l2 r1 r2 o1 o2 => by
          rw [newsL_eq] at f1 f2
          cases g1 : findH out.news id with
          | some x1 =>
            rw [g1] at f1; cases f1
            obtain ⟨i, k, h', n1, a1, rfl, a3, a5, a6, a7, a8⟩ := hnew id _ g1
            rw [a8] at r1; cases r1
            obtain ⟨o1, ho1⟩ := back_own a5 a7 o1
            cases g2 : findH out.news id' with
            | some x2 =>
              rw [g2] at f2; cases f2
              obtain ⟨i', k', h'', n2, b1, rfl, b3, b5, b6, b7, b8⟩ := hnew id' _ g2
              rw [b8] at r2; cases r2
              obtain ⟨o2, ho2⟩ := back_own b5 b7 o2
              have := hmh.hm.sep k k' h' h'' _ _ b a3 b3 (back_live a5) (back_live b5) a6 b6 o1 o2
              subst this
              rw [okK_nodup hE.kge i i' k a1 b1]
            | none =>
              rw [g2] at f2
              obtain ⟨nm2, c1, c2⟩ := hm.ok _ _ f2
              rw [hρo _ _ c1] at r2; cases r2
              have := hm.lt ⟨id', hb', _, f2, l2, c1, o2⟩
              have := hnewown k h' _ b a3 (List.mem_of_getElem? a1) (back_live a5) a6 o1
              omega
          | none =>
            rw [g1] at f1
            obtain ⟨nm1, c1, c2⟩ := hm.ok _ _ f1
            rw [hρo _ _ c1] at r1; cases r1
            cases g2 : findH out.news id' with
            | some x2 =>
              rw [g2] at f2; cases f2
              obtain ⟨i', k', h'', n2, b1, rfl, b3, b5, b6, b7, b8⟩ := hnew id' _ g2
              rw [b8] at r2; cases r2
              obtain ⟨o2, ho2⟩ := back_own b5 b7 o2
              have := hm.lt ⟨id, hb, _, f1, l1, c1, o1⟩
              have := hnewown k' h'' _ b b3 (List.mem_of_getElem? b1) (back_live b5) b6 o2
              omega
            | none =>
              rw [g2] at f2
              obtain ⟨nm2, d1, d2⟩ := hm.ok _ _ f2
              rw [hρo _ _ d1] at r2; cases r2
              exact hm.sep id id' hb hb' _ _ b f1 f2 l1 l2 c1 d1 o1 o2
        ro := fun id size n get nm b f1 hn r1 hrb ho => by
          rw [newsL_eq] at f1
          cases g1 : findH out.news id with
          | some x1 =>
            rw [g1] at f1; cases f1
            obtain ⟨i, k, h', n1, a1, rfl, a3, a5, a6, a7, a8⟩ := hnew id _ g1
            rw [a8] at r1; cases r1
            have hob := back_ro a5 a7 hrb
            obtain ⟨id', hb', nm', p1, p2, p3, p4⟩ := ho
            rw [newsL_eq] at p1
            cases g2 : findH out.news id' with
            | some x2 =>
              rw [g2] at p1; cases p1
              obtain ⟨i', k', h'', n2, b1, rfl, b3, b5, b6, b7, b8⟩ := hnew id' _ g2
              rw [b8] at p3; cases p3
              obtain ⟨o2, ho2⟩ := back_own b5 b7 p4
              have := hmh.hm.sep k k' h' h'' _ _ b a3 b3 (back_live a5) (back_live b5) a6 b6 hob o2
              subst this
              have := okK_nodup hE.kge i i' k a1 b1
              subst this
              rw [g1] at g2; cases g2
              cases ho2
            | none =>
              rw [g2] at p1
              obtain ⟨nm2, d1, d2⟩ := hm.ok _ _ p1
              rw [hρo _ _ d1] at p3; cases p3
              have := hm.lt ⟨id', hb', _, p1, p2, d1, p4⟩
              have := hnewown k h' _ b a3 (List.mem_of_getElem? a1) (back_live a5) a6 hob
              omega
          | none =>
            rw [g1] at f1
            obtain ⟨nm1, c1, c2⟩ := hm.ok _ _ f1
            rw [hρo _ _ c1] at r1; cases r1
            have hblt : b < w.heap.size := by
              cases nm <;> simp only [HBok] at c2
              obtain ⟨_, _, _, e3⟩ := c2
              obtain ⟨ad, e4, e5, _⟩ := e3 hn
              subst e4
              simp only [roBlock, Option.some.injEq] at hrb
              omega
            obtain ⟨id', hb', nm', p1, p2, p3, p4⟩ := ho
            rw [newsL_eq] at p1
            cases g2 : findH out.news id' with
            | some x2 =>
              rw [g2] at p1; cases p1
              obtain ⟨i', k', h'', n2, b1, rfl, b3, b5, b6, b7, b8⟩ := hnew id' _ g2
              rw [b8] at p3; cases p3
              obtain ⟨o2, ho2⟩ := back_own b5 b7 p4
              have := hnewown k' h'' _ b b3 (List.mem_of_getElem? b1) (back_live b5) b6 o2
              omega
            | none =>
              rw [g2] at p1
              obtain ⟨nm2, d1, d2⟩ := hm.ok _ _ p1
              rw [hρo _ _ d1] at p3; cases p3
              exact hm.ro id size n get _ b f1 hn c1 hrb ⟨id', hb', _, p1, p2, d1, p4⟩
        fam := fun b hz ho => by
            have hz := hfz b hz
            have hblt := hm.fz_lt hz
            obtain ⟨id', hb', nm', p1, p2, p3, p4⟩ := ho
            rw [newsL_eq] at p1
            cases g2 : findH out.news id' with
            | some x2 =>
              rw [g2] at p1; cases p1
              obtain ⟨i', k', h'', n2, b1, rfl, b3, b5, b6, b7, b8⟩ := hnew id' _ g2
              rw [b8] at p3; cases p3
              obtain ⟨o2, ho2⟩ := back_own b5 b7 p4
              have := hnewown k' h'' _ b b3 (List.mem_of_getElem? b1) (back_live b5) b6 o2
              omega
            | none =>
              rw [g2] at p1
              obtain ⟨nm2, d1, d2⟩ := hm.ok _ _ p1
              rw [hρo _ _ d1] at p3; cases p3
              exact hm.fam b hz ⟨id', hb', _, p1, p2, d1, p4⟩ }
      own := fun b ho => by
        obtain ⟨id', hb', nm', p1, p2, p3, p4⟩ := ho
        rw [newsL_eq] at p1
        cases g2 : findH out.news id' with
        | some x2 =>
          rw [g2] at p1; cases p1
          obtain ⟨i', k', h'', n2, b1, rfl, b3, b5, b6, b7, b8⟩ := hnew id' _ g2
          rw [b8] at p3; cases p3
          obtain ⟨o2, ho2⟩ := back_own b5 b7 p4
          exact .inr (hnewown k' h'' _ b b3 (List.mem_of_getElem? b1) (back_live b5) b6 o2)
        | none =>
          rw [g2] at p1
          obtain ⟨nm2, d1, d2⟩ := hm.ok _ _ p1
          rw [hρo _ _ d1] at p3; cases p3
          exact .inl ⟨id', hb', _, p1, p2, d1, p4⟩
      size := hsz
      same := hsm }
    unfold CPost
    rcases hpan with hp | ⟨ch, hp⟩
    · rw [hp]; exact ⟨ρ', u, rfl, hEnd⟩
    · rw [hp]; exact .inr ⟨rfl, ρ', u, rfl, hEnd⟩
  · unfold CPost
    rw [hpan]
    exact .inl ⟨rfl, rfl, hmh.kp.size, hsame hmh hk, hmh.kp.str⟩

theorem Walk.calls {P : Program} {T : Tab} {C : Nat → Option Ct} (hX : ∀ G r nt, (⟨P, T, C, G, r, nt⟩ : Cx).Ok) {f : Nat} {fn : Func} {c : Code} (hf : P.funcs[f]? = some fn) (hb : fn.body = some c) {H : LH} {args : List SV} {fr : Nat} {out : COut}
    (h : Walk P T C fn c H args fr out) : WalkC P T C f fn.ntmps H args fr out := by
  obtain ⟨ps, args₀, H₀, n₀, K, h1, h2, h3, h4, h5, h6, hex⟩ := h
  refine ⟨ps, args₀, H₀, n₀, K, h1, h2, h3, h4, h5, h6, fun ρ w vals hd hm hnx => ?_⟩
  exact calls_of_exec (X := ⟨P, T, C, ⟨w, Own ρ (findH H₀), ρ, Fz (findH H₀)⟩, none, fn.ntmps⟩) (hX _ _ _) rfl hf hb rfl hd h3 hm rfl hnx (hex _ hnx)

theorem cok {P : Program} {T : Tab} {C : Nat → Option Ct} (hX : ∀ G r nt, (⟨P, T, C, G, r, nt⟩ : Cx).Ok) {f : Nat} {fn : Func} {c : Code} (hf : P.funcs[f]? = some fn) (hb : fn.body = some c) {ct : Ct}
    (h : ∀ fr args H out, ct fr args H = some out → PreH out.pre → Walk P T C fn c H args fr out) : COk P f ct :=
  cokC fun fr args H out h1 h2 => (h fr args H out h1 h2).calls hX hf hb

end Go.X
end

section
set_option linter.unusedVariables false
set_option linter.unusedSimpArgs false
set_option linter.unusedSectionVars false
/- Tables of contracts; calls that are run through in place. -/
set_option linter.unusedVariables false
set_option linter.unusedSimpArgs false
namespace Go.X
open Go

def tabC : List (Nat × Ct) → Nat → Option Ct
  | [], _ => none
  | (f, ct) :: r, n => match Nat.beq n f with
    | true => some ct
    | false => tabC r n

def Body (P : Program) (f : Nat) : Prop := ∀ args w, (callFunc f args).run P w = .ok (.enter f args) w

theorem body_of {P : Program} {f : Nat} {fn : Func} {c : Code} (hf : P.funcs[f]? = some fn) (hb : fn.body = some c) (hn : (fn.name == "runtime.NumGoroutine") = false) : Body P f := by
  intro args w
  have hn' : ¬ fn.name = "runtime.NumGoroutine" := by simpa using hn
  simp [callFunc, hf, hb, hn']

structure Good (P : Program) (T : Tab) (l : List (Nat × Ct)) : Prop where
  tab : TabOk P T
  all : ∀ p ∈ l, COk P p.1 p.2 ∧ CtMono p.2 ∧ Body P p.1

theorem tabC_mem : ∀ {l : List (Nat × Ct)} {f : Nat} {ct : Ct}, tabC l f = some ct → (f, ct) ∈ l
  | (g, x) :: r, f, ct, h => by
    simp only [tabC] at h
    split at h
    · rename_i e
      have : f = g := by simpa using e
      subst this; cases h
      exact List.mem_cons_self
    · exact List.mem_cons_of_mem _ (tabC_mem h)

theorem Good.ok {P : Program} {T : Tab} {l : List (Nat × Ct)} (h : Good P T l) (G : Base) (r : Option Nat) (nt : Nat) : (⟨P, T, tabC l, G, r, nt⟩ : Cx).Ok where
  tab := h.tab
  mono f ct hf := (h.all _ (tabC_mem hf)).2.1
  calls f ct hf := (h.all _ (tabC_mem hf)).1
  bodies f ct hf := (h.all _ (tabC_mem hf)).2.2

theorem Good.add {P : Program} {T : Tab} {l : List (Nat × Ct)} (h : Good P T l) {f : Nat} {ct : Ct} (h1 : COk P f ct) (h2 : CtMono ct) (h3 : Body P f) : Good P T ((f, ct) :: l) where
  tab := h.tab
  all p hp := by
    rcases List.mem_cons.1 hp with rfl | hp
    · exact ⟨h1, h2, h3⟩
    · exact h.all p hp

/-- A function whose arguments and results hold no ids: what its contract is. -/
def plainCt (k : List SV → Option COut) : Ct := fun _ args _ => k args
theorem plainCt_mono (k : List SV → Option COut) : CtMono (plainCt k) := fun _ _ _ _ _ _ h => h

/-! ### Calls that are run through in place -/

section
variable {X : Cx} {ρ : Env} {st : St} {a : Act} {w : World}

def putSt (st : St) (d : Option Nat) (v : SV) (H : List (Nat × HB)) (nx : Nat) (K : St → Prop) : Prop :=
  match d with
  | some d => K ⟨(d, ⟨[], v⟩) :: st.F, st.gs, H, nx, st.D⟩
  | none => K ⟨st.F, st.gs, H, nx, st.D⟩

/-- Which function is called, with which arguments. -/
def resK (st : St) (c : Call) (K : Nat → List SV → Prop) : Prop :=
  match c.callee with
  | .value f => (match ev (findF st.F) [] f, argsOf (findF st.F) [] c.args.toList with
    | some (.fn (.func n) first caps), some l => fSVL (first ++ (l ++ caps)) fun l' => K n l'
    | _, _ => False)
  | _ => False

/-- What a call does, from every world that a state describes. -/
def CallS (P : Program) (n : Nat) (l : List SV) (H : List (Nat × HB)) (nx : Nat) (Rv : SV → List (Nat × HB) → Nat → Prop) (Rp : List PanicEntry → List (Nat × HB) → Nat → Prop) : Prop :=
  ∀ ρ w vals, HM ρ (findH H) w → (∀ j, nx ≤ j → ρ j = none) → denL ρ l = some vals → Calls P n vals.toArray w fun e w' =>
    (∃ v H' nx' ρ' u, e = .returned u ∧ den ρ' v = some u ∧ HM ρ' (findH H') w' ∧ Keep ⟨w, Own ρ (findH H), ρ, Fz (findH H)⟩ ρ' (findH H') w' ∧ (∀ j, nx' ≤ j → ρ' j = none) ∧ Rv v H' nx') ∨
    (∃ ch H' nx' ρ', e = .panicked ch ∧ HM ρ' (findH H') w' ∧ Keep ⟨w, Own ρ (findH H), ρ, Fz (findH H)⟩ ρ' (findH H') w' ∧ (∀ j, nx' ≤ j → ρ' j = none) ∧ Rp ch H' nx')

/-- The caller's state behind a call. -/
theorem Mod.call (hm : Mod X ρ st a w) {H' : List (Nat × HB)} {nx' : Nat} {ρ' : Env} {w' : World} (h1 : HM ρ' (findH H') w') (h2 : Keep ⟨w, Own ρ (findH st.H), ρ, Fz (findH st.H)⟩ ρ' (findH H') w') (h3 : ∀ j, nx' ≤ j → ρ' j = none) :
    Mod X ρ' { st with H := H', nx := nx' } a w' where
  fm := hm.fm.ext h2.ext
  gs := hm.gs
  df := hm.df.ext h2.ext
  hm := h1
  kp := {
    str := hm.kp.str.trans h2.str
    size := Nat.le_trans hm.kp.size h2.size
    same := fun b hb hM => by
      refine (h2.same b (by have := hm.kp.size; show b < w.heap.size; omega) (fun ho => ?_)).trans (hm.kp.same b hb hM)
      rcases hm.kp.own b ho with h | h
      · exact hM h
      · omega
    own := fun b ho => by
      rcases h2.own b ho with h | h
      · exact hm.kp.own b h
      · have := hm.kp.size
        have h : w.heap.size ≤ b := h
        exact .inr (by omega)
    ext := hm.kp.ext.trans h2.ext
    fz := fun b hz => by
      rcases h2.fz b hz with h | h | h
      · rcases hm.kp.own b h with h | h
        · exact .inl h
        · exact .inr (.inl h)
      · have := hm.kp.size
        have h : w.heap.size ≤ b := h
        exact .inr (.inl (by omega))
      · exact hm.kp.fz b h }
  nx := h3
  sz := hm.sz

/-- What follows a region. -/
structure Cont (X : Cx) (Q : Exit → Act → World → Prop) (K : St → Prop) (Kp : List PanicEntry → St → Prop) : Prop where
  k : ∀ ρ' st' a' w', Mod X ρ' st' a' w' → K st' → Q .normal a' w'
  p : ∀ ch ρ' st' a' w', Mod X ρ' st' a' w' → Kp ch st' → Q (.panic ch) a' w'
theorem cont_std {X : Cx} {K : Ex → St → Prop} : Cont X (Qof X K) (fun st => endRegion st (K .normal)) (fun ch st => K (.panic ch) st) where
  k ρ' st' a' w' hm' hk := ⟨.normal, st', ρ', rfl, hm', by unfold endRegion at hk; split at hk <;> exact hk⟩
  p ch ρ' st' a' w' hm' hk := ⟨.panic ch, st', ρ', rfl, hm', hk⟩

/-- A call whose doing is known. -/
theorem fb_call {ops : List Oper} {i : Nat} {o : Oper} {r : List Oper} {Q : Exit → Act → World → Prop} {K : St → Prop} {Kp : List PanicEntry → St → Prop} {c : Call} (hX : X.Ok)
    (hC : Cont X Q K Kp) (hi : ops.drop i = o :: r) (hc : o.op = .call c) (hg : o.guard = none) (hp : putN st.gs X.nt o.dst = false)
    (h : resK st c fun n l => Body X.P n ∧ CallS X.P n l st.H st.nx (fun v H' nx' => putSt st o.dst v H' nx' (execL X ops Q K Kp (i + 1) r)) (fun ch H' nx' => Kp ch ⟨st.F, st.gs, H', nx', st.D⟩)) :
    FbO X ops Q K Kp i o r st := by
  refine ⟨fun ρ a w hm => ?_⟩
  unfold resK at h
  split at h
  · rename_i f hcl
    split at h
    · rename_i n first caps l e1 e2
      rw [fSVL_eq] at h
      obtain ⟨hbody, hcall⟩ := h
      have hs : GPsat a [] := fun x hx => by cases hx
      have hf := ev_ok hm.fm hs e1
      have hl := argsOf_ok hm.fm hs e2
      simp only [den] at hf
      cases d1 : denL ρ first with
      | none => simp [d1] at hf
      | some x =>
        cases d2 : denL ρ caps with
        | none => simp [d1, d2] at hf
        | some y =>
          simp only [d1, d2, Option.some.injEq] at hf
          have hd := denL_append d1 (denL_append hl d2)
          have hrun : (do let d ← resolve a.eval c o.type; invoke d.target d.args : Sem Next).run X.P w = .ok (.enter n (x ++ (c.args.toList.map a.eval ++ y)).toArray) w := by
            have hres : (resolve a.eval c o.type).run X.P w = .ok { target := .fn (.func n) y.toArray, args := x.toArray ++ c.args.map a.eval } w := by
              simp only [resolve, hcl, ← hf]
              rfl
            rw [Sem.run_bind, hres]
            simp only [Result.andThen, invoke]
            have he : (x.toArray ++ c.args.map a.eval ++ y.toArray) = (x ++ (c.args.toList.map a.eval ++ y)).toArray := by
              apply Array.ext'; simp
            rw [he]
            exact hbody _ w
          have ho : ops[i]? = some o := by
            have := congrArg (fun l => l[0]?) hi
            simpa using this
          have hd' : ops.drop (i + 1) = r := by
            have := congrArg List.tail hi
            simpa using this
          rw [List.range'_succ]
          refine wpOps_cons (by simpa using ho) (fun _ => ?_) (fun hw => by rw [guard_none hg] at hw; cases hw)
          refine wpIn_call (by rw [hc]; intro c' hc'; cases hc') (by simp only [execOp, hc]; exact hrun) (hcall ρ w _ hm.hm hm.nx hd) ?_
          rintro e w' (⟨v, H', nx', ρ', u, rfl, h1, h2, h3, h4, h5⟩ | ⟨ch, H', nx', ρ', rfl, h2, h3, h4, h5⟩)
          · have hm' := (hm.call h2 h3 h4).put (d := o.dst) hp h1
            refine execL_ok hX hC.k hC.p r (i + 1) ρ' _ _ w' hd' ?_ hm'
            unfold putSt at h5
            split at h5
            · rename_i d hd; rw [hd]; exact h5
            · rename_i hd; rw [hd]; exact h5
          · refine hC.p ch ρ' _ a w' ?_ h5
            have := hm.call h2 h3 h4
            exact this
    · exact h.elim
  · exact h.elim

/-- A call that is run through in place. -/
theorem callS_exec {P : Program} {T : Tab} {C : Nat → Option Ct} (hX : ∀ G r nt, (⟨P, T, C, G, r, nt⟩ : Cx).Ok) {n : Nat} {fn : Func} {c : Code} (hf : P.funcs[n]? = some fn) (hb : fn.body = some c)
    {l : List SV} (hlen : l.length ≤ fn.ntmps) {H : List (Nat × HB)} {nx : Nat} {Rv : SV → List (Nat × HB) → Nat → Prop} {Rp : List PanicEntry → List (Nat × HB) → Nat → Prop}
    (h : ∀ G : Base, (∀ j, nx ≤ j → G.ρ j = none) → exec ⟨P, T, C, G, none, fn.ntmps⟩ c (start l H nx) (Fin ⟨P, T, C, G, none, fn.ntmps⟩ fn.results.toList (fun v st => Rv v st.H st.nx) (fun ch st => Rp ch st.H st.nx))) :
    CallS P n l H nx Rv Rp := by
  intro ρ w vals hm hnx hd
  have hcall := calls_of_exec (X := ⟨P, T, C, ⟨w, Own ρ (findH H), ρ, Fz (findH H)⟩, none, fn.ntmps⟩) (hX _ _ _) rfl hf hb rfl hd hlen hm rfl hnx (h _ hnx)
  refine hcall.mono ?_
  rintro e w' (⟨v, st, ρ', u, rfl, hv, hmh, hr⟩ | ⟨ch, st, ρ', rfl, hmh, hr⟩)
  · exact .inl ⟨v, st.H, st.nx, ρ', u, rfl, hv, hmh.hm, hmh.kp, hmh.nx, hr⟩
  · exact .inr ⟨ch, st.H, st.nx, ρ', rfl, hmh.hm, hmh.kp, hmh.nx, hr⟩

end

/-! ### Contracts of functions without ids -/

mutual
theorem ren_none {s : Nat → Nat} : ∀ (x : SV), knSV 0 [] x = true → renSV s x = x
  | .sp i _, h => by
    have h' : kn 0 [] i = true := by simpa only [knSV] using h
    rcases kn_ok h' with h1 | h1
    · exact absurd h1 (Nat.not_lt_zero _)
    · cases h1
  | .se i _ _, h => by
    have h' : kn 0 [] i = true := by simpa only [knSV] using h
    rcases kn_ok h' with h1 | h1
    · exact absurd h1 (Nat.not_lt_zero _)
    · cases h1
  | .sl i, h => by
    have h' : kn 0 [] i = true := by simpa only [knSV] using h
    rcases kn_ok h' with h1 | h1
    · exact absurd h1 (Nat.not_lt_zero _)
    · cases h1
  | .sm i, h => by
    have h' : kn 0 [] i = true := by simpa only [knSV] using h
    rcases kn_ok h' with h1 | h1
    · exact absurd h1 (Nat.not_lt_zero _)
    · cases h1
  | .fy i, h => by
    have h' : kn 0 [] i = true := by simpa only [knSV] using h
    rcases kn_ok h' with h1 | h1
    · exact absurd h1 (Nat.not_lt_zero _)
    · cases h1
  | .ss i _ _ _, h => by
    have h' : kn 0 [] i = true := by simpa only [knSV] using h
    rcases kn_ok h' with h1 | h1
    · exact absurd h1 (Nat.not_lt_zero _)
    · cases h1
  | .agg l, h => by rw [renSV, renL_none l (by simpa [knSV] using h)]
  | .tup l, h => by rw [renSV, renL_none l (by simpa [knSV] using h)]
  | .fn _ a b, h => by
    rw [knSV] at h
    split at h
    · rename_i e; rw [renSV, renL_none a e, renL_none b h]
    · cases h
  | .ifc _ x, h => by rw [renSV, ren_none x (by simpa [knSV] using h)]
  | .sv _, _ => rfl
  | .si _ _, _ => rfl
  | .sb _, _ => rfl
theorem renL_none {s : Nat → Nat} : ∀ (l : List SV), knL 0 [] l = true → renL s l = l
  | [], _ => rfl
  | x :: r, h => by
    rw [knL] at h
    split at h
    · rename_i e; rw [renL, ren_none x e, renL_none r h]
    · cases h
end

theorem hand_nil (H : LH) : Hand H [] where
  ok j c hb h := by simp at h
  ids j c hb h := by simp at h
  inj i j c hb hb' h := by simp at h

theorem end_plain {fr : Nat} {out : COut} {v : SV} {st : St} (h : SVeq v out.v) (hk : knSV 0 [] v = true) (hn : out.news = []) : EndOk [] [] fr out v st where
  val := by rw [ren_none v hk]; exact h
  vin := hk
  news := by rw [hn]; trivial
  keep := trivial
  kge := rfl
  short := rfl

theorem walk_plain {P : Program} {T : Tab} {C : Nat → Option Ct} {fn : Func} {c : Code} {H : LH} {args : List SV} {fr : Nat} {out : COut} (hk : knL 0 [] args = true) (hl : args.length ≤ fn.ntmps)
    (h : ∀ G : Base, (∀ j, 0 ≤ j → G.ρ j = none) → exec ⟨P, T, C, G, none, fn.ntmps⟩ c (start args [] 0) (Fin ⟨P, T, C, G, none, fn.ntmps⟩ fn.results.toList
      (fun v st => (out.pan = none ∨ ∃ ch, out.pan = some (false, ch)) ∧ EndOk [] [] fr out v st) (fun ch st => out.pan = some (true, ch) ∧ keepP st.H []))) : Walk P T C fn c H args fr out :=
  ⟨[], args, [], 0, [], (renL_none args hk).symm, hk, hl, hand_nil H, rfl, rfl, h⟩

end Go.X
end

section
set_option linter.unusedVariables false
set_option linter.unusedSimpArgs false
set_option linter.unusedSectionVars false
/- Refusals: panics, deferred answers, recovery. -/
set_option linter.unusedVariables false
set_option linter.unusedSimpArgs false
namespace Go.X
open Go

section
variable {X : Cx} {ρ : Env} {st : St} {a : Act} {w : World}

/-- A value without ids. -/
def closV : SV → Option Value
  | .si k n => some (.int k n)
  | .sb p => some (.bool p)
  | .agg [.si k n] => some (.agg #[.int k n])
  | .ifc t x => (match closV x with
    | some v => some (.iface t v)
    | none => none)
  | _ => none
theorem closV_ok {ρ : Env} : ∀ {s : SV} {v : Value}, closV s = some v → den ρ s = some v
  | .si k n, v, h => by simpa [closV, den] using h
  | .sb p, v, h => by simpa [closV, den] using h
  | .ifc t x, v, h => by
    simp only [closV] at h
    split at h
    · rename_i u hu
      cases h
      simp only [den, closV_ok hu]
    · cases h
  | .sv _, v, h => by simp [closV] at h
  | .sp _ _, v, h => by simp [closV] at h
  | .se _ _ _, v, h => by simp [closV] at h
  | .sl _, v, h => by simp [closV] at h
  | .sm _, v, h => by simp [closV] at h
  | .fy _, v, h => by simp [closV] at h
  | .ss _ _ _ _, v, h => by simp [closV] at h
  | .agg l, v, h => by
    unfold closV at h
    split at h <;> simp_all
    rename_i k n
    simp [← h, den, denL, Value.oneCell']
  | .tup _, v, h => by simp [closV] at h
  | .fn _ _ _, v, h => by simp [closV] at h

def panK (st : St) (x : Operand) (K : Value → Prop) : Prop :=
  match ev (findF st.F) [] x with
  | some (.ifc t s) => (match closV s with
    | some v => K (.iface t v)
    | none => False)
  | _ => False

/-- panic of a value without ids. -/
theorem fb_panic {ops : List Oper} {i : Nat} {o : Oper} {r : List Oper} {Q : Exit → Act → World → Prop} {K : St → Prop} {Kp : List PanicEntry → St → Prop} {x : Operand}
    (hC : Cont X Q K Kp) (hi : ops.drop i = o :: r) (hc : o.op = .panic x) (hg : o.guard = none)
    (h : panK st x fun v => Kp [{ v, recovered := false }] st) : FbO X ops Q K Kp i o r st := by
  refine ⟨fun ρ a w hm => ?_⟩
  unfold panK at h
  split at h
  · rename_i t s e1
    split at h
    · rename_i v e2
      have hs : GPsat a [] := fun x hx => by cases hx
      have hv := ev_ok hm.fm hs e1
      have hv' : den ρ (.ifc t s) = some (.iface t v) := by simp only [den, closV_ok e2]
      rw [hv'] at hv
      have hx : a.eval x = .iface t v := (Option.some.inj hv).symm
      have ho : ops[i]? = some o := by
        have := congrArg (fun l => l[0]?) hi
        simpa using this
      rw [List.range'_succ]
      refine wpOps_cons (by simpa using ho) (fun _ => ?_) (fun hw => by rw [guard_none hg] at hw; cases hw)
      refine ⟨fun f _ => FW_fn X.r f, ?_⟩
      rw [Oper.semAt_eq _ _ _ (by rw [hc]; intro c' hc'; cases hc')]
      have hrun : (execOp a.eval o).run X.P w = .halt (.panic (.iface t v)) w := by
        simp only [execOp, hc, hx]
        simp [Instr.panic, goPanic, Result.andThen]
      rw [hrun]
      exact hC.p _ ρ st a w hm h
    · exact h.elim
  · exact h.elim

def defK (st : St) (c : Call) (K : SDef → Prop) : Prop :=
  match c.callee with
  | .value (.func n) => (match argsOf (findF st.F) [] c.args.toList with
    | some l => (match Nat.beq n 1000000 with
      | false => fSVL l fun l' => K (n, l')
      | true => False)
    | none => False)
  | _ => False

/-- A deferred call. -/
theorem fb_defer {ops : List Oper} {i : Nat} {o : Oper} {r : List Oper} {Q : Exit → Act → World → Prop} {K : St → Prop} {Kp : List PanicEntry → St → Prop} {c : Call} (hX : X.Ok) (hr : X.r = none)
    (hC : Cont X Q K Kp) (hi : ops.drop i = o :: r) (hc : o.op = .defer c) (hg : o.guard = none) (hd : o.dst = none)
    (h : defK st c fun d => match st with
      | ⟨F, gs, H, nx, D⟩ => execL X ops Q K Kp (i + 1) r ⟨F, gs, H, nx, d :: D⟩) : FbO X ops Q K Kp i o r st := by
  refine ⟨fun ρ a w hm => ?_⟩
  unfold defK at h
  split at h
  · rename_i n hcl
    split at h
    · rename_i l e1
      split at h
      rotate_left
      · exact h.elim
      rename_i hnm
      rw [fSVL_eq] at h
      have hs : GPsat a [] := fun x hx => by cases hx
      have hl := argsOf_ok hm.fm hs e1
      have ho : ops[i]? = some o := by
        have := congrArg (fun l => l[0]?) hi
        simpa using this
      have hd' : ops.drop (i + 1) = r := by
        have := congrArg List.tail hi
        simpa using this
      rw [List.range'_succ]
      refine wpOps_cons (by simpa using ho) (fun _ => ?_) (fun hw => by rw [guard_none hg] at hw; cases hw)
      refine ⟨fun f _ => FW_fn X.r f, ?_⟩
      have hrun : (o.semAt (FW X.r).round a.eval).run X.P w = .ok (.defer { target := .fn (.func n) #[], args := (c.args.toList.map a.eval).toArray }) w := by
        rw [FW_round, hr, Oper.semAt_none]
        simp only [execOp, hc, resolve, hcl]
        have e2 : a.eval (.func n) = .func (.func n) #[] #[] := rfl
        simp [e2, Deferred.ofValue, Result.andThen]
        apply Array.ext'; simp
      rw [hrun]
      show wpOpsIn _ _ _ _ _ _ (({ a with defers := _ :: a.defers } : Act).put o.dst undef) w
      rw [hd]
      obtain ⟨F, gs, H, nx, D⟩ := st
      refine execL_ok hX hC.k hC.p r (i + 1) ρ _ _ w hd' h ?_
      exact {
        fm := hm.fm
        gs := hm.gs
        df := ⟨⟨_, hl, by simp only [mkDef, hnm]⟩, hm.df⟩
        hm := hm.hm
        kp := hm.kp
        nx := hm.nx
        sz := hm.sz }
    · exact h.elim
  · exact h.elim

/-- What the deferred answer does: nothing, or it lays the refusal's error. -/
structure AnswerOk (P : Program) (n tRef tErr : Nat) : Prop where
  body : Body P n
  ret : ∀ (w : World) (b : Nat) (x : Value), x.oneCell' = true → w.heap[b]? = some (.cells #[x] tErr (0, 0)) → CallsDIn Fence.wide 0 P n #[.pointer (some ⟨b, 0, none⟩)] .returning w fun e u' w' =>
    (∃ v, e = .returned v) ∧ u' = .returning ∧ w.heap.size ≤ w'.heap.size ∧ (∀ c, c < w.heap.size → w'.heap[c]? = w.heap[c]?) ∧ Str w w'
  pan : ∀ (w : World) (b : Nat) (x : Value) (k : IntKind) (m : Int), x.oneCell' = true → w.heap[b]? = some (.cells #[x] tErr (0, 0)) → CallsDIn Fence.wide 0 P n #[.pointer (some ⟨b, 0, none⟩)] (.panicking [{ v := .iface tRef (.int k m), recovered := false }]) w fun e u' w' =>
    (∃ v, e = .returned v) ∧ u' = .panicking [{ v := .iface tRef (.int k m), recovered := true }] ∧ w.heap.size ≤ w'.heap.size ∧ (∀ c, c < w.heap.size → c ≠ b → w'.heap[c]? = w.heap[c]?) ∧ w'.heap[b]? = some (.cells #[.int k m] tErr (0, 0)) ∧ Str w w'

def isRef (tRef : Nat) (ch : List PanicEntry) (K : IntKind → Int → Prop) : Prop :=
  match ch with
  | [⟨.iface t (.int k m), false, false⟩] => (match Nat.beq t tRef with
    | true => K k m
    | false => False)
  | _ => False

def errOf (n tErr : Nat) (st : St) (K : Nat → Prop) : Prop :=
  match st.D with
  | [(f, [.sp id 0])] => (match Nat.beq f n, Nat.beq f 1000000, findH st.H id with
    | true, false, some (.cells t [_]) => (match Nat.beq t tErr with
      | true => K id
      | false => False)
    | _, _, _ => False)
  | _ => False

/-- The ends of a body with a deferred answer. -/
def FinD (X : Cx) (n tRef tErr : Nat) (rs : List ResultVar) (Rv : SV → St → Prop) : Ex → St → Prop
  | .normal, st => errOf n tErr st fun _ => (match resAll X st rs with
    | some l => fSVL l fun l' => Rv (resV l') st
    | none => False)
  | .ret, st => errOf n tErr st fun _ => (match resAll X st rs with
    | some l => fSVL l fun l' => Rv (resV l') st
    | none => False)
  | .panic ch, st => errOf n tErr st fun id => isRef tRef ch fun k m => (match st with
    | ⟨F, gs, H, nx, D⟩ => (match resAll X ⟨F, gs, (id, .cells tErr [.si k m]) :: H, nx, D⟩ rs with
      | some l => fSVL l fun l' => Rv (resV l') ⟨F, gs, (id, .cells tErr [.si k m]) :: H, nx, D⟩
      | none => False))
  | .exit _, _ => False

theorem errOf_ok {n tErr : Nat} {K : Nat → Prop} (h : errOf n tErr st K) : ∃ id x, st.D = [(n, [.sp id 0])] ∧ findH st.H id = some (.cells tErr [x]) ∧ Nat.beq n 1000000 = false ∧ K id := by
  unfold errOf at h
  split at h
  · rename_i f id e1
    split at h
    · rename_i t x e2 e0 e3
      split at h
      · rename_i e4
        have h1 : f = n := by simpa using e2
        have h2 : t = tErr := by simpa using e4
        subst h1; subst h2
        exact ⟨id, x, e1, e3, e0, h⟩
      · exact h.elim
    · exact h.elim
  · exact h.elim
theorem isRef_ok {tRef : Nat} {ch : List PanicEntry} {K : IntKind → Int → Prop} (h : isRef tRef ch K) : ∃ k m, ch = [{ v := .iface tRef (.int k m), recovered := false }] ∧ K k m := by
  unfold isRef at h
  split at h
  · rename_i t k m
    split at h
    · rename_i e
      have h1 : t = tRef := by simpa using e
      subst h1
      exact ⟨k, m, rfl, h⟩
    · exact h.elim
  · exact h.elim

/-- The deferred answer's argument. -/
theorem def_arg (hm : Mod X ρ st a w) {n tErr id : Nat} {x : SV} (hD : st.D = [(n, [.sp id 0])]) (hf : findH st.H id = some (.cells tErr [x])) (hmk : Nat.beq n 1000000 = false) :
    ∃ (b : Nat) (u : Value), a.defers = [{ target := .fn (.func n) #[], args := #[.pointer (some ⟨b, 0, none⟩)] }] ∧ ρ id = some (.blk b) ∧ u.oneCell' = true ∧ w.heap[b]? = some (.cells #[u] tErr (0, 0)) := by
  have hdf := hm.df
  rw [hD] at hdf
  cases hds : a.defers with
  | nil => rw [hds] at hdf; exact hdf.elim
  | cons d ds =>
    rw [hds] at hdf
    obtain ⟨⟨vals, h1, h2⟩, h3⟩ := hdf
    have h3 := DefOk_nil h3
    subst h3
    obtain ⟨v, vs, g1, g2, rfl⟩ := denL_cons h1
    simp only [denL, Option.some.injEq] at g2
    subst g2
    obtain ⟨b, hb, rfl⟩ := den_sp g1
    obtain ⟨nm, k1, k2⟩ := hm.hm.ok _ _ hf
    rw [hb] at k1; cases k1
    obtain ⟨us, d1, d0, d2⟩ := k2
    obtain ⟨u, us', q1, q2, rfl⟩ := denL_cons d1
    simp only [denL, Option.some.injEq] at q2
    subst q2
    exact ⟨b, u, by rw [h2]; simp only [mkDef, hmk], hb, by simpa using d0, d2⟩

/-- From a body with a deferred answer to its call. -/
theorem calls_of_execD (hX : X.Ok) (hr : X.r = none) {n tRef tErr : Nat} (hA : AnswerOk X.P n tRef tErr) {f : Nat} {fn : Func} {c : Code} (hf : X.P.funcs[f]? = some fn) (hb : fn.body = some c) (hnt : fn.ntmps = X.nt)
    {args : List SV} {vals : List Value} {H : List (Nat × HB)} {nx : Nat} (hd : denL ρ args = some vals) (hlen : args.length ≤ X.nt) (hH : HM ρ (findH H) w)
    (hG : X.G = ⟨w, Own ρ (findH H), ρ, Fz (findH H)⟩) (hnx : ∀ j, nx ≤ j → ρ j = none) {Rv : SV → St → Prop}
    (h : exec X c (start args H nx) (FinD X n tRef tErr fn.results.toList Rv)) : Calls X.P f vals.toArray w (CEnd X Rv fun _ _ => False) := by
  refine (callsIn_wide (n := 0)).1 ?_
  have hm := start_mod (X := X) hd hlen hH hG hnx
  have hw := exec_ok hX c _ _ h ρ _ w hm
  rw [hr] at hw
  refine callsIn_of_wp_defers (F := Fence.wide) (n := 0) hf hb trivial (wpIn_mono (by rw [hnt]; exact hw) ?_)
  rintro e a' w' ⟨x, st', ρ', rfl, hm', hk⟩
  have hret : (errOf n tErr st' fun _ => (match resAll X st' fn.results.toList with
      | some l => fSVL l fun l' => Rv (resV l') st'
      | none => False)) → LeavesIn Fence.wide 0 X.P fn a'.tmps (CEnd X Rv fun _ _ => False) a'.defers .returning w' := by
    intro hk
    obtain ⟨id, y, hD, hfi, hmk, hk⟩ := errOf_ok hk
    obtain ⟨b, u, g1, g2, g0, g3⟩ := def_arg hm' hD hfi hmk
    rw [g1]
    refine leavesIn_cons (by intro h; cases h) (by intro h; cases h) (hA.body _ _) (fun g _ => trivial) ?_
    refine (hA.ret w' b u g0 g3).mono ?_
    rintro e u' w₂ ⟨⟨v, rfl⟩, rfl, hs, hk2, hst⟩
    have hm₂ : Mod X ρ' st' a' w₂ := { hm' with hm := hm'.hm.world hs hk2, kp := hm'.kp.world hs hk2 hst }
    split at hk
    · rename_i l e1
      rw [fSVL_eq] at hk
      obtain ⟨u, h1, h2⟩ := results_ok hX hm₂ e1
      exact ⟨u, h1, .inl ⟨_, st', ρ', u, rfl, h2, hm₂.mh, hk⟩⟩
    · exact hk.elim
  cases x with
  | normal => exact hret hk
  | ret => exact hret hk
  | panic ch =>
    obtain ⟨id, y, hD, hfi, hmk, hk⟩ := errOf_ok hk
    obtain ⟨k, m, rfl, hkk⟩ := isRef_ok hk
    obtain ⟨b, u, g1, g2, g0, g3⟩ := def_arg hm' hD hfi hmk
    show LeavesIn Fence.wide 0 X.P fn a'.tmps (CEnd X Rv fun _ _ => False) a'.defers (.panicking _) w'
    rw [g1]
    refine leavesIn_cons (by intro h; cases h) (by intro h; cases h) (hA.body _ _) (fun g _ => trivial) ?_
    refine (hA.pan w' b u k m g0 g3).mono ?_
    rintro e u' w₂ ⟨⟨v, rfl⟩, rfl, hs, hk2, hk3, hst⟩
    obtain ⟨F, gs, H, nx, D⟩ := st'
    have hm₂ : Mod X ρ' ⟨F, gs, (id, .cells tErr [.si k m]) :: H, nx, D⟩ a' w₂ := {
      fm := hm'.fm
      gs := hm'.gs
      df := hm'.df
      hm := hm'.hm.put hfi rfl g2 rfl hs hk2 (by exact ⟨[.int k m], by simp [denL, den], by simp [Value.oneCell'], hk3⟩) rfl (fun _ _ _ h => by cases h)
      kp := hm'.kp.put hfi rfl g2 rfl hs hk2 hst
      nx := hm'.nx
      sz := hm'.sz }
    simp only at hkk
    split at hkk
    · rename_i l e1
      rw [fSVL_eq] at hkk
      obtain ⟨u, h1, h2⟩ := results_ok hX hm₂ e1
      exact ⟨u, h1, .inl ⟨_, _, ρ', u, rfl, h2, hm₂.mh, hkk⟩⟩
    · exact hkk.elim
  | exit n => exact hk.elim

/-- What a contract of a function with a deferred answer rests on. -/
def WalkD (P : Program) (T : Tab) (C : Nat → Option Ct) (n tRef tErr : Nat) (fn : Func) (c : Code) (H : LH) (args : List SV) (fr : Nat) (out : COut) : Prop :=
  ∃ (ps : List (Nat × HB)) (args₀ : List SV) (H₀ : List (Nat × HB)) (n₀ : Nat) (K : List Nat), args = renL (sigP ps) args₀ ∧ knL ps.length [] args₀ = true ∧ args₀.length ≤ fn.ntmps ∧ Hand H ps ∧ H₀ = numb 0 ps ∧ n₀ = ps.length ∧
    ∀ G : Base, (∀ j, n₀ ≤ j → G.ρ j = none) → exec ⟨P, T, C, G, none, fn.ntmps⟩ c (start args₀ H₀ n₀) (FinD ⟨P, T, C, G, none, fn.ntmps⟩ n tRef tErr fn.results.toList
      (fun v st => (out.pan = none ∨ ∃ ch, out.pan = some (false, ch)) ∧ EndOk ps K fr out v st))

theorem CEnd.mono {X : Cx} {Rv Rv' : SV → St → Prop} {Rp Rp' : List PanicEntry → St → Prop} {e : Ending} {w : World} (h : CEnd X Rv Rp e w) (h1 : ∀ v st, Rv v st → Rv' v st) (h2 : ∀ ch st, Rp ch st → Rp' ch st) : CEnd X Rv' Rp' e w := by
  rcases h with ⟨v, st, ρ, u, a, b, c, d⟩ | ⟨ch, st, ρ, a, b, c⟩
  · exact .inl ⟨v, st, ρ, u, a, b, c, h1 _ _ d⟩
  · exact .inr ⟨ch, st, ρ, a, b, h2 _ _ c⟩

theorem cokD {P : Program} {T : Tab} {C : Nat → Option Ct} (hX : ∀ G r nt, (⟨P, T, C, G, r, nt⟩ : Cx).Ok) {n tRef tErr : Nat} (hA : AnswerOk P n tRef tErr) {f : Nat} {fn : Func} {c : Code} (hf : P.funcs[f]? = some fn) (hb : fn.body = some c) {ct : Ct}
    (h : ∀ fr args H out, ct fr args H = some out → PreH out.pre → WalkD P T C n tRef tErr fn c H args fr out) : COk P f ct :=
  cokC (nt := fn.ntmps) fun fr args H out h1 h2 => by
    obtain ⟨ps, args₀, H₀, n₀, K, h1, h2, h3, h4, h5, h6, hex⟩ := h fr args H out h1 h2
    refine ⟨ps, args₀, H₀, n₀, K, h1, h2, h3, h4, h5, h6, fun ρ w vals hd hm hnx => ?_⟩
    exact (calls_of_execD (X := ⟨P, T, C, ⟨w, Own ρ (findH H₀), ρ, Fz (findH H₀)⟩, none, fn.ntmps⟩) (hX _ _ _) rfl hA hf hb rfl hd h3 hm rfl hnx (hex _ hnx)).mono fun e w' he => he.mono (fun _ _ h => h) (fun _ _ h => h.elim)

/-- The code behind recover, as a walk. -/
theorem wpS_exec {P : Program} {T : Tab} (hT : TabOk P T) {fn : Func} {c : Code} {c₀ : Frame} {cs : List Frame} {R : Ending → FrameMode → World → Prop} {w : World} {a : Act} {b : Nat} {x : Value} {tErr : Nat}
    (hres : fn.results = #[]) (hx : x.oneCell' = true) (hb : w.heap[b]? = some (.cells #[x] tErr (0, 0))) {y : SV} (ha : a.tmps.size = fn.ntmps) (hd : a.defers = []) (h0 : a.tmps[0]? = some (.pointer (some ⟨b, 0, none⟩)))
    {v : Value} {t : Nat} (hy : ∀ ρ, den ρ y = some v) (ht : a.tmps[t]? = some v) (ht0 : t ≠ 0) {good : SV}
    (h : ∀ G : Base, (∀ j, 1 ≤ j → G.ρ j = none) → exec ⟨P, T, tabC [], G, none, fn.ntmps⟩ c ⟨[(0, ⟨[], .sp 0 0⟩), (t, ⟨[], y⟩)], [], [(0, .cells tErr [.sv x])], 1, []⟩ (Fin ⟨P, T, tabC [], G, none, fn.ntmps⟩ [] (fun _ st => findH st.H 0 = some (.cells tErr [good])) (fun _ _ => False)))
    (hR : ∀ w' z, (∀ ρ, den ρ good = some z → True) → w.heap.size ≤ w'.heap.size → (∀ c, c < w.heap.size → c ≠ b → w'.heap[c]? = w.heap[c]?) → (Str w w' ∧ ∃ ρ z, den ρ good = some z ∧ w'.heap[b]? = some (.cells #[z] tErr (0, 0))) → R (.returned (.tuple #[])) c₀.mode w') :
    c.wpSIn Fence.wide 0 P (bodyPostS P fn c₀ cs R) a (c₀ :: cs) w := by
  refine wpSIn_of_wpIn rfl ?_
  have hblt : b < w.heap.size := by
    rcases Nat.lt_or_ge b w.heap.size with h | h
    · exact h
    · rw [Array.getElem?_eq_none h] at hb; cases hb
  let ρ : Env := fun j => if j = 0 then some (.blk b) else none
  let H : List (Nat × HB) := [(0, .cells tErr [.sv x])]
  have hH : HM ρ (findH H) w := {
    ok := fun id hb' hf => by
      by_cases hid : id = 0
      · subst hid
        have hf : some (HB.cells tErr [.sv x]) = some hb' := hf
        cases hf
        exact ⟨.blk b, rfl, [x], by simp [denL, den, hx], by simp [hx], hb⟩
      · have : findH H id = none := by simp [H, findH, Ne.symm hid]
        rw [this] at hf; cases hf
    sep := fun i j x₁ y₁ n₁ n₂ b₁ f1 f2 _ _ _ _ _ _ => by
      have key : ∀ {i : Nat} {x₁ : HB}, findH H i = some x₁ → i = 0 := by
        intro i x₁ hf
        by_cases hid : i = 0
        · exact hid
        · have : findH H i = none := by simp [H, findH, Ne.symm hid]
          rw [this] at hf; cases hf
      rw [key f1, key f2]
    ro := fun id size n get nm b₁ hf => by
      by_cases hid : id = 0
      · subst hid; cases hf
      · have : findH H id = none := by simp [H, findH, Ne.symm hid]
        rw [this] at hf; cases hf
    fam := fun b₁ hz => by
      obtain ⟨id, size, C, v, n, get, hf, _⟩ := hz
      by_cases hid : id = 0
      · subst hid; cases hf
      · have : findH H id = none := by simp [H, findH, Ne.symm hid]
        rw [this] at hf; cases hf }
  have hG : Good P T [] := ⟨hT, fun p h => by cases h⟩
  have hm : Mod ⟨P, T, tabC [], ⟨w, Own ρ (findH H), ρ, Fz (findH H)⟩, none, fn.ntmps⟩ ρ ⟨[(0, ⟨[], .sp 0 0⟩), (t, ⟨[], y⟩)], [], H, 1, []⟩ a w := {
    fm := fun s e hf => by
      have hf : findF [(0, ⟨[], .sp 0 0⟩), (t, ⟨[], y⟩)] s = some e := hf
      by_cases h1 : (0 : Nat) = s
      · subst h1
        rw [findF_cons_self] at hf; cases hf
        exact ⟨fun _ => ⟨_, h0, rfl⟩, fun hn => absurd (fun x hx => by cases hx) hn⟩
      · rw [findF_cons_ne _ _ h1] at hf
        by_cases h2 : t = s
        · subst h2
          rw [findF_cons_self] at hf; cases hf
          exact ⟨fun _ => ⟨_, ht, hy ρ⟩, fun hn => absurd (fun x hx => by cases hx) hn⟩
        · rw [findF_cons_ne _ _ h2] at hf; cases hf
    gs := fun s e hf x hx => by
      have hf : findF [(0, ⟨[], .sp 0 0⟩), (t, ⟨[], y⟩)] s = some e := hf
      by_cases h1 : (0 : Nat) = s
      · subst h1; rw [findF_cons_self] at hf; cases hf; cases hx
      · rw [findF_cons_ne _ _ h1] at hf
        by_cases h2 : t = s
        · subst h2; rw [findF_cons_self] at hf; cases hf; cases hx
        · rw [findF_cons_ne _ _ h2] at hf; cases hf
    df := by rw [hd]; trivial
    hm := hH
    kp := { str := Str.refl _, size := Nat.le_refl _, same := fun _ _ _ => rfl, own := fun b h => .inl h, ext := Ext.refl ρ, fz := fun b h => .inr (.inr h) }
    nx := fun j hj => by
      have hj : 1 ≤ j := hj
      show (if j = 0 then some (Nm.blk b) else none) = none
      rw [if_neg (by omega)]
    sz := ha }
  have hw := exec_ok (hG.ok _ _ _) c _ _ (h ⟨w, Own ρ (findH H), ρ, Fz (findH H)⟩ (fun j hj => by
    show (if j = 0 then some (Nm.blk b) else none) = none
    rw [if_neg (by omega)])) ρ a w hm
  refine wpIn_mono hw ?_
  rintro e a' w' ⟨x', st', ρ', rfl, hm', hk⟩
  have hfin : (match resAll ⟨P, T, tabC [], ⟨w, Own ρ (findH H), ρ, Fz (findH H)⟩, none, fn.ntmps⟩ st' [], st'.D with
      | some l, [] => fSVL l fun l' => findH st'.H 0 = some (.cells tErr [good])
      | _, _ => False) → a'.defers = [] ∧ ∃ u', c₀ :: cs = { c₀ with mode := u' } :: cs ∧ ∃ v, (results fn a'.tmps).run P w' = .ok v w' ∧ R (.returned v) u' w' := by
    intro hk
    split at hk
    · rename_i l e1 e2
      rw [fSVL_eq] at hk
      refine ⟨DefOk_nil (by rw [← e2]; exact hm'.df), c₀.mode, rfl, .tuple #[], ?_, ?_⟩
      · rw [results_eq, hres]
        simp
      · obtain ⟨nm, k1, k2⟩ := hm'.hm.ok _ _ hk
        have hb0 : ρ' 0 = some (.blk b) := hm'.kp.ext 0 _ rfl
        rw [hb0] at k1; cases k1
        obtain ⟨us, d1, _, d2⟩ := k2
        obtain ⟨z, us', q1, q2, rfl⟩ := denL_cons d1
        simp only [denL, Option.some.injEq] at q2
        subst q2
        refine hR w' z (fun _ _ => trivial) hm'.kp.size (fun c hc hcb => hm'.kp.same c hc ?_) ⟨hm'.kp.str, ρ', z, q1, d2⟩
        rintro ⟨id, hb', nm', p1, _, p3, p4⟩
        have p3 : (if id = 0 then some (Nm.blk b) else none) = some nm' := p3
        split at p3
        · cases p3
          simp only [Nm.owner, Option.some.injEq] at p4
          exact hcb p4.symm
        · cases p3
    · exact hk.elim
  cases x' with
  | normal => exact hfin hk
  | ret => exact hfin hk
  | panic ch =>
    simp only [Fin] at hk
    split at hk
    · exact hk.elim
    · exact hk.elim
  | exit n => exact hk.elim

theorem answer_of {P : Program} {T : Tab} (hT : TabOk P T) {n tRef tErr : Nat} {fn : Func} {id : Nat} {o1 o2 : Oper} {rest : Code} {d1 d2 : Nat} (hf : P.funcs[n]? = some fn) (hb : fn.body = some (.seq (.region id #[o1, o2] false) rest))
    (hn : (fn.name == "runtime.NumGoroutine") = false) (hres : fn.results = #[]) {c : Call} (h1 : o1.op = .call c) (hc : c.callee = .builtin .recover) (hg1 : o1.guard = none) (hd1 : o1.dst = some d1)
    (h2 : o2.op = .assign (.tmp d1)) (hg2 : o2.guard = none) (hd2 : o2.dst = some d2) (hne : d2 ≠ d1) (hd20 : d2 ≠ 0) (hd10 : d1 ≠ 0) (hl1 : d1 < fn.ntmps) (hl2 : d2 < fn.ntmps)
    (he1 : ∀ (x : Value) (G : Base), (∀ j, 1 ≤ j → G.ρ j = none) → exec ⟨P, T, tabC [], G, none, fn.ntmps⟩ rest ⟨[(0, ⟨[], .sp 0 0⟩), (d2, ⟨[], .sv .nilIface⟩)], [], [(0, .cells tErr [.sv x])], 1, []⟩ (Fin ⟨P, T, tabC [], G, none, fn.ntmps⟩ [] (fun _ st => findH st.H 0 = some (.cells tErr [.sv x])) (fun _ _ => False)))
    (he2 : ∀ (x : Value) (k : IntKind) (m : Int) (G : Base), (∀ j, 1 ≤ j → G.ρ j = none) → exec ⟨P, T, tabC [], G, none, fn.ntmps⟩ rest ⟨[(0, ⟨[], .sp 0 0⟩), (d2, ⟨[], .ifc tRef (.si k m)⟩)], [], [(0, .cells tErr [.sv x])], 1, []⟩ (Fin ⟨P, T, tabC [], G, none, fn.ntmps⟩ [] (fun _ st => findH st.H 0 = some (.cells tErr [.si k m])) (fun _ _ => False))) :
    AnswerOk P n tRef tErr := by
  have hrun1 : ∀ (a : Act) (w : World), (execOp a.eval o1).run P w = .ok .recover w := by
    intro a w
    simp only [execOp, h1, resolve, hc]
    rfl
  have hrun2 : ∀ (a : Act) (w : World), (execOp a.eval o2).run P w = .ok (.value (a.eval (.tmp d1))) w := by
    intro a w
    simp only [execOp, h2]
    rfl
  have key : ∀ (w : World) (b : Nat) (x : Value) (u : FrameMode) (v : Value) (u' : FrameMode) (y good : SV), x.oneCell' = true → w.heap[b]? = some (.cells #[x] tErr (0, 0)) → (∀ ρ, den ρ y = some v) →
      (∀ (c₀ : Frame) (cs : List Frame), c₀.mode = u → (match recoverD (c₀ :: cs) with
        | some (v', cs') => v' = v ∧ cs' = { c₀ with mode := u' } :: cs
        | none => v = .nilIface ∧ u' = u)) →
      (∀ G : Base, (∀ j, 1 ≤ j → G.ρ j = none) → exec ⟨P, T, tabC [], G, none, fn.ntmps⟩ rest ⟨[(0, ⟨[], .sp 0 0⟩), (d2, ⟨[], y⟩)], [], [(0, .cells tErr [.sv x])], 1, []⟩ (Fin ⟨P, T, tabC [], G, none, fn.ntmps⟩ [] (fun _ st => findH st.H 0 = some (.cells tErr [good])) (fun _ _ => False))) →
      CallsDIn Fence.wide 0 P n #[.pointer (some ⟨b, 0, none⟩)] u w fun e u₂ w' => (∃ v, e = .returned v) ∧ u₂ = u' ∧ w.heap.size ≤ w'.heap.size ∧ (∀ c, c < w.heap.size → c ≠ b → w'.heap[c]? = w.heap[c]?) ∧ Str w w' ∧ ∃ ρ z, den ρ good = some z ∧ w'.heap[b]? = some (.cells #[z] tErr (0, 0)) := by
    intro w b x u v u' y good hx hbw hy hrec he
    refine callsDIn_of_wpSIn hf hb trivial (fun c₀ cs hcm => ?_)
    refine wpSIn_seq (wpSIn_region ?_)
    let a0 : Act := { tmps := #[.pointer (some ⟨b, 0, none⟩)] ++ Array.replicate (fn.ntmps - 1) undef, defers := [] }
    have hsz : a0.tmps.size = fn.ntmps := by simp [a0]; omega
    have h00 : a0.tmps[0]? = some (.pointer (some ⟨b, 0, none⟩)) := by simp [a0, Array.getElem?_append]
    let a1 : Act := (a0.put (some d1) v).put (some d2) v
    have ev1 : (a0.put (some d1) v).eval (.tmp d1) = v := by
      simp only [Act.eval, Act.put, Array.getD_eq_getD_getElem?, Array.getElem?_setIfInBounds, hsz, hl1, if_true, Option.getD_some]
    have hgoal : ∀ c₁ : Frame, c₁ = { c₀ with mode := u' } → rest.wpSIn Fence.wide 0 P (bodyPostS P fn c₀ cs fun e u₂ w' => (∃ v, e = .returned v) ∧ u₂ = u' ∧ w.heap.size ≤ w'.heap.size ∧ (∀ c, c < w.heap.size → c ≠ b → w'.heap[c]? = w.heap[c]?) ∧ Str w w' ∧ ∃ ρ z, den ρ good = some z ∧ w'.heap[b]? = some (.cells #[z] tErr (0, 0))) a1 (c₁ :: cs) w := by
      intro c₁ hc₁
      have hw := wpS_exec (P := P) hT (fn := fn) (c := rest) (c₀ := c₁) (cs := cs) (R := fun e u₂ w' => (∃ v, e = .returned v) ∧ u₂ = u' ∧ w.heap.size ≤ w'.heap.size ∧ (∀ c, c < w.heap.size → c ≠ b → w'.heap[c]? = w.heap[c]?) ∧ Str w w' ∧ ∃ ρ z, den ρ good = some z ∧ w'.heap[b]? = some (.cells #[z] tErr (0, 0)))
        (w := w) (a := a1) (b := b) (x := x) (tErr := tErr) hres hx hbw (y := y) (by simp [a1, Act.put, hsz]) rfl
        (by simp [a1, Act.put, Array.getElem?_setIfInBounds, hd10, hd20, h00]) hy (t := d2) (by simp [a1, Act.put, Array.getElem?_setIfInBounds, hsz, hl2]) hd20 he
        (fun w' z _ hs hk hz => ⟨⟨_, rfl⟩, by rw [hc₁], hs, hk, hz⟩)
      intro bb k hb1 hb2 hb3 hb4
      obtain ⟨e, a', cs', w', l, q, r⟩ := hw bb k hb1 hb2 hb3 hb4
      refine ⟨e, a', cs', w', l, ?_, r⟩
      subst hc₁
      cases e <;> exact q
    have hwant1 : Region.wanted o1 (yielded #[o1, o2] a0.tmps) = true := guard_none hg1 _
    have hr2 : (List.range (#[o1, o2] : Array Oper).size) = [0, 1] := rfl
    rw [hr2]
    show wpOpsSIn Fence.wide 0 P #[o1, o2] _ [0, 1] a0 (c₀ :: cs) w
    have e0 : (#[o1, o2] : Array Oper)[0]? = some o1 := rfl
    have e01 : (#[o1, o2] : Array Oper)[1]? = some o2 := rfl
    simp only [wpOpsSIn, e0, e01]
    have hr := hrec c₀ cs hcm
    refine ⟨fun f _ => trivial, ?_⟩
    simp only [guard_none hg1, if_true, hrun1]
    split at hr
    · rename_i v' cs' e1
      obtain ⟨rfl, rfl⟩ := hr
      simp only [e1, List.size_toArray, List.length_cons, guard_none hg2, if_true, hrun2, hd1, hd2, ev1]
      exact ⟨fun f _ => trivial, hgoal _ rfl⟩
    · rename_i e1
      obtain ⟨rfl, rfl⟩ := hr
      simp only [e1, guard_none hg2, if_true, hrun2, hd1, hd2, ev1]
      exact ⟨fun f _ => trivial, hgoal c₀ (by rw [← hcm])⟩
  exact {
    body := body_of hf hb hn
    ret := fun w b x hx hbw => by
      refine (key w b x .returning .nilIface .returning (.sv .nilIface) (.sv x) hx hbw (fun ρ => rfl) (fun c₀ cs hcm => by
        simp [recoverD, hcm]) (he1 x)).mono ?_
      rintro e u' w' ⟨h1, h2, h3, h4, hst, ρ, z, h5, h6⟩
      refine ⟨h1, h2, h3, fun c hc => ?_, hst⟩
      by_cases hcb : c = b
      · subst hcb
        rw [h6, hbw]
        simp only [den, hx, if_true, Option.some.injEq] at h5
        rw [h5]
      · exact h4 c hc hcb
    pan := fun w b x k m hx hbw => by
      refine (key w b x _ (.iface tRef (.int k m)) (.panicking [{ v := .iface tRef (.int k m), recovered := true }]) (.ifc tRef (.si k m)) (.si k m) hx hbw (fun ρ => rfl) (fun c₀ cs hcm => by
        simp [recoverD, hcm]) (he2 x k m)).mono ?_
      rintro e u' w' ⟨h1, h2, h3, h4, hst, ρ, z, h5, h6⟩
      refine ⟨h1, h2, h3, h4, ?_, hst⟩
      simp only [den, Option.some.injEq] at h5
      rw [h6, h5] }

end
end Go.X
end

section
set_option linter.unusedVariables false
set_option linter.unusedSimpArgs false
set_option linter.unusedSectionVars false
/- Slices that are read only; spans. -/
set_option linter.unusedVariables false
set_option linter.unusedSimpArgs false
namespace Go.X
open Go

/-- A slice's length and elements. -/
def sliceOf (sz : Nat) (H : LH) (id : Nat) : Option (Nat × (Nat → List SV)) :=
  match H id with
  | some (.ro s n get) => (match Nat.beq s sz with
    | true => some (n, get)
    | false => none)
  | some (.row _ s n xs) => (match Nat.beq s sz with
    | true => some (n, fun i => takeL sz (dropL (i * sz) xs))
    | false => none)
  | some (.vec _ s n get) => (match Nat.beq s sz with
    | true => some (n, get)
    | false => none)
  | _ => none

theorem sliceOf_mono {sz : Nat} {H H' : LH} {id : Nat} {x : Nat × (Nat → List SV)} (hH : ∀ id hb, H id = some hb → H' id = some hb) (h : sliceOf sz H id = some x) : sliceOf sz H' id = some x := by
  unfold sliceOf at h ⊢
  split at h
  · rename_i s n get e; rw [hH _ _ e]; exact h
  · rename_i T s n xs e; rw [hH _ _ e]; exact h
  · rename_i T s n xs e; rw [hH _ _ e]; exact h
  · cases h

/-- It may be handed on to be read. -/
theorem sliceOf_piece {sz : Nat} {H : LH} {id n : Nat} {get : Nat → List SV} (h : sliceOf sz H id = some (n, get)) {s : Nat → Nat} {get₀ : Nat → List SV} (hg : ∀ i, i < n → renL s (get₀ i) = get i) : PieceOk H s id (.ro sz n get₀) := by
  unfold sliceOf at h
  split at h
  · rename_i s' n' get' e
    split at h
    · rename_i hb
      have : s' = sz := by simpa using hb
      subst this
      cases h
      exact .inl ⟨get, e, hg⟩
    · cases h
  · rename_i T s' n' xs e
    split at h
    · rename_i hb
      have : s' = sz := by simpa using hb
      subst this
      cases h
      refine .inr (.inl ⟨T, xs, e, fun i hi => ?_⟩)
      rw [hg i hi]
      show takeL _ (dropL _ _) = _
      rw [takeL_eq, dropL_eq]
    · cases h
  · rename_i T s' n' get' e
    split at h
    · rename_i hb
      have : s' = sz := by simpa using hb
      subst this
      cases h
      exact .inr (.inr ⟨T, _, e, hg⟩)
    · cases h
  · cases h

abbrev Span := Int × Int
/-- A span out of cells. -/
def spanAt (get : Nat → List SV) (i : Nat) : Span :=
  match get i with
  | [.si .i64 a, .si .i64 b] => (a, b)
  | _ => (0, 0)
def spanC (x : Span) : List SV := [.si .i64 x.1, .si .i64 x.2]
def Spans (n : Nat) (get : Nat → List SV) : Prop := ∀ i, i < n → get i = spanC (spanAt get i)
def spanL (n : Nat) (get : Nat → List SV) : List Span := (List.range n).map (spanAt get)

theorem hand_one {H : LH} {sz id n : Nat} {get : Nat → List SV} (h : sliceOf sz H id = some (n, get)) {get₀ : Nat → List SV} (hk : ∀ i, knL 0 [] (get₀ i) = true) (hg : ∀ i, i < n → get₀ i = get i) : Hand H [(id, .ro sz n get₀)] where
  ok j c hb hj := by
    cases j with
    | zero =>
      simp at hj
      obtain ⟨rfl, rfl⟩ := hj
      exact sliceOf_piece h fun i hi => by rw [renL_none _ (hk i)]; exact hg i hi
    | succ j => simp at hj
  ids j c hb hj := by
    cases j with
    | zero =>
      simp at hj
      obtain ⟨rfl, rfl⟩ := hj
      intro i _
      exact InL.mono (fun j hj => by rcases hj with h | h; exact absurd h (Nat.not_lt_zero _); cases h) _ (knL_ok _ (hk i))
    | succ j => simp at hj
  inj i j c hb hb' hi hj h1 h2 := by
    cases i with
    | zero => simp at hi; obtain ⟨_, rfl⟩ := hi; cases h1
    | succ i => simp at hi

mutual
theorem knSV_up {n : Nat} : ∀ (x : SV), knSV 0 [] x = true → knSV n [] x = true
  | .sp i _, h => by rcases kn_ok (by simpa only [knSV] using h) with h | h; exact absurd h (Nat.not_lt_zero _); cases h
  | .se i _ _, h => by rcases kn_ok (by simpa only [knSV] using h) with h | h; exact absurd h (Nat.not_lt_zero _); cases h
  | .sl i, h => by rcases kn_ok (by simpa only [knSV] using h) with h | h; exact absurd h (Nat.not_lt_zero _); cases h
  | .sm i, h => by rcases kn_ok (by simpa only [knSV] using h) with h | h; exact absurd h (Nat.not_lt_zero _); cases h
  | .fy i, h => by rcases kn_ok (by simpa only [knSV] using h) with h | h; exact absurd h (Nat.not_lt_zero _); cases h
  | .ss i _ _ _, h => by rcases kn_ok (by simpa only [knSV] using h) with h | h; exact absurd h (Nat.not_lt_zero _); cases h
  | .agg l, h => by rw [knSV] at h ⊢; exact knL_up l h
  | .tup l, h => by rw [knSV] at h ⊢; exact knL_up l h
  | .fn _ a b, h => by
    rw [knSV] at h ⊢
    split at h
    · rename_i e; rw [knL_up a e]; exact knL_up b h
    · cases h
  | .ifc _ x, h => by rw [knSV] at h ⊢; exact knSV_up x h
  | .sv _, _ => by rw [knSV]
  | .si _ _, _ => by rw [knSV]
  | .sb _, _ => by rw [knSV]
theorem knL_up {n : Nat} : ∀ (l : List SV), knL 0 [] l = true → knL n [] l = true
  | [], _ => by rw [knL]
  | x :: r, h => by
    rw [knL] at h ⊢
    split at h
    · rename_i e; rw [knSV_up x e]; exact knL_up r h
    · cases h
end

/-- The end of a walk whose result holds no ids. -/
theorem end_noid {ps : List (Nat × HB)} {fr : Nat} {out : COut} {v : SV} {st : St} (h : SVeq v out.v) (hk : knSV 0 [] v = true) (hn : out.news = []) (hkeep : keepP st.H (numb 0 ps)) : EndOk ps [] fr out v st where
  val := by rw [ren_none v hk]; exact h
  vin := knSV_up v hk
  news := by rw [hn]; trivial
  keep := hkeep
  kge := rfl
  short := rfl

end Go.X
end

section
set_option linter.unusedVariables false
set_option linter.unusedSimpArgs false
set_option linter.unusedSectionVars false
/- Operations that the executor has no arm for, by what they do. -/
set_option linter.unusedVariables false
set_option linter.unusedSimpArgs false
set_option maxRecDepth 10000
namespace Go.X
open Go

section
variable {X : Cx} {st : St}

/-- An operation that gives a value, whatever it does. -/
theorem fb_sem {ops : List Oper} {i : Nat} {o : Oper} {r : List Oper} {Q : Exit → Act → World → Prop} {K : St → Prop} {Kp : List PanicEntry → St → Prop} (hX : X.Ok)
    (hC : Cont X Q K Kp) (hi : ops.drop i = o :: r) (hnd : ∀ c, o.op ≠ .defer c) (hg : o.guard = none)
    (h : ∀ ρ a w, Mod X ρ st a w → ∃ v w' ρ' st', ((execOp a.eval o).run X.P w = .ok (.value v) w' ∨ ((execOp a.eval o).run X.P w = .ok .skip w' ∧ v = undef)) ∧ Mod X ρ' st' (a.put o.dst v) w' ∧ execL X ops Q K Kp (i + 1) r st') :
    FbO X ops Q K Kp i o r st := by
  refine ⟨fun ρ a w hm => ?_⟩
  obtain ⟨v, w', ρ', st', hrun, hm', hk⟩ := h ρ a w hm
  have ho : ops[i]? = some o := by
    have := congrArg (fun l => l[0]?) hi
    simpa using this
  have hd' : ops.drop (i + 1) = r := by
    have := congrArg List.tail hi
    simpa using this
  rw [List.range'_succ]
  refine wpOps_cons (by simpa using ho) (fun _ => ?_) (fun hw => by rw [guard_none hg] at hw; cases hw)
  rcases hrun with hrun | ⟨hrun, rfl⟩
  · exact wpIn_value hnd hrun (execL_ok hX hC.k hC.p r (i + 1) ρ' st' _ w' hd' hk hm')
  · exact wpIn_skipv hnd hrun (execL_ok hX hC.k hC.p r (i + 1) ρ' st' _ w' hd' hk hm')

/-! ### A slice that is made -/

theorem rep_zero {P : Program} {T : Tab} {ρ : Env} {te : TI} {z : List SV} (hz : ofValues te.zero.cells.toList = some z) (hzl : z.length = te.size) (len : Nat) :
    ∃ vz, denL ρ (repS len z) = some vz ∧ vz.all (·.oneCell') = true ∧
      (Array.range (len * te.size)).map ((if len * te.size = 0 then #[] else te.zero.cells)[· % (if len * te.size = 0 then #[] else te.zero.cells).size]!) = vz.toArray := by
  obtain ⟨hz1, hz2⟩ := ofValues_den ρ hz
  have hlen := denL_len hz1
  by_cases h0 : len * te.size = 0
  · refine ⟨[], ?_, rfl, by simp [h0]⟩
    have hr : (repS len z).length = 0 := by rw [repS_len, hzl]; exact h0
    rw [List.eq_nil_of_length_eq_zero hr]; rfl
  · have hpos : 0 < te.zero.cells.toList.length := by
      rw [hlen, hzl]
      rcases Nat.eq_zero_or_pos te.size with h | h
      · rw [h] at h0; simp at h0
      · exact h
    refine ⟨_, rep_get hz1 hpos len, ?_, ?_⟩
    · rw [List.all_eq_true] at hz2 ⊢
      intro x hx
      obtain ⟨i, hi, rfl⟩ := List.mem_map.1 hx
      have hlt : i % te.zero.cells.toList.length < te.zero.cells.toList.length := Nat.mod_lt _ hpos
      rw [List.getD_eq_getElem?_getD, List.getElem?_eq_getElem hlt]
      exact hz2 _ (List.getElem_mem hlt)
    · rw [if_neg h0, rep_array, hlen, hzl]
      congr 1
      apply List.map_congr_left
      intro i hi
      have hlt : i % te.size < te.zero.cells.toList.length := by
        rw [hlen, hzl]; exact Nat.mod_lt _ (by rw [hlen, hzl] at hpos; exact hpos)
      rw [List.getD_eq_getElem?_getD, List.getD_eq_getElem?_getD, List.getElem?_eq_getElem hlt]
      rfl

/-- makeSlice, of so many elements. -/
theorem makeSlice_ok {P : Program} {T : Tab} {ρ : Env} {H : LH} {w : World} {fr : Nat} (hT : TabOk P T) (hf : ρ fr = none) {t e : Nat} {ti te : TI} (ht : T t = some ti) (hd : ti.desc = .slice e) (hte : T e = some te)
    {z : List SV} (hz : ofValues te.zero.cells.toList = some z) (hzl : z.length = te.size) (hby : te.bytes ≤ 1000) {n : Nat} (hn : n ≤ 1000) {k k' : IntKind} :
    OutOk ρ H fr w ((do pure (Next.value (← Instr.makeSlice t (.int k n) (.int k' n))) : Sem Next).run P w) ⟨none, .sl fr, .new (.row e te.size n (repS n z))⟩ := by
  obtain ⟨vl, h1, h2, h3⟩ := rep_zero (P := P) (T := T) (ρ := ρ) hz hzl n
  have hvl : vl.length = n * te.size := by rw [denL_len h1, repS_len, hzl]
  obtain ⟨inf, i1, i2, i3, i4⟩ := run_info hT hte w
  have hw : IntKind.i64.wrap (n : Int) = n := wrap_in (show InK .i64 (n : Int) from ⟨by omega, by omega⟩)
  have hprod : te.bytes * n ≤ 1000000 := Nat.mul_le_mul hby hn
  have hprod' : (inf.bytes : Int) * (n : Int) ≤ 1000000 := by
    have h5 : ((te.bytes * n : Nat) : Int) ≤ ((1000000 : Nat) : Int) := Int.ofNat_le.2 hprod
    rw [Int.natCast_mul] at h5
    rw [i4]; exact h5
  refine ⟨.slice (some ⟨w.heap.size, 0, none⟩) n n, .row w.heap.size n n te.size, .cells vl.toArray e, ?_, ?_, ?_, ?_, ?_⟩
  · refine run_v ?_
    have c1 : ¬ (inf.bytes : Int) * (n : Int) > 2 ^ 48 := by omega
    have c2 : ¬ n * inf.bytes > roomBytes := by
      rw [i4, Nat.mul_comm]
      unfold roomBytes
      omega
    have a1 : ∀ (k : IntKind) (m : Int) (w : World), (asInt (.int k m)).run P w = .ok m w := fun _ _ _ => rfl
    have hb1 : (decide ((n : Int) < 0) || decide ((inf.bytes : Int) * (n : Int) > 2 ^ 48) || decide ((n : Int) < 0) || decide ((n : Int) > (n : Int))) = false := by
      simp only [Bool.or_eq_false_iff, decide_eq_false_iff_not]
      exact ⟨⟨⟨by omega, c1⟩, by omega⟩, by omega⟩
    have hnn : (n : Int).toNat = n := by omega
    unfold Instr.makeSlice
    simp only [Sem.run_bind, run_und hT ht, Result.andThen, hd, a1, i1, hw, hb1, Bool.false_eq_true, if_false, hnn, askRoom, if_neg c2, Sem.run_pure, run_size hT hte]
    by_cases h0 : n * te.size = 0
    · rw [if_pos h0] at h3 ⊢
      simp only [Sem.run_bind, Sem.run_pure, Result.andThen, h3]
      rfl
    · rw [if_neg h0] at h3 ⊢
      simp only [Sem.run_bind, Sem.run_pure, Result.andThen, run_zero hT hte, h3]
      rfl
  · simp [den, upd_self]
  · refine ⟨rfl, rfl, ⟨Nat.le_refl _, by unfold maxLen; omega⟩, vl, [], denL_ext (Ext.upd _ hf) _ _ h1, h2, hvl, by simp, ?_⟩
    rw [List.append_nil]
    exact heap_alloc_new w _
  · intro b hb; simp [Nm.owner] at hb; exact hb.symm
  · exact ⟨fun b hb => (by cases hb), fun s C h => (by cases h)⟩

end
end Go.X
end
