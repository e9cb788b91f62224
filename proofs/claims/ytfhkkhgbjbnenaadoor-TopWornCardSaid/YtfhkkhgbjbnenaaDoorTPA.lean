/- The symbolic state of the executor: values, heap pieces, and what they say of a frame and a world; The program's own type table; calls that only compute. -/
import Derived.WalkKit
import Derived.RangeFuncIn
import Derived.RangeFuncLeaves
import Derived.Laws.StructEq
import Derived.Test.YtfhkkhgbjbnenaaDoorProg

section
set_option linter.unusedVariables false
set_option linter.unusedSimpArgs false
set_option linter.unusedSectionVars false
/- The symbolic state of the executor: values, heap pieces, and what they say of a frame and a world. -/
set_option linter.unusedVariables false
namespace Go.X
open Go

inductive SV where
  | sv (x : Value)
  | si (k : IntKind) (n : Int)
  | sb (p : Bool)
  | sp (id off : Nat)
  | se (id : Nat) (i : Int) (off : Nat)
  | sl (id : Nat)
  | sm (id : Nat)
  | fy (id : Nat)
  | agg (l : List SV)
  | tup (l : List SV)
  | fn (f : Fn) (first caps : List SV)
  | ifc (t : TypeId) (x : SV)
  | ss (id off len tot : Nat)

inductive Nm where
  | blk (n : Nat)
  | sl (a : Option Addr) (n c size : Nat)
  | row (nm n c size : Nat)

abbrev Env := Nat → Option Nm

/-- A part of a slice, or of an array: from a cell on, so many elements. -/
def partOf (off len tot : Nat) : Nm → Option Value
  | .sl (some ad) n c s => if off + len * s ≤ n * s ∧ 0 < s then some (.slice (some (if c - off / s = 0 then ad else ad.add off)) len (c - off / s)) else none
  | .row nm n c s => if off + len * s ≤ n * s ∧ 0 < s then some (.slice (some (if c - off / s = 0 then ⟨nm, 0, none⟩ else ⟨nm, off, none⟩)) len (c - off / s)) else none
  | .blk nm => some (.slice (some ⟨nm, off, none⟩) len tot)
  | _ => none

mutual
def den (ρ : Env) : SV → Option Value
  | .sv x => if x.oneCell' then some x else none
  | .si k n => some (.int k n)
  | .sb p => some (.bool p)
  | .sp id off => match ρ id with
    | some (.blk nm) => some (.pointer (some ⟨nm, off, none⟩))
    | _ => none
  | .se id i off => match ρ id with
    | some (.sl (some ad) n _ s) => if i.toNat < n then some (.pointer (some (ad.add (i.toNat * s + off)))) else none
    | some (.row nm n _ s) => if i.toNat < n then some (.pointer (some ⟨nm, i.toNat * s + off, none⟩)) else none
    | _ => none
  | .sl id => match ρ id with
    | some (.sl a n c _) => some (.slice a n c)
    | some (.row nm n c _) => some (.slice (some ⟨nm, 0, none⟩) n c)
    | _ => none
  | .sm id => match ρ id with
    | some (.blk nm) => some (.map (some nm))
    | _ => none
  | .fy id => match ρ id with
    | some (.blk nm) => some (.func (.yield nm) #[] #[])
    | _ => none
  | .agg l => match denL ρ l with
    | some vs => if vs.all (·.oneCell') then some (.agg vs.toArray) else none
    | none => none
  | .tup l => match denL ρ l with
    | some vs => some (.tuple vs.toArray)
    | none => none
  | .fn f a b => match denL ρ a, denL ρ b with
    | some x, some y => some (.func f x.toArray y.toArray)
    | _, _ => none
  | .ifc t x => match den ρ x with
    | some v => some (.iface t v)
    | none => none
  | .ss id off len tot => match ρ id with
    | some nm => partOf off len tot nm
    | none => none
def denL (ρ : Env) : List SV → Option (List Value)
  | [] => some []
  | x :: r => match den ρ x, denL ρ r with
    | some v, some vs => some (v :: vs)
    | _, _ => none
end

def Ext (ρ ρ' : Env) : Prop := ∀ id nm, ρ id = some nm → ρ' id = some nm

theorem Ext.refl (ρ : Env) : Ext ρ ρ := fun _ _ h => h
theorem Ext.trans {a b c : Env} (h : Ext a b) (k : Ext b c) : Ext a c := fun i n x => k i n (h i n x)

mutual
theorem den_ext {ρ ρ' : Env} (h : Ext ρ ρ') : ∀ (s : SV) (v : Value), den ρ s = some v → den ρ' s = some v
  | .sv x, v, hv => by simpa [den] using hv
  | .si k n, v, hv => by simpa [den] using hv
  | .sb p, v, hv => by simpa [den] using hv
  | .sp id off, v, hv => by
    simp only [den] at hv ⊢
    cases e : ρ id with
    | none => simp [e] at hv
    | some nm => rw [h _ _ e]; simpa [e] using hv
  | .se id i off, v, hv => by
    simp only [den] at hv ⊢
    cases e : ρ id with
    | none => simp [e] at hv
    | some nm => rw [h _ _ e]; simpa [e] using hv
  | .sl id, v, hv => by
    simp only [den] at hv ⊢
    cases e : ρ id with
    | none => simp [e] at hv
    | some nm => rw [h _ _ e]; simpa [e] using hv
  | .sm id, v, hv => by
    simp only [den] at hv ⊢
    cases e : ρ id with
    | none => simp [e] at hv
    | some nm => rw [h _ _ e]; simpa [e] using hv
  | .fy id, v, hv => by
    simp only [den] at hv ⊢
    cases e : ρ id with
    | none => simp [e] at hv
    | some nm => rw [h _ _ e]; simpa [e] using hv
  | .agg l, v, hv => by
    simp only [den] at hv ⊢
    cases e : denL ρ l with
    | none => simp [e] at hv
    | some vs => rw [denL_ext h l vs e]; simpa [e] using hv
  | .tup l, v, hv => by
    simp only [den] at hv ⊢
    cases e : denL ρ l with
    | none => simp [e] at hv
    | some vs => rw [denL_ext h l vs e]; simpa [e] using hv
  | .fn f a b, v, hv => by
    simp only [den] at hv ⊢
    cases e : denL ρ a with
    | none => simp [e] at hv
    | some vs =>
      cases e2 : denL ρ b with
      | none => simp [e, e2] at hv
      | some us => rw [denL_ext h a vs e, denL_ext h b us e2]; simpa [e, e2] using hv
  | .ifc t x, v, hv => by
    simp only [den] at hv ⊢
    cases e : den ρ x with
    | none => simp [e] at hv
    | some u => rw [den_ext h x u e]; simpa [e] using hv
  | .ss id off len tot, v, hv => by
    simp only [den] at hv ⊢
    cases e : ρ id with
    | none => simp [e] at hv
    | some nm => rw [h _ _ e]; simpa [e] using hv
theorem denL_ext {ρ ρ' : Env} (h : Ext ρ ρ') : ∀ (s : List SV) (v : List Value), denL ρ s = some v → denL ρ' s = some v
  | [], v, hv => by simpa [denL] using hv
  | x :: r, v, hv => by
    simp only [denL] at hv ⊢
    cases e : den ρ x with
    | none => simp [e] at hv
    | some u =>
      cases e2 : denL ρ r with
      | none => simp [e, e2] at hv
      | some us => rw [den_ext h x u e, denL_ext h r us e2]; simpa [e, e2] using hv
end

/-- Pieces of the heap. -/
inductive HB where
  | dead
  | cells (T : TypeId) (cs : List SV)
  | ro (size n : Nat) (get : Nat → List SV)
  | row (T size n : Nat) (xs : List SV)
  | vec (T size n : Nat) (get : Nat → List SV)
  | map (es : List (SV × SV × Nat)) (clock : Nat)
  | mp (es : List (SV × SV))
  | it (mid since : Nat) (seen : List Nat) (last : Nat)
  | loop (F : List (Nat × SV)) (nt fn : Nat) (ps : List Nat) (assign body : Code) (db : Nat) (s : LoopState) (pd : Option Code)
  | dfr
  | fam (size : Nat) (C : Value → Nat → (Nat → List SV) → Prop)

/-- The block that a slice lies in. -/
def slBlock : Value → Option Nat
  | .slice (some ad) _ _ => some ad.block
  | _ => none
def Nm.owner : Nm → Option Nat
  | .blk n => some n
  | .row n _ _ _ => some n
  | .sl .. => none

/-- Entries of a map, without ids. -/
def entD : List (SV × SV × Nat) → Option (List MapEntry)
  | [] => some []
  | (k, v, b) :: r => match den (fun _ => none) k, den (fun _ => none) v, entD r with
    | some k', some v', some l => some (⟨k', v', b⟩ :: l)
    | _, _, _ => none
def mapAt (w : World) (nm : Nat) (es : List (SV × SV × Nat)) (clock : Nat) : Prop :=
  ∃ ms, entD es = some ms ∧ w.heap[nm]? = some (.map ms.toArray clock) ∧ (ms.map (·.born)).Nodup ∧ (∀ m ∈ ms, m.born < clock) ∧ (ms.map (·.key)).Nodup
def findV : List (Nat × SV) → Nat → Option SV
  | [], _ => none
  | (a, x) :: r, t => if Nat.beq a t then some x else findV r t

/-- A slice that nobody turns again: so many elements, and these. -/
def famOk (w : World) (size : Nat) (v : Value) (n : Nat) (get : Nat → List SV) : Prop :=
  ∃ a c, v = .slice a n c ∧ n ≤ c ∧ (0 < n → ∃ ad, a = some ad ∧ ad.block < w.heap.size ∧
    ∀ i, i < n → ∃ vs, denL (fun _ => none) (get i) = some vs ∧ vs.all (·.oneCell') = true ∧ vs.length = size ∧ ∀ j v, vs[j]? = some v → w.cell? (ad.add (i * size + j)) = some v)
def HBok (ρ : Env) (w : World) : HB → Nm → Prop
  | .dead, _ => True
  | .cells T cs, .blk nm => ∃ vs, denL ρ cs = some vs ∧ vs.all (·.oneCell') = true ∧ w.heap[nm]? = some (.cells vs.toArray T (0, 0))
  | .ro size n get, .sl a n' c s => n' = n ∧ s = size ∧ n ≤ c ∧ (0 < n → ∃ ad, a = some ad ∧ ad.block < w.heap.size ∧
      ∀ i, i < n → ∃ vs, denL ρ (get i) = some vs ∧ vs.all (·.oneCell') = true ∧ vs.length = size ∧ ∀ j v, vs[j]? = some v → w.cell? (ad.add (i * size + j)) = some v)
  | .row T size n xs, .row nm n' c s => n' = n ∧ s = size ∧ (n ≤ c ∧ c ≤ maxLen) ∧ ∃ vs rest, denL ρ xs = some vs ∧ vs.all (·.oneCell') = true ∧ vs.length = n * size ∧
      rest.length = (c - n) * size ∧ w.heap[nm]? = some (.cells (vs ++ rest).toArray T (0, 0))
  | .vec T size n get, .sl a n' c s => a = none ∧ n' = 0 ∧ c = 0 ∧ n = 0 ∧ s = size
  | .vec T size n get, .row nm n' c s => n' = n ∧ s = size ∧ (n ≤ c ∧ c ≤ maxLen) ∧ ∃ cells : List Value, w.heap[nm]? = some (.cells cells.toArray T (0, 0)) ∧ cells.length = c * size ∧
      ∀ i, i < n → ∃ vs, denL ρ (get i) = some vs ∧ vs.all (·.oneCell') = true ∧ vs.length = size ∧ ∀ j v, vs[j]? = some v → cells[i * size + j]? = some v
  | .map es clock, .blk nm => mapAt w nm es clock
  | .mp es, .blk nm => ∃ ses clock, mapAt w nm ses clock ∧ (ses.map fun e => (e.1, e.2.1)).Perm es
  | .it mid since seen last, .blk nm => ∃ mb, ρ mid = some (.blk mb) ∧ w.heap[nm]? = some (.mapIter (some mb) since seen.toArray last)
  | .loop F nt fn ps assign body db s pd, .blk nm => ∃ (tmps : Array Value) (dnm : Nat), ρ db = some (.blk dnm) ∧
      w.heap[nm]? = some (.loop { state := s, pending := pd, fn := fn, tmps := tmps, params := ps.toArray, assign := assign, body := body, defers := dnm }) ∧
      tmps.size = nt ∧ ∀ t v, findV F t = some v → ∃ u, tmps[t]? = some u ∧ den ρ v = some u
  | .dfr, .blk nm => w.heap[nm]? = some (.deferred (some []))
  | .fam size C, .sl a _ _ _ => a = none ∧ ∀ v n get, C v n get → famOk w size v n get
  | _, _ => False

def HB.live : HB → Bool
  | .dead => false
  | _ => true

def findH : List (Nat × HB) → Nat → Option HB
  | [], _ => none
  | (a, x) :: r, t => if Nat.beq a t then some x else findH r t

abbrev LH := Nat → Option HB
def updL (H : LH) (id : Nat) (hb : HB) : LH := fun t => if Nat.beq id t then some hb else H t
theorem findH_cons (H : List (Nat × HB)) (id : Nat) (hb : HB) : findH ((id, hb) :: H) = updL (findH H) id hb := rfl

/-- Block b is owned by a live piece. -/
def Own (ρ : Env) (H : LH) (b : Nat) : Prop :=
  ∃ id hb nm, H id = some hb ∧ hb.live = true ∧ ρ id = some nm ∧ nm.owner = some b

def roBlock : Nm → Option Nat
  | .sl (some ad) _ _ _ => some ad.block
  | _ => none

/-- Block b holds a slice that is told of. -/
def Fz (H : LH) (b : Nat) : Prop :=
  ∃ id size C v n get, H id = some (.fam size C) ∧ C v n get ∧ 0 < n ∧ slBlock v = some b

structure HM (ρ : Env) (H : LH) (w : World) : Prop where
  ok : ∀ id hb, H id = some hb → ∃ nm, ρ id = some nm ∧ HBok ρ w hb nm
  sep : ∀ id id' hb hb' nm nm' b, H id = some hb → H id' = some hb' → hb.live = true → hb'.live = true →
    ρ id = some nm → ρ id' = some nm' → nm.owner = some b → nm'.owner = some b → id = id'
  ro : ∀ id size n get nm b, H id = some (.ro size n get) → 0 < n → ρ id = some nm → roBlock nm = some b → ¬ Own ρ H b
  fam : ∀ b, Fz H b → ¬ Own ρ H b

/-- What a call has at its entry: its world, and which blocks it may turn. -/
structure Base where
  w0 : World
  M : Nat → Prop
  ρ : Env
  /-- blocks of slices that were told of -/
  Z : Nat → Prop

/-- The streams are as they were. -/
def Str (w w' : World) : Prop := w'.os = w.os ∧ w'.output = w.output
theorem Str.refl (w : World) : Str w w := ⟨rfl, rfl⟩
theorem Str.trans {a b c : World} (h : Str a b) (k : Str b c) : Str a c := ⟨k.1.trans h.1, k.2.trans h.2⟩

structure Keep (G : Base) (ρ : Env) (H : LH) (w : World) : Prop where
  str : Str G.w0 w
  size : G.w0.heap.size ≤ w.heap.size
  same : ∀ b, b < G.w0.heap.size → ¬ G.M b → w.heap[b]? = G.w0.heap[b]?
  own : ∀ b, Own ρ H b → G.M b ∨ G.w0.heap.size ≤ b
  ext : Ext G.ρ ρ
  fz : ∀ b, Fz H b → G.M b ∨ G.w0.heap.size ≤ b ∨ G.Z b

abbrev GP := List (Nat × Bool)

structure FE where
  gp : GP
  v : SV

def findF : List (Nat × FE) → Nat → Option FE
  | [], _ => none
  | (a, x) :: r, t => if Nat.beq a t then some x else findF r t

def GPsat (a : Act) (gp : GP) : Prop := ∀ x ∈ gp, a.tmps[x.1]? = some (.bool x.2)

abbrev LF := Nat → Option FE
def FM (ρ : Env) (F : LF) (a : Act) : Prop :=
  ∀ t e, F t = some e → (GPsat a e.gp → ∃ v, a.tmps[t]? = some v ∧ den ρ e.v = some v) ∧ (¬ GPsat a e.gp → a.tmps[t]? = some undef)

/-! ### Laws on heap pieces -/

theorem updL_self (H : LH) (id : Nat) (hb : HB) : updL H id hb id = some hb := by simp [updL]
theorem updL_ne (H : LH) {id j : Nat} (hb : HB) (h : id ≠ j) : updL H id hb j = H j := by
  simp [updL, h]
theorem findF_cons_self (F : List (Nat × FE)) (t : Nat) (e : FE) : findF ((t, e) :: F) t = some e := by simp [findF]
theorem findF_cons_ne (F : List (Nat × FE)) {t j : Nat} (e : FE) (h : t ≠ j) : findF ((t, e) :: F) j = findF F j := by
  simp [findF, h]

theorem HBok_ext {ρ ρ' : Env} (h : Ext ρ ρ') {w : World} {hb : HB} {nm : Nm} (k : HBok ρ w hb nm) : HBok ρ' w hb nm := by
  cases hb with
  | dead => trivial
  | cells T cs =>
    cases nm <;> simp only [HBok] at k ⊢
    obtain ⟨vs, h1, h2, h3⟩ := k
    exact ⟨vs, denL_ext h _ _ h1, h2, h3⟩
  | ro size n get =>
    cases nm <;> simp only [HBok] at k ⊢
    obtain ⟨h1, h2, h0, h3⟩ := k
    refine ⟨h1, h2, h0, fun hn => ?_⟩
    obtain ⟨ad, e, hb, hc⟩ := h3 hn
    refine ⟨ad, e, hb, fun i hi => ?_⟩
    obtain ⟨vs, d1, d2, d3, d4⟩ := hc i hi
    exact ⟨vs, denL_ext h _ _ d1, d2, d3, d4⟩
  | row T size n xs =>
    cases nm <;> simp only [HBok] at k ⊢
    obtain ⟨h1, h2, h3, vs, rest, h4, h5⟩ := k
    exact ⟨h1, h2, h3, vs, rest, denL_ext h _ _ h4, h5⟩
  | vec T size n get =>
    cases nm <;> simp only [HBok] at k ⊢
    · exact k
    obtain ⟨h1, h2, h3, cells, h4, h5, h6⟩ := k
    refine ⟨h1, h2, h3, cells, h4, h5, fun i hi => ?_⟩
    obtain ⟨vs, d1, d2⟩ := h6 i hi
    exact ⟨vs, denL_ext h _ _ d1, d2⟩
  | map es clock => cases nm <;> exact k
  | mp es => cases nm <;> exact k
  | dfr => cases nm <;> exact k
  | fam size C => cases nm <;> exact k
  | it mid since seen last =>
    cases nm <;> simp only [HBok] at k ⊢
    obtain ⟨mb, h1, h2⟩ := k
    exact ⟨mb, h _ _ h1, h2⟩
  | loop F nt fn ps assign body db s pd =>
    cases nm <;> simp only [HBok] at k ⊢
    obtain ⟨tmps, dnm, h1, h2, h3, h4⟩ := k
    refine ⟨tmps, dnm, h _ _ h1, h2, h3, fun t v hv => ?_⟩
    obtain ⟨u, e1, e2⟩ := h4 t v hv
    exact ⟨u, e1, den_ext h _ _ e2⟩

theorem cell?_of_heap {w w' : World} {a : Addr} (h : w'.heap[a.block]? = w.heap[a.block]?) : w'.cell? a = w.cell? a := by
  simp only [World.cell?, h]

theorem add_block (a : Addr) (n : Nat) : (a.add n).block = a.block := by unfold Addr.add; split <;> rfl

theorem add_add (a : Addr) (i j : Nat) : (a.add i).add j = a.add (i + j) := by
  unfold Addr.add
  by_cases hi : i = 0 <;> by_cases hj : j = 0 <;> simp [hi, hj, Nat.add_assoc]

theorem mapAt_world {w w' : World} {nm : Nat} {es : List (SV × SV × Nat)} {clock : Nat} (h : w'.heap[nm]? = w.heap[nm]?) (k : mapAt w nm es clock) : mapAt w' nm es clock := by
  obtain ⟨ms, h1, h2, h3⟩ := k
  exact ⟨ms, h1, h.trans h2, h3⟩

theorem HBok_world {ρ : Env} {w w' : World} {hb : HB} {nm : Nm} (hs : w.heap.size ≤ w'.heap.size)
    (ho : hb.live = true → ∀ b, nm.owner = some b → w'.heap[b]? = w.heap[b]?)
    (hr : ∀ size n get b, hb = .ro size n get → 0 < n → roBlock nm = some b → w'.heap[b]? = w.heap[b]?)
    (hfa : ∀ size C v n get b, hb = .fam size C → C v n get → 0 < n → slBlock v = some b → w'.heap[b]? = w.heap[b]?) (k : HBok ρ w hb nm) : HBok ρ w' hb nm := by
  cases hb with
  | dead => trivial
  | cells T cs =>
    cases nm <;> simp only [HBok] at k ⊢
    obtain ⟨vs, h1, h2, h3⟩ := k
    exact ⟨vs, h1, h2, (ho rfl _ rfl).trans h3⟩
  | ro size n get =>
    cases nm <;> simp only [HBok] at k ⊢
    obtain ⟨h1, h2, h0, h3⟩ := k
    refine ⟨h1, h2, h0, fun hn => ?_⟩
    obtain ⟨ad, e, hb, hc⟩ := h3 hn
    subst e
    refine ⟨ad, rfl, by omega, fun i hi => ?_⟩
    obtain ⟨vs, d1, d2, d3, d4⟩ := hc i hi
    refine ⟨vs, d1, d2, d3, fun j v hv => ?_⟩
    rw [cell?_of_heap (w := w) (by rw [add_block]; exact hr _ _ _ _ rfl hn rfl)]
    exact d4 j v hv
  | row T size n xs =>
    cases nm <;> simp only [HBok] at k ⊢
    obtain ⟨h1, h2, h3, vs, rest, h4, h5, h6, h7, h8⟩ := k
    exact ⟨h1, h2, h3, vs, rest, h4, h5, h6, h7, (ho rfl _ rfl).trans h8⟩
  | vec T size n get =>
    cases nm <;> simp only [HBok] at k ⊢
    · exact k
    obtain ⟨h1, h2, h3, cells, h4, h5⟩ := k
    exact ⟨h1, h2, h3, cells, (ho rfl _ rfl).trans h4, h5⟩
  | map es clock =>
    cases nm <;> simp only [HBok] at k ⊢
    exact mapAt_world (ho rfl _ rfl) k
  | mp es =>
    cases nm <;> simp only [HBok] at k ⊢
    obtain ⟨ses, clock, h1, h2⟩ := k
    exact ⟨ses, clock, mapAt_world (ho rfl _ rfl) h1, h2⟩
  | it mid since seen last =>
    cases nm <;> simp only [HBok] at k ⊢
    obtain ⟨mb, h1, h2⟩ := k
    exact ⟨mb, h1, (ho rfl _ rfl).trans h2⟩
  | loop F nt fn ps assign body db s pd =>
    cases nm <;> simp only [HBok] at k ⊢
    obtain ⟨tmps, dnm, h1, h2, h3, h4⟩ := k
    exact ⟨tmps, dnm, h1, (ho rfl _ rfl).trans h2, h3, h4⟩
  | dfr =>
    cases nm <;> simp only [HBok] at k ⊢
    exact (ho rfl _ rfl).trans k
  | fam size C =>
    cases nm <;> simp only [HBok] at k ⊢
    refine ⟨k.1, fun v n get hc => ?_⟩
    obtain ⟨a, c, e, h1, h2⟩ := k.2 v n get hc
    refine ⟨a, c, e, h1, fun hn => ?_⟩
    obtain ⟨ad, rfl, hb, h3⟩ := h2 hn
    refine ⟨ad, rfl, by omega, fun i hi => ?_⟩
    obtain ⟨vs, d1, d2, d3, d4⟩ := h3 i hi
    refine ⟨vs, d1, d2, d3, fun j v' hv => ?_⟩
    rw [cell?_of_heap (w := w) (by rw [add_block]; exact hfa _ _ _ _ _ _ rfl hc hn (by rw [e]; rfl))]
    exact d4 j v' hv

theorem HM.lt {ρ : Env} {H : LH} {w : World} (h : HM ρ H w) {b : Nat} (ho : Own ρ H b) : b < w.heap.size := by
  obtain ⟨id, hb, nm, h1, h2, h3, h4⟩ := ho
  obtain ⟨nm', h5, h6⟩ := h.ok _ _ h1
  rw [h3] at h5; cases h5
  have key : ∀ o, w.heap[b]? = some o → b < w.heap.size := fun o ho => by
    rcases Nat.lt_or_ge b w.heap.size with hlt | hge
    · exact hlt
    · rw [Array.getElem?_eq_none hge] at ho; cases ho
  cases hb with
  | dead => cases h2
  | cells T cs =>
    cases nm <;> simp only [HBok] at h6
    simp only [Nm.owner] at h4; cases h4
    obtain ⟨vs, _, _, h⟩ := h6
    exact key _ h
  | ro size n get =>
    cases nm <;> simp only [HBok] at h6
    simp [Nm.owner] at h4
  | row T size n xs =>
    cases nm <;> simp only [HBok] at h6
    simp only [Nm.owner] at h4; cases h4
    obtain ⟨_, _, _, vs, rest, _, _, _, _, h⟩ := h6
    exact key _ h
  | vec T size n get =>
    cases nm <;> simp only [HBok] at h6
    · simp [Nm.owner] at h4
    simp only [Nm.owner] at h4; cases h4
    obtain ⟨_, _, _, cells, h, _⟩ := h6
    exact key _ h
  | map es clock =>
    cases nm <;> simp only [HBok] at h6
    simp only [Nm.owner] at h4; cases h4
    obtain ⟨ms, _, h, _⟩ := h6
    exact key _ h
  | mp es =>
    cases nm <;> simp only [HBok] at h6
    simp only [Nm.owner] at h4; cases h4
    obtain ⟨ses, clock, ⟨ms, _, h, _⟩, _⟩ := h6
    exact key _ h
  | it mid since seen last =>
    cases nm <;> simp only [HBok] at h6
    simp only [Nm.owner] at h4; cases h4
    obtain ⟨mb, _, h⟩ := h6
    exact key _ h
  | loop F nt fn ps assign body db s pd =>
    cases nm <;> simp only [HBok] at h6
    simp only [Nm.owner] at h4; cases h4
    obtain ⟨tmps, dnm, _, h, _⟩ := h6
    exact key _ h
  | dfr =>
    cases nm <;> simp only [HBok] at h6
    simp only [Nm.owner] at h4; cases h4
    exact key _ h6
  | fam size C =>
    cases nm <;> simp only [HBok] at h6
    simp [Nm.owner] at h4

/-- The block of a slice that is told of is there. -/
theorem HM.fam_lt {ρ : Env} {H : LH} {w : World} (h : HM ρ H w) {id size : Nat} {C : Value → Nat → (Nat → List SV) → Prop} {v : Value} {n : Nat} {get : Nat → List SV} {b : Nat} (hf : H id = some (.fam size C)) (hc : C v n get) (hn : 0 < n) (hb : slBlock v = some b) : b < w.heap.size := by
  obtain ⟨nm, h1, h2⟩ := h.ok id _ hf
  cases nm <;> simp only [HBok] at h2
  obtain ⟨a, c, e, h3, h4⟩ := h2.2 v n get hc
  obtain ⟨ad, e2, hlt, _⟩ := h4 hn
  subst e2
  rw [e] at hb
  simp only [slBlock, Option.some.injEq] at hb
  omega

theorem HM.fz_lt {ρ : Env} {H : LH} {w : World} (h : HM ρ H w) {b : Nat} (hf : Fz H b) : b < w.heap.size := by
  obtain ⟨id, size, C, v, n, get, h1, h2, h3, h4⟩ := hf
  exact h.fam_lt h1 h2 h3 h4
theorem Fz.mono {H H' : LH} {b : Nat} (hs : ∀ id size C, H' id = some (.fam size C) → ∃ id' C', H id' = some (.fam size C') ∧ ∀ v n get, C v n get → C' v n get) (h : Fz H' b) : Fz H b := by
  obtain ⟨id, size, C, v, n, get, h1, h2, h3, h4⟩ := h
  obtain ⟨id', C', h5, h6⟩ := hs _ _ _ h1
  exact ⟨id', size, C', v, n, get, h5, h6 _ _ _ h2, h3, h4⟩
theorem Fz.sub {H H' : LH} {b : Nat} (hs : ∀ id size C, H' id = some (.fam size C) → H id = some (.fam size C)) (h : Fz H' b) : Fz H b :=
  h.mono fun id size C h => ⟨id, C, hs _ _ _ h, fun _ _ _ h => h⟩
theorem Fz.upd {H : LH} {id : Nat} {hb : HB} {b : Nat} (hb' : ∀ s C, hb ≠ .fam s C) (h : Fz (updL H id hb) b) : Fz H b :=
  h.sub fun j size C hj => by
    by_cases e : id = j
    · subst e; rw [updL_self] at hj; cases hj; exact (hb' _ _ rfl).elim
    · rw [updL_ne _ _ e] at hj; exact hj

/-- A world in which nothing that lay has turned. -/
theorem HM.world {ρ : Env} {H : LH} {w w' : World} (h : HM ρ H w) (hs : w.heap.size ≤ w'.heap.size)
    (hk : ∀ b, b < w.heap.size → w'.heap[b]? = w.heap[b]?) : HM ρ H w' where
  ok id hb hf := by
    obtain ⟨nm, h1, h2⟩ := h.ok id hb hf
    refine ⟨nm, h1, HBok_world hs (fun hl b hb' => hk b (h.lt ⟨id, hb, nm, hf, hl, h1, hb'⟩)) ?_ (fun size C v n get b e hc hn hb' => hk b (h.fam_lt (e ▸ hf) hc hn hb')) h2⟩
    intro size n get b e hn hr
    subst e
    cases nm <;> simp only [HBok] at h2
    obtain ⟨_, _, _, h3⟩ := h2
    obtain ⟨ad, e, hlt, _⟩ := h3 hn
    subst e
    simp only [roBlock] at hr; cases hr
    exact hk _ hlt
  sep := h.sep
  ro := h.ro
  fam := h.fam

end Go.X
end

section
set_option linter.unusedVariables false
set_option linter.unusedSimpArgs false
set_option linter.unusedSectionVars false
/- How pieces of the heap are laid and turned; type tables; operands. -/
set_option linter.unusedVariables false
namespace Go.X
open Go

def upd (ρ : Env) (id : Nat) (nm : Nm) : Env := fun j => if j = id then some nm else ρ j
theorem upd_self (ρ : Env) (id : Nat) (nm : Nm) : upd ρ id nm id = some nm := by simp [upd]
theorem upd_ne (ρ : Env) {id j : Nat} (nm : Nm) (h : j ≠ id) : upd ρ id nm j = ρ j := by simp [upd, h]
theorem Ext.upd {ρ : Env} {id : Nat} (nm : Nm) (h : ρ id = none) : Ext ρ (upd ρ id nm) := fun j n hj => by
  rw [upd_ne]
  · exact hj
  · rintro rfl; rw [h] at hj; cases hj

theorem heap_alloc_lt (w : World) (o : Obj) {b : Nat} (h : b < w.heap.size) : (w.alloc o).heap[b]? = w.heap[b]? := by
  show (w.heap.push o)[b]? = w.heap[b]?
  simp [Array.getElem?_push, Nat.ne_of_lt h]
theorem size_alloc (w : World) (o : Obj) : (w.alloc o).heap.size = w.heap.size + 1 := by
  show (w.heap.push o).size = w.heap.size + 1
  simp

theorem Own.cons {ρ : Env} {H : LH} {id : Nat} {hb : HB} {nm : Nm} {b : Nat} (hf : ρ id = none) (h : Own (upd ρ id nm) (updL H id hb) b) :
    nm.owner = some b ∨ Own ρ H b := by
  obtain ⟨j, hb', nm', h1, h2, h3, h4⟩ := h
  by_cases e : id = j
  · subst e
    rw [upd_self] at h3; cases h3
    exact .inl h4
  · rw [updL_ne _ _ e] at h1
    rw [upd_ne _ _ (Ne.symm e)] at h3
    exact .inr ⟨j, hb', nm', h1, h2, h3, h4⟩

theorem HM.push {ρ : Env} {H : LH} {w : World} (h : HM ρ H w) {id : Nat} {hb : HB} {nm : Nm} (hf : ρ id = none) (o : Obj)
    (hok : HBok (upd ρ id nm) (w.alloc o) hb nm) (hown : ∀ b, nm.owner = some b → b = w.heap.size) (hro : ∀ b, roBlock nm = some b → b = w.heap.size) (hfa : ∀ s C, hb ≠ .fam s C := by intro s C h; cases h) :
    HM (upd ρ id nm) (updL H id hb) (w.alloc o) where
  ok j hb' hj := by
    by_cases e : id = j
    · subst e
      rw [updL_self] at hj; cases hj
      exact ⟨nm, upd_self _ _ _, hok⟩
    · rw [updL_ne _ _ e] at hj
      have hw := h.world (w' := w.alloc o) (by rw [size_alloc]; omega) (fun b hb => heap_alloc_lt w o hb)
      obtain ⟨nm', h1, h2⟩ := hw.ok j hb' hj
      exact ⟨nm', by rw [upd_ne _ _ (Ne.symm e)]; exact h1, HBok_ext (Ext.upd nm hf) h2⟩
  sep i j hb₁ hb₂ n₁ n₂ b h1 h2 l1 l2 r1 r2 o1 o2 := by
    by_cases e1 : id = i <;> by_cases e2 : id = j
    · exact e1.symm.trans e2
    · subst e1
      rw [upd_self] at r1; cases r1
      rw [updL_ne _ _ e2] at h2
      rw [upd_ne _ _ (Ne.symm e2)] at r2
      have := h.lt ⟨j, hb₂, n₂, h2, l2, r2, o2⟩
      have := hown b o1
      omega
    · subst e2
      rw [upd_self] at r2; cases r2
      rw [updL_ne _ _ e1] at h1
      rw [upd_ne _ _ (Ne.symm e1)] at r1
      have := h.lt ⟨i, hb₁, n₁, h1, l1, r1, o1⟩
      have := hown b o2
      omega
    · rw [updL_ne _ _ e1] at h1
      rw [upd_ne _ _ (Ne.symm e1)] at r1
      rw [updL_ne _ _ e2] at h2
      rw [upd_ne _ _ (Ne.symm e2)] at r2
      exact h.sep i j hb₁ hb₂ n₁ n₂ b h1 h2 l1 l2 r1 r2 o1 o2
  ro j size n get nm' b hj hn hr hb' := by
    intro ho
    by_cases e : id = j
    · subst e
      rw [upd_self] at hr; cases hr
      have e1 := hro b hb'
      rcases Own.cons hf ho with h1 | h1
      · cases nm <;> simp [Nm.owner, roBlock] at h1 hb'
      · have := h.lt h1; omega
    · rw [updL_ne _ _ e] at hj
      rw [upd_ne _ _ (Ne.symm e)] at hr
      rcases Own.cons hf ho with h1 | h1
      · have e1 := hown b h1
        obtain ⟨nm'', h5, h6⟩ := h.ok _ _ hj
        rw [hr] at h5; cases h5
        cases nm' <;> simp only [HBok] at h6
        obtain ⟨_, _, _, h7⟩ := h6
        obtain ⟨ad, e3, hlt, _⟩ := h7 hn
        subst e3
        simp only [roBlock] at hb'; cases hb'
        omega
      · exact h.ro j size n get nm' b hj hn hr hb' h1
  fam b hz := by
    intro ho
    have hz := hz.upd hfa
    rcases Own.cons hf ho with h1 | h1
    · have e1 := hown b h1
      have := h.fz_lt hz
      omega
    · exact h.fam b hz h1

/-- The live piece id is turned: only its own block. -/
theorem HM.put {ρ : Env} {H : LH} {w w' : World} (h : HM ρ H w) {id : Nat} {hb hb' : HB} {nm : Nm} {b : Nat} (hf : H id = some hb) (hl : hb.live = true)
    (hn : ρ id = some nm) (ho : nm.owner = some b) (hs : w.heap.size ≤ w'.heap.size) (hk : ∀ k, k < w.heap.size → k ≠ b → w'.heap[k]? = w.heap[k]?)
    (hok : HBok ρ w' hb' nm) (hl' : hb'.live = true) (hnr : ∀ s n g, hb' ≠ .ro s n g) : HM ρ (updL H id hb') w' := by
  have hown : ∀ c, Own ρ (updL H id hb') c → Own ρ H c := by
    rintro c ⟨j, x, nm', h1, h2, h3, h4⟩
    by_cases e : id = j
    · subst e
      rw [hn] at h3; cases h3
      exact ⟨id, hb, nm, hf, hl, hn, h4⟩
    · rw [updL_ne _ _ e] at h1
      exact ⟨j, x, nm', h1, h2, h3, h4⟩
  refine ⟨?_, ?_, ?_, ?_⟩
  · intro j x hj
    by_cases e : id = j
    · subst e
      rw [updL_self] at hj; cases hj
      exact ⟨nm, hn, hok⟩
    · rw [updL_ne _ _ e] at hj
      obtain ⟨nm', h1, h2⟩ := h.ok j x hj
      refine ⟨nm', h1, HBok_world hs ?_ ?_ ?_ h2⟩
      · intro hlx c hc
        refine hk c (h.lt ⟨j, x, nm', hj, hlx, h1, hc⟩) ?_
        rintro rfl
        exact e (h.sep id j hb x nm nm' c hf hj hl hlx hn h1 ho hc)
      · intro size n get c ex hn0 hr
        subst ex
        cases nm' <;> simp only [HBok] at h2
        obtain ⟨_, _, _, h3⟩ := h2
        obtain ⟨ad, ead, hlt, _⟩ := h3 hn0
        subst ead
        have hr' := hr
        simp only [roBlock] at hr; cases hr
        refine hk _ hlt ?_
        intro e5
        exact h.ro j size n get _ _ hj hn0 h1 hr' (e5 ▸ ⟨id, hb, nm, hf, hl, hn, ho⟩)
      · intro size C v n get c ex hc hn0 hb0
        subst ex
        refine hk _ (h.fam_lt hj hc hn0 hb0) ?_
        intro e5
        exact h.fam _ ⟨j, size, C, v, n, get, hj, hc, hn0, hb0⟩ (e5 ▸ ⟨id, hb, nm, hf, hl, hn, ho⟩)
  · intro i j x y n₁ n₂ c h1 h2 l1 l2 r1 r2 o1 o2
    by_cases e1 : id = i <;> by_cases e2 : id = j
    · exact e1.symm.trans e2
    · subst e1
      rw [hn] at r1; cases r1
      rw [updL_ne _ _ e2] at h2
      exact h.sep id j hb y nm n₂ c hf h2 hl l2 hn r2 o1 o2
    · subst e2
      rw [hn] at r2; cases r2
      rw [updL_ne _ _ e1] at h1
      exact h.sep i id x hb n₁ nm c h1 hf l1 hl r1 hn o1 o2
    · rw [updL_ne _ _ e1] at h1
      rw [updL_ne _ _ e2] at h2
      exact h.sep i j x y n₁ n₂ c h1 h2 l1 l2 r1 r2 o1 o2
  · intro j size n get nm' c hj hn0 hr hb0 hoc
    by_cases e : id = j
    · subst e
      rw [updL_self] at hj; cases hj
      exact hnr _ _ _ rfl
    · rw [updL_ne _ _ e] at hj
      exact h.ro j size n get nm' c hj hn0 hr hb0 (hown c hoc)
  · intro c hz hoc
    refine h.fam c (hz.upd fun s C e => ?_) (hown c hoc)
    subst e
    cases nm <;> simp only [HBok] at hok
    cases ho

theorem Own.put {ρ : Env} {H : LH} {id : Nat} {hb hb' : HB} (hf : H id = some hb) (hl : hb.live = true) {c : Nat} (h : Own ρ (updL H id hb') c) : Own ρ H c := by
  obtain ⟨j, x, nm', h1, h2, h3, h4⟩ := h
  by_cases e : id = j
  · subst e
    exact ⟨id, hb, nm', hf, hl, h3, h4⟩
  · rw [updL_ne _ _ e] at h1
    exact ⟨j, x, nm', h1, h2, h3, h4⟩

theorem Keep.push {G : Base} {ρ : Env} {H : LH} {w : World} (k : Keep G ρ H w) {id : Nat} {hb : HB} {nm : Nm} (hf : ρ id = none) (o : Obj)
    (hown : ∀ b, nm.owner = some b → b = w.heap.size) (hfa : ∀ s C, hb ≠ .fam s C := by intro s C h; cases h) : Keep G (upd ρ id nm) (updL H id hb) (w.alloc o) where
  str := k.str.trans ⟨rfl, rfl⟩
  size := by rw [size_alloc]; have := k.size; omega
  same b hb hm := (heap_alloc_lt w o (by have := k.size; omega)).trans (k.same b hb hm)
  own b ho := by
    rcases Own.cons hf ho with h | h
    · have := hown b h; have := k.size; exact .inr (by omega)
    · exact k.own b h
  ext := k.ext.trans (Ext.upd nm hf)
  fz b h := k.fz b (h.upd hfa)

theorem Keep.put {G : Base} {ρ : Env} {H : LH} {w w' : World} (k : Keep G ρ H w) {id : Nat} {hb hb' : HB} {nm : Nm} {b : Nat} (hf : H id = some hb) (hl : hb.live = true)
    (hn : ρ id = some nm) (ho : nm.owner = some b) (hs : w.heap.size ≤ w'.heap.size) (hk : ∀ k, k < w.heap.size → k ≠ b → w'.heap[k]? = w.heap[k]?) (hst : Str w w' := by exact ⟨rfl, rfl⟩) (hfa : ∀ s C, hb' ≠ .fam s C := by intro s C h; cases h) :
    Keep G ρ (updL H id hb') w' where
  str := k.str.trans hst
  size := Nat.le_trans k.size hs
  same c hc hm := by
    have : c ≠ b := by
      rintro rfl
      rcases k.own c ⟨id, hb, nm, hf, hl, hn, ho⟩ with h | h
      · exact hm h
      · omega
    exact (hk c (by have := k.size; omega) this).trans (k.same c hc hm)
  own c h := k.own c (Own.put hf hl h)
  ext := k.ext
  fz b h := k.fz b (h.upd hfa)

theorem Keep.world {G : Base} {ρ : Env} {H : LH} {w w' : World} (k : Keep G ρ H w) (hs : w.heap.size ≤ w'.heap.size)
    (hk : ∀ b, b < w.heap.size → w'.heap[b]? = w.heap[b]?) (hst : Str w w' := by exact ⟨rfl, rfl⟩) : Keep G ρ H w' where
  str := k.str.trans hst
  size := Nat.le_trans k.size hs
  same c hc hm := (hk c (by have := k.size; omega)).trans (k.same c hc hm)
  own := k.own
  ext := k.ext
  fz := k.fz

/-! ### Type tables -/

structure TI where
  desc : TypeDesc
  zero : Value
  size : Nat
  bytes : Nat
  /-- Is '==' on it field by field, with no more to ask? -/
  plain : Bool
  /-- Is the method by this name one of the type's own, on the value? -/
  meths : String → Bool

abbrev Tab := Nat → Option TI

def TabOk (P : Program) (T : Tab) : Prop :=
  ∀ t ti, T t = some ti → P.underlying t = some ti.desc ∧ (∃ i, P.info? t = some i ∧ i.zero = some ti.zero ∧ i.size = ti.size ∧ i.bytes = ti.bytes) ∧
    (ti.plain = true → P.stoodInHeld t = false ∧ P.eqGuardType P.depth t = false ∧ ∀ f ∈ (P.fieldsOf t).toList, f.name ≠ "_") ∧ (∀ name, ti.meths name = true → ∀ v w, (Go.nilAhead (P.types.size + Made.depth) t v name).run P w = .ok (some false) w)

def aggD : TypeDesc → Bool
  | .struct _ => true
  | .array _ _ => true
  | _ => false

section
variable {P : Program} {T : Tab} (hT : TabOk P T) {t : Nat} {ti : TI} (h : T t = some ti) (w : World)
include hT h
theorem run_und : (underlying t).run P w = .ok ti.desc w := run_underlying (hT t ti h).1 w
theorem run_info : ∃ i, (typeInfo t).run P w = .ok i w ∧ i.zero = some ti.zero ∧ i.size = ti.size ∧ i.bytes = ti.bytes := by
  obtain ⟨_, ⟨i, h1, h2, h3, h4⟩, _⟩ := hT t ti h
  exact ⟨i, by simp [typeInfo, h1], h2, h3, h4⟩
theorem run_size : (sizeOf t).run P w = .ok ti.size w := by
  obtain ⟨_, ⟨i, h1, h2, h3, h4⟩, _⟩ := hT t ti h
  simp [sizeOf, typeInfo, h1, h3]
theorem run_zero : (zeroValue t).run P w = .ok ti.zero w := by
  obtain ⟨_, ⟨i, h1, h2, h3, h4⟩, _⟩ := hT t ti h
  simp [zeroValue, typeInfo, h1, h2]
theorem run_isAgg : (isAgg t).run P w = .ok (aggD ti.desc) w := by
  simp only [isAgg, Sem.run_bind, run_und hT h, Result.andThen]
  cases ti.desc <;> rfl
end

/-! ### Operands -/

def ofValue : Value → Option SV
  | .int k n => some (.si k n)
  | .bool p => some (.sb p)
  | .agg _ => none
  | .tuple _ => none
  | x => some (.sv x)

theorem ofValue_den (ρ : Env) {x : Value} {s : SV} (h : ofValue x = some s) : den ρ s = some x := by
  cases x <;> simp [ofValue] at h <;> subst h <;> simp [den, Value.oneCell']

def eqB : Bool → Bool → Bool
  | true, true => true
  | false, false => true
  | _, _ => false
def memGP : GP → Nat → Bool → Bool
  | [], _, _ => false
  | (s, p) :: r, t, q => if Nat.beq s t then (if eqB p q then true else memGP r t q) else memGP r t q
def subGP : GP → GP → Bool
  | [], _ => true
  | (s, p) :: r, π => if memGP π s p then subGP r π else false

theorem memGP_mem {π : GP} {t : Nat} {q : Bool} (h : memGP π t q = true) : (t, q) ∈ π := by
  induction π with
  | nil => cases h
  | cons x r ih =>
    obtain ⟨s, p⟩ := x
    simp only [memGP] at h
    split at h
    · rename_i e1
      have e1' : s = t := by simpa using e1
      split at h
      · rename_i e2
        have : p = q := by cases p <;> cases q <;> simp [eqB] at e2 <;> rfl
        subst this; subst e1'
        exact List.mem_cons_self
      · exact List.mem_cons_of_mem _ (ih h)
    · exact List.mem_cons_of_mem _ (ih h)
theorem subGP_sat {σ π : GP} {a : Act} (h : subGP σ π = true) (hs : GPsat a π) : GPsat a σ := by
  induction σ with
  | nil => intro x hx; cases hx
  | cons x r ih =>
    obtain ⟨s, p⟩ := x
    simp only [subGP] at h
    split at h
    · rename_i e
      intro y hy
      rcases List.mem_cons.1 hy with rfl | hy
      · exact hs _ (memGP_mem e)
      · exact ih h y hy
    · cases h

def ev (F : LF) (π : GP) : Operand → Option SV
  | .tmp t => match F t with
    | some e => if subGP e.gp π then some e.v else none
    | none => none
  | .const v => ofValue v
  | .func f => some (.fn (.func f) [] [])
  | .global _ => none

theorem ev_ok {ρ : Env} {F : LF} {a : Act} (h : FM ρ F a) {π : GP} (hs : GPsat a π) {x : Operand} {s : SV} (he : ev F π x = some s) :
    den ρ s = some (a.eval x) := by
  cases x with
  | tmp t =>
    simp only [ev] at he
    cases hf : F t with
    | none => simp [hf] at he
    | some e =>
      simp only [hf] at he
      split at he
      · rename_i hg
        cases he
        obtain ⟨v, h1, h2⟩ := (h t e hf).1 (subGP_sat hg hs)
        simp [Act.eval, Array.getD_eq_getD_getElem?, h1, h2]
      · cases he
  | const v => exact ofValue_den ρ he
  | func f => simp only [ev] at he; cases he; simp [den, denL, Act.eval]
  | global g => simp [ev] at he

end Go.X
end

section
set_option linter.unusedVariables false
set_option linter.unusedSimpArgs false
set_option linter.unusedSectionVars false
/- The operations that need no callee: what each comes to. -/
set_option linter.unusedVariables false
namespace Go.X
open Go

inductive Eff where
  | no
  | st (id off : Nat) (cs : List SV)
  | new (hb : HB)

structure Out where
  pre : Option Prop
  v : SV
  eff : Eff

def PreH : Option Prop → Prop
  | none => True
  | some p => p

def nth {α : Type} : List α → Nat → Option α
  | [], _ => none
  | x :: _, 0 => some x
  | _ :: r, n + 1 => nth r n
def takeL {α : Type} : Nat → List α → List α
  | 0, _ => []
  | _, [] => []
  | n + 1, x :: r => x :: takeL n r
def dropL {α : Type} : Nat → List α → List α
  | 0, l => l
  | _, [] => []
  | n + 1, _ :: r => dropL n r
def lenL {α : Type} : List α → Nat
  | [] => 0
  | _ :: r => lenL r + 1
def setL {α : Type} : List α → Nat → List α → List α
  | l, _, [] => l
  | [], _, _ => []
  | _ :: r, 0, y :: n => y :: setL r 0 n
  | x :: r, i + 1, y :: n => x :: setL r i (y :: n)

theorem nth_eq {α : Type} (l : List α) (n : Nat) : nth l n = l[n]? := by
  induction l generalizing n with
  | nil => simp [nth]
  | cons x r ih => cases n <;> simp [nth, ih]
theorem takeL_eq {α : Type} (l : List α) (n : Nat) : takeL n l = l.take n := by
  induction l generalizing n with
  | nil => cases n <;> simp [takeL]
  | cons x r ih => cases n <;> simp [takeL, ih]
theorem dropL_eq {α : Type} (l : List α) (n : Nat) : dropL n l = l.drop n := by
  induction l generalizing n with
  | nil => cases n <;> simp [dropL]
  | cons x r ih => cases n <;> simp [dropL, ih]
theorem lenL_eq {α : Type} (l : List α) : lenL l = l.length := by
  induction l with
  | nil => rfl
  | cons x r ih => simp [lenL, ih]
theorem setL_eq {α : Type} (l : List α) (i : Nat) (n : List α) (h : i + n.length ≤ l.length) : setL l i n = l.take i ++ n ++ l.drop (i + n.length) := by
  induction l generalizing i n with
  | nil => cases n with
    | nil => simp [setL]
    | cons y n => simp at h
  | cons x r ih =>
    cases n with
    | nil => simp [setL]
    | cons y n =>
      cases i with
      | zero => simp [setL]; simp at h; rw [ih 0 n (by omega)]; simp
      | succ i =>
        simp at h
        simp only [setL]
        rw [ih i (y :: n) (by simp; omega)]
        have e : i + 1 + (n.length + 1) = (i + (n.length + 1)) + 1 := by omega
        simp [e]

/-! ### Lists of values -/

theorem denL_len {ρ : Env} {l : List SV} {vs : List Value} (h : denL ρ l = some vs) : vs.length = l.length := by
  induction l generalizing vs with
  | nil => simp [denL] at h; simp [h]
  | cons x r ih =>
    simp only [denL] at h
    cases e : den ρ x with
    | none => simp [e] at h
    | some u =>
      cases e2 : denL ρ r with
      | none => simp [e, e2] at h
      | some us => simp [e, e2] at h; subst h; simp [ih e2]
theorem denL_cons {ρ : Env} {x : SV} {r : List SV} {vs : List Value} (h : denL ρ (x :: r) = some vs) : ∃ u us, den ρ x = some u ∧ denL ρ r = some us ∧ vs = u :: us := by
  simp only [denL] at h
  cases e : den ρ x with
  | none => simp [e] at h
  | some u =>
    cases e2 : denL ρ r with
    | none => simp [e, e2] at h
    | some us => simp [e, e2] at h; exact ⟨u, us, rfl, rfl, h.symm⟩
theorem denL_mk {ρ : Env} {x : SV} {r : List SV} {u : Value} {us : List Value} (h : den ρ x = some u) (k : denL ρ r = some us) : denL ρ (x :: r) = some (u :: us) := by
  simp [denL, h, k]
theorem denL_get {ρ : Env} {l : List SV} {vs : List Value} (h : denL ρ l = some vs) {i : Nat} {s : SV} (hs : l[i]? = some s) : ∃ v, vs[i]? = some v ∧ den ρ s = some v := by
  induction l generalizing vs i with
  | nil => simp at hs
  | cons x r ih =>
    obtain ⟨u, us, h1, h2, rfl⟩ := denL_cons h
    cases i with
    | zero => simp at hs; subst hs; exact ⟨u, by simp, h1⟩
    | succ i => simp at hs; obtain ⟨v, h3, h4⟩ := ih h2 hs; exact ⟨v, by simpa using h3, h4⟩
theorem denL_append {ρ : Env} {l m : List SV} {vs us : List Value} (h : denL ρ l = some vs) (k : denL ρ m = some us) : denL ρ (l ++ m) = some (vs ++ us) := by
  induction l generalizing vs with
  | nil => simp [denL] at h; subst h; simpa using k
  | cons x r ih =>
    obtain ⟨u, us', h1, h2, rfl⟩ := denL_cons h
    exact denL_mk h1 (ih h2)
theorem denL_take {ρ : Env} {l : List SV} {vs : List Value} (h : denL ρ l = some vs) (n : Nat) : denL ρ (l.take n) = some (vs.take n) := by
  induction l generalizing vs n with
  | nil => simp [denL] at h; subst h; simp [denL]
  | cons x r ih =>
    obtain ⟨u, us, h1, h2, rfl⟩ := denL_cons h
    cases n with
    | zero => simp [denL]
    | succ n => exact denL_mk h1 (ih h2 n)
theorem denL_drop {ρ : Env} {l : List SV} {vs : List Value} (h : denL ρ l = some vs) (n : Nat) : denL ρ (l.drop n) = some (vs.drop n) := by
  induction l generalizing vs n with
  | nil => simp [denL] at h; subst h; simp [denL]
  | cons x r ih =>
    obtain ⟨u, us, h1, h2, rfl⟩ := denL_cons h
    cases n with
    | zero => simpa using h
    | succ n => simpa using ih h2 n
theorem denL_set {ρ : Env} {l m : List SV} {vs us : List Value} (h : denL ρ l = some vs) (k : denL ρ m = some us) (i : Nat) (hi : i + m.length ≤ l.length) :
    denL ρ (setL l i m) = some (vs.take i ++ us ++ vs.drop (i + us.length)) := by
  rw [setL_eq _ _ _ hi]
  have := denL_append (denL_append (denL_take h i) k) (denL_drop h (i + m.length))
  rw [denL_len k]
  exact this

/-- The cells of a value. -/
def cellsS : SV → Option (List SV)
  | .agg l => some l
  | .tup _ => none
  | x => some [x]
theorem cells_one {v : Value} (h : v.oneCell' = true) : v.cells = #[v] := by
  cases v <;> first | rfl | (simp [Value.oneCell'] at h)
theorem den_one {ρ : Env} {x : SV} {l : List SV} {v : Value} (h : cellsS x = some l) (hl : ∀ m, x ≠ .agg m) (hd : den ρ x = some v) : l = [x] ∧ v.oneCell' = true := by
  cases x with
  | ss id off len tot =>
    simp only [cellsS] at h; cases h
    simp only [den] at hd
    split at hd
    · rename_i nm _
      cases nm with
      | blk b => simp only [partOf] at hd; cases hd; exact ⟨rfl, rfl⟩
      | sl a n c s =>
        cases a with
        | none => simp only [partOf] at hd; cases hd
        | some ad =>
          simp only [partOf] at hd
          split at hd
          · cases hd; exact ⟨rfl, rfl⟩
          · cases hd
      | row b n c s =>
        simp only [partOf] at hd
        split at hd
        · cases hd; exact ⟨rfl, rfl⟩
        · cases hd
    · cases hd
  | agg m => exact absurd rfl (hl m)
  | tup m => cases h
  | sv y =>
    simp only [cellsS] at h; cases h
    simp only [den] at hd
    split at hd
    · rename_i ho; cases hd; exact ⟨rfl, ho⟩
    · cases hd
  | si k n => simp only [cellsS] at h; cases h; simp only [den] at hd; cases hd; exact ⟨rfl, rfl⟩
  | sb p => simp only [cellsS] at h; cases h; simp only [den] at hd; cases hd; exact ⟨rfl, rfl⟩
  | sp id off =>
    simp only [cellsS] at h; cases h
    simp only [den] at hd
    split at hd <;> cases hd
    exact ⟨rfl, rfl⟩
  | se id i off =>
    simp only [cellsS] at h; cases h
    simp only [den] at hd
    split at hd
    · split at hd <;> cases hd
      exact ⟨rfl, rfl⟩
    · split at hd <;> cases hd
      exact ⟨rfl, rfl⟩
    · cases hd
  | sl id =>
    simp only [cellsS] at h; cases h
    simp only [den] at hd
    split at hd <;> cases hd <;> exact ⟨rfl, rfl⟩
  | sm id =>
    simp only [cellsS] at h; cases h
    simp only [den] at hd
    split at hd <;> cases hd
    exact ⟨rfl, rfl⟩
  | fy id =>
    simp only [cellsS] at h; cases h
    simp only [den] at hd
    split at hd <;> cases hd
    exact ⟨rfl, rfl⟩
  | fn f a b =>
    simp only [cellsS] at h; cases h
    simp only [den] at hd
    split at hd <;> cases hd
    exact ⟨rfl, rfl⟩
  | ifc t y =>
    simp only [cellsS] at h; cases h
    simp only [den] at hd
    split at hd <;> cases hd
    exact ⟨rfl, rfl⟩
theorem cellsS_ok {ρ : Env} {x : SV} {l : List SV} {v : Value} (h : cellsS x = some l) (hd : den ρ x = some v) :
    ∃ vs, denL ρ l = some vs ∧ vs.all (·.oneCell') = true ∧ v.cells = vs.toArray := by
  by_cases hx : ∃ m, x = .agg m
  · obtain ⟨m, rfl⟩ := hx
    simp only [cellsS, Option.some.injEq] at h
    subst h
    simp only [den] at hd
    cases e : denL ρ m with
    | none => simp [e] at hd
    | some vs =>
      simp only [e] at hd
      split at hd
      · rename_i ha
        cases hd
        exact ⟨vs, rfl, ha, rfl⟩
      · cases hd
  · obtain ⟨rfl, h1⟩ := den_one h (fun m e => hx ⟨m, e⟩) hd
    exact ⟨[v], denL_mk hd rfl, by simp [h1], by simp [cells_one h1]⟩

/-- A value out of cells: one of them, or several. -/
def loadC (agg : Bool) (size off : Nat) (cs : List SV) : Option SV :=
  match agg with
  | true => if Nat.beq (lenL (takeL size (dropL off cs))) size then some (.agg (takeL size (dropL off cs))) else none
  | false => nth cs off

theorem loadC_ok {ρ : Env} {ag : Bool} {size off : Nat} {cs : List SV} {vs : List Value} {s : SV} (h : loadC ag size off cs = some s) (hd : denL ρ cs = some vs) (ha : vs.all (·.oneCell') = true) :
    (ag = true → ((vs.drop off).take size).length = size ∧ den ρ s = some (.agg ((vs.drop off).take size).toArray)) ∧ (ag = false → ∃ v, vs[off]? = some v ∧ den ρ s = some v) := by
  constructor
  · rintro rfl
    simp only [loadC] at h
    split at h
    · rename_i hl
      cases h
      rw [takeL_eq, dropL_eq] at hl ⊢
      have hd' := denL_take (denL_drop hd off) size
      rw [lenL_eq] at hl
      have hl' : ((cs.drop off).take size).length = size := by simpa using hl
      refine ⟨by rw [denL_len hd', hl'], ?_⟩
      simp only [den, hd']
      rw [if_pos]
      rw [List.all_eq_true] at ha ⊢
      intro x hx
      exact ha x (List.mem_of_mem_drop (List.mem_of_mem_take hx))
    · cases h
  · rintro rfl
    simp only [loadC, nth_eq] at h
    exact denL_get hd h

end Go.X
end

section
set_option linter.unusedVariables false
set_option linter.unusedSimpArgs false
set_option linter.unusedSectionVars false
/- What the model's operations do, in the executor's words. -/
set_option linter.unusedVariables false
set_option linter.unusedSimpArgs false
namespace Go.X
open Go

variable {P : Program} {T : Tab}

theorem loadVar_ok (hT : TabOk P T) {t : Nat} {ti : TI} (h : T t = some ti) {w : World} {ad : Addr} {ρ : Env} {cs : List SV} {vs : List Value} {off : Nat} {s : SV}
    (hl : loadC (aggD ti.desc) ti.size off cs = some s) (hd : denL ρ cs = some vs) (ha : vs.all (·.oneCell') = true)
    (hc : ∀ j v, vs[off + j]? = some v → w.cell? (ad.add j) = some v) : ∃ v, (loadVar t ad).run P w = .ok v w ∧ den ρ s = some v := by
  obtain ⟨h1, h2⟩ := loadC_ok hl hd ha
  cases hag : aggD ti.desc with
  | true =>
    obtain ⟨hlen, hden⟩ := h1 hag
    refine ⟨_, ?_, hden⟩
    have hr := run_loadCells_list (P := P) w ad ((vs.drop off).take ti.size) (fun j v hj => by
      rw [List.getElem?_take] at hj
      split at hj
      · rw [List.getElem?_drop] at hj; exact hc j v hj
      · cases hj)
    rw [hlen] at hr
    simp [loadVar, run_isAgg hT h, hag, run_size hT h, hr, Result.andThen]
  | false =>
    obtain ⟨v, hv, hden⟩ := h2 hag
    refine ⟨v, ?_, hden⟩
    have := hc 0 v (by simpa using hv)
    have e : ad.add 0 = ad := by simp [Addr.add]
    rw [e] at this
    simp [loadVar, run_isAgg hT h, hag, Result.andThen, this]

theorem storeVar_ok (hT : TabOk P T) {t : Nat} {ti : TI} (h : T t = some ti) {w : World} {nm off TT : Nat} {v : Value} {us vs : List Value}
    (hv : v.cells = us.toArray) (hlen : us.length = ti.size) (ha : us.all (·.oneCell') = true)
    (hg : w.heap[nm]? = some (.cells vs.toArray TT (0, 0))) (hfit : off + us.length ≤ vs.length) :
    (storeVar t ⟨nm, off, none⟩ v).run P w = .ok () (w.setRow nm (vs.take off ++ us ++ vs.drop (off + us.length)).toArray) := by
  have hs := run_storeCells_at P nm off TT us 0 vs.toArray w hg (by simpa using hfit) (by rw [List.all_eq_true] at ha; exact ha)
  simp only [Nat.add_zero, List.size_toArray] at hs
  simp [storeVar, hv, run_size hT h, hlen, Result.andThen, hs]

theorem heap_setRow (w : World) (g : Nat) (cs : Array Value) (k : Nat) (h : k ≠ g) : (w.setRow g cs).heap[k]? = w.heap[k]? := by
  show (w.heap.modify g _)[k]? = _
  rw [Array.getElem?_modify]
  simp [Ne.symm h]
theorem size_setRow (w : World) (g : Nat) (cs : Array Value) : (w.setRow g cs).heap.size = w.heap.size := by
  show (w.heap.modify g _).size = _
  simp

theorem fieldPlace_ok (hT : TabOk P T) {f : Field} {ti : TI} (h : T f.type = some ti) (hs : ti.size ≠ 0) (ad : Addr) (w : World) :
    (fieldPlace ad f).run P w = .ok (ad.add f.offset) w := by
  simp [fieldPlace, run_size hT h, hs, Result.andThen]

theorem part_ok (hT : TabOk P T) {t : Nat} {ti : TI} (h : T t = some ti) {ρ : Env} {cs : List SV} {vs : List Value} {off : Nat} {s : SV}
    (hl : loadC (aggD ti.desc) ti.size off cs = some s) (hd : denL ρ cs = some vs) (ha : vs.all (·.oneCell') = true) (w : World) :
    ∃ v, (part t vs.toArray off).run P w = .ok v w ∧ den ρ s = some v := by
  obtain ⟨h1, h2⟩ := loadC_ok hl hd ha
  cases hag : aggD ti.desc with
  | true =>
    obtain ⟨hlen, hden⟩ := h1 hag
    refine ⟨_, ?_, hden⟩
    simp [part, run_isAgg hT h, hag, run_size hT h, Result.andThen]
    done
  | false =>
    obtain ⟨v, hv, hden⟩ := h2 hag
    exact ⟨v, by simp [part, run_isAgg hT h, hag, Result.andThen, hv], hden⟩

/-! ### Integers -/

def InK : IntKind → Int → Prop
  | .i64, n => -9223372036854775808 ≤ n ∧ n ≤ 9223372036854775807
  | .u64, n => 0 ≤ n ∧ n ≤ 18446744073709551615
  | .i32, n => -2147483648 ≤ n ∧ n ≤ 2147483647
  | .u32, n => 0 ≤ n ∧ n ≤ 4294967295
  | .i16, n => -32768 ≤ n ∧ n ≤ 32767
  | .u16, n => 0 ≤ n ∧ n ≤ 65535
  | .i8, n => -128 ≤ n ∧ n ≤ 127
  | .u8, n => 0 ≤ n ∧ n ≤ 255

theorem wrap_in {k : IntKind} {n : Int} (h : InK k n) : k.wrap n = n := by
  cases k <;> simp only [InK] at h <;> simp [IntKind.wrap, IntKind.bits, IntKind.signed] <;> omega

def arith (op : BinOp) (k : IntKind) (a b : Int) : Option (Option Prop × SV) :=
  match op with
  | .add => some (some (InK k (a + b)), .si k (a + b))
  | .sub => some (some (InK k (a - b)), .si k (a - b))
  | .mul => some (some (InK k (a * b)), .si k (a * b))
  | .quo => some (some (b ≠ 0 ∧ InK k (a.tdiv b)), .si k (a.tdiv b))
  | .rem => some (some (b ≠ 0), .si k (a.tmod b))
  | .eql => some (none, .sb (decide (a = b)))
  | .neq => some (none, .sb (!decide (a = b)))
  | .lss => some (none, .sb (decide (a < b)))
  | .leq => some (none, .sb (decide (a ≤ b)))
  | .gtr => some (none, .sb (decide (b < a)))
  | .geq => some (none, .sb (decide (b ≤ a)))
  | .and => some (some (0 ≤ a ∧ 0 ≤ b ∧ InK k a ∧ InK k b), .si k ((a.toNat &&& b.toNat : Nat) : Int))
  | .or => some (some (0 ≤ a ∧ 0 ≤ b ∧ InK k a ∧ InK k b), .si k ((a.toNat ||| b.toNat : Nat) : Int))
  | .andNot => some (some (0 ≤ a ∧ 0 ≤ b ∧ InK k a ∧ InK k b), .si k ((a.toNat - (a.toNat &&& b.toNat) : Nat) : Int))
  | _ => none

theorem bv_ofInt_nat {n : Nat} {a : Int} (h0 : 0 ≤ a) (h : a < 2 ^ n) : (BitVec.ofInt n a).toNat = a.toNat := by
  rw [BitVec.toNat_ofInt]
  have e : a % ((2 ^ n : Nat) : Int) = a := Int.emod_eq_of_lt h0 (by push_cast; exact h)
  rw [e]

theorem inK_nat {k : IntKind} {a : Int} (h : InK k a) : a < 2 ^ k.bits := by
  cases k <;> simp only [InK] at h <;> simp [IntKind.bits] <;> omega
theorem inK_le {k : IntKind} {a b : Int} (h : InK k a) (h0 : 0 ≤ b) (hb : b ≤ a) : InK k b := by
  cases k <;> simp only [InK] at h ⊢ <;> omega
theorem or_inK {k : IntKind} {a b : Int} (ha : InK k a) (hb : InK k b) (h0 : 0 ≤ a) (h1 : 0 ≤ b) : InK k ((a.toNat ||| b.toNat : Nat) : Int) := by
  cases k <;> simp only [InK] at ha hb ⊢
  case i64 => have := Nat.or_lt_two_pow (n := 63) (x := a.toNat) (y := b.toNat) (by omega) (by omega); omega
  case u64 => have := Nat.or_lt_two_pow (n := 64) (x := a.toNat) (y := b.toNat) (by omega) (by omega); omega
  case i32 => have := Nat.or_lt_two_pow (n := 31) (x := a.toNat) (y := b.toNat) (by omega) (by omega); omega
  case u32 => have := Nat.or_lt_two_pow (n := 32) (x := a.toNat) (y := b.toNat) (by omega) (by omega); omega
  case i16 => have := Nat.or_lt_two_pow (n := 15) (x := a.toNat) (y := b.toNat) (by omega) (by omega); omega
  case u16 => have := Nat.or_lt_two_pow (n := 16) (x := a.toNat) (y := b.toNat) (by omega) (by omega); omega
  case i8 => have := Nat.or_lt_two_pow (n := 7) (x := a.toNat) (y := b.toNat) (by omega) (by omega); omega
  case u8 => have := Nat.or_lt_two_pow (n := 8) (x := a.toNat) (y := b.toNat) (by omega) (by omega); omega

theorem and_not_nat {n : Nat} (x y : BitVec n) : (x &&& ~~~y).toNat = x.toNat - (x.toNat &&& y.toNat) := by
  have e : (x &&& ~~~y) + (x &&& y) = x := by
    rw [BitVec.add_eq_or_of_and_eq_zero]
    · ext i hi
      simp only [BitVec.getElem_or, BitVec.getElem_and, BitVec.getElem_not]
      cases x[i] <;> cases y[i] <;> rfl
    · ext i hi
      simp only [BitVec.getElem_and, BitVec.getElem_not, BitVec.getElem_zero]
      cases x[i] <;> cases y[i] <;> rfl
  have h2 : (x &&& ~~~y) = x - (x &&& y) := by rw [← BitVec.add_sub_cancel (x &&& ~~~y) (x &&& y), e]
  rw [h2, BitVec.toNat_sub_of_le (by rw [BitVec.le_def, BitVec.toNat_and]; exact Nat.and_le_left), BitVec.toNat_and]

theorem arith_ok (op : BinOp) (t : Nat) (k : IntKind) (a b : Int) {p : Option Prop} {s : SV} (h : arith op k a b = some (p, s)) (hp : PreH p) (ρ : Env) (w : World) :
    ∃ v, (binOp op t (.int k a) (.int k b)).run P w = .ok v w ∧ den ρ s = some v := by
  cases op <;> simp only [arith, Option.some.injEq, Prod.mk.injEq, reduceCtorEq] at h <;> obtain ⟨rfl, rfl⟩ := h <;> simp only [PreH] at hp
  case add => exact ⟨_, by simp [binOp, Op.intArith, wrap_in hp], rfl⟩
  case sub => exact ⟨_, by simp [binOp, Op.intArith, wrap_in hp], rfl⟩
  case mul => exact ⟨_, by simp [binOp, Op.intArith, wrap_in hp], rfl⟩
  case quo => exact ⟨_, by simp [binOp, Op.intDiv, wrap_in hp.2, hp.1], rfl⟩
  case rem => exact ⟨_, by simp [binOp, Op.intDiv, hp], rfl⟩
  case eql => exact ⟨_, by simp [binOp, Op.intCmp]; rfl, by simp [den]; rfl⟩
  case neq => exact ⟨_, by simp [binOp, Op.intCmp]; rfl, by simp [den, bne]; rfl⟩
  case lss => exact ⟨_, by simp [binOp, Op.intCmp], rfl⟩
  case leq => exact ⟨_, by simp [binOp, Op.intCmp], rfl⟩
  case gtr => exact ⟨_, by simp [binOp, Op.intCmp], rfl⟩
  case geq => exact ⟨_, by simp [binOp, Op.intCmp], rfl⟩
  case and =>
    obtain ⟨h0, h1, h2, h3⟩ := hp
    refine ⟨_, ?_, rfl⟩
    have e : (BitVec.ofInt k.bits a &&& BitVec.ofInt k.bits b).toNat = a.toNat &&& b.toNat := by
      rw [BitVec.toNat_and, bv_ofInt_nat h0 (inK_nat h2), bv_ofInt_nat h1 (inK_nat h3)]
    have hle : a.toNat &&& b.toNat ≤ a.toNat := Nat.and_le_left
    simp only [binOp, Op.intBits, if_neg (show ¬ k ≠ k from fun h => h rfl), e]
    rw [wrap_in (inK_le h2 (by omega) (by omega))]
    rfl
  case andNot =>
    obtain ⟨h0, h1, h2, h3⟩ := hp
    refine ⟨_, ?_, rfl⟩
    have e : (BitVec.ofInt k.bits a &&& ~~~ BitVec.ofInt k.bits b).toNat = a.toNat - (a.toNat &&& b.toNat) := by
      rw [and_not_nat, bv_ofInt_nat h0 (inK_nat h2), bv_ofInt_nat h1 (inK_nat h3)]
    simp only [binOp, Op.intBits, if_neg (show ¬ k ≠ k from fun h => h rfl), e]
    rw [wrap_in (inK_le h2 (by omega) (by omega))]
    rfl
  case or =>
    obtain ⟨h0, h1, h2, h3⟩ := hp
    refine ⟨_, ?_, rfl⟩
    have e : (BitVec.ofInt k.bits a ||| BitVec.ofInt k.bits b).toNat = a.toNat ||| b.toNat := by
      rw [BitVec.toNat_or, bv_ofInt_nat h0 (inK_nat h2), bv_ofInt_nat h1 (inK_nat h3)]
    simp only [binOp, Op.intBits, if_neg (show ¬ k ≠ k from fun h => h rfl), e]
    rw [wrap_in (or_inK h2 h3 h0 h1)]
    rfl

def shift (op : BinOp) (k : IntKind) (a b : Int) : Option (Option Prop × SV) :=
  match op with
  | .shl => some (some (0 ≤ b ∧ b.toNat ≤ k.bits ∧ InK k (a * 2 ^ b.toNat)), .si k (a * 2 ^ b.toNat))
  | .shr => some (some (0 ≤ b ∧ b.toNat ≤ k.bits), .si k (a.fdiv (2 ^ b.toNat)))
  | _ => none

theorem shift_ok (op : BinOp) (t : Nat) (k k' : IntKind) (a b : Int) {p : Option Prop} {s : SV} (h : shift op k a b = some (p, s)) (hp : PreH p) (ρ : Env) (w : World) :
    ∃ v, (binOp op t (.int k a) (.int k' b)).run P w = .ok v w ∧ den ρ s = some v := by
  cases op <;> simp only [shift, Option.some.injEq, Prod.mk.injEq, reduceCtorEq] at h <;> obtain ⟨rfl, rfl⟩ := h <;> simp only [PreH] at hp
  case shl =>
    obtain ⟨h0, h1, h2⟩ := hp
    have hm : min b.toNat k.bits = b.toNat := Nat.min_eq_left h1
    have hn : ¬ b < 0 := by omega
    refine ⟨_, ?_, rfl⟩
    simp only [binOp, Op.shift, hn, if_false, hm]
    rw [wrap_in h2]
    rfl
  case shr =>
    obtain ⟨h0, h1⟩ := hp
    have hm : min b.toNat k.bits = b.toNat := Nat.min_eq_left h1
    have hn : ¬ b < 0 := by omega
    refine ⟨_, ?_, rfl⟩
    simp only [binOp, Op.shift, hn, if_false, hm]
    rfl

theorem eqGuard_int (op : BinOp) (t : Nat) (x y : Operand) (k k' : IntKind) (a b : Int) (w : World) : (eqGuard op t x y (.int k a) (.int k' b)).run P w = .ok () w := by
  cases op <;> simp [eqGuard] <;> rfl
theorem eqGuard_bool (op : BinOp) (t : Nat) (x y : Operand) (a b : Bool) (w : World) : (eqGuard op t x y (.bool a) (.bool b)).run P w = .ok () w := by
  cases op <;> simp [eqGuard] <;> rfl

end Go.X
end

section
set_option linter.unusedVariables false
set_option linter.unusedSimpArgs false
set_option linter.unusedSectionVars false
/- The executor's arm for each operation, and that it says what the model does. -/
set_option linter.unusedVariables false
set_option linter.unusedSimpArgs false
namespace Go.X
open Go

def sameK : IntKind → IntKind → Bool
  | .i64, .i64 => true
  | .u64, .u64 => true
  | .i32, .i32 => true
  | .u32, .u32 => true
  | .i16, .i16 => true
  | .u16, .u16 => true
  | .i8, .i8 => true
  | .u8, .u8 => true
  | _, _ => false
theorem sameK_eq {a b : IntKind} (h : sameK a b = true) : a = b := by cases a <;> cases b <;> first | rfl | cases h

def ofValues : List Value → Option (List SV)
  | [] => some []
  | x :: r => match ofValue x, ofValues r with
    | some s, some l => some (s :: l)
    | _, _ => none
theorem ofValues_den (ρ : Env) {l : List Value} {s : List SV} (h : ofValues l = some s) : denL ρ s = some l ∧ l.all (·.oneCell') = true := by
  induction l generalizing s with
  | nil => simp [ofValues] at h; subst h; exact ⟨rfl, rfl⟩
  | cons x r ih =>
    simp only [ofValues] at h
    cases e : ofValue x with
    | none => simp [e] at h
    | some u =>
      cases e2 : ofValues r with
      | none => simp [e, e2] at h
      | some us =>
        simp [e, e2] at h; subst h
        obtain ⟨h1, h2⟩ := ih e2
        refine ⟨denL_mk (ofValue_den ρ e) h1, ?_⟩
        simp only [List.all_cons, h2, Bool.and_true]
        cases x <;> first | rfl | (simp [ofValue] at e)

/-- The parts of a struct literal. -/
def fillS (T : Tab) (fs : List Field) (F : LF) (π : GP) : List (Nat × Operand) → List SV → Option (List SV)
  | [], z => some z
  | (i, x) :: r, z => match nth fs i, ev F π x with
    | some f, some v => (match T f.type, cellsS v with
      | some ti, some cs => (match Nat.beq (lenL cs) ti.size, Nat.ble (f.offset + lenL cs) (lenL z) with
        | true, true => fillS T fs F π r (setL z f.offset cs)
        | _, _ => none)
      | _, _ => none)
    | _, _ => none

/-- The parts of an array literal, or a slice's. -/
def fillA (size : Nat) (F : LF) (π : GP) : List (Nat × Operand) → List SV → Option (List SV)
  | [], z => some z
  | (i, x) :: r, z => match ev F π x with
    | some v => (match cellsS v with
      | some cs => (match Nat.beq (lenL cs) size, Nat.ble (i * size + lenL cs) (lenL z) with
        | true, true => fillA size F π r (setL z (i * size) cs)
        | _, _ => none)
      | _ => none)
    | _ => none

def hasAll (T : Tab) : List Field → Bool
  | [] => true
  | f :: r => match T f.type with
    | some _ => hasAll T r
    | none => false

def repS : Nat → List SV → List SV
  | 0, _ => []
  | n + 1, z => z ++ repS n z

def isFalse : Operand → Bool
  | .const (.bool false) => true
  | _ => false
def isTrue : Operand → Bool
  | .const (.bool true) => true
  | _ => false

def pickC (F : LF) (π : GP) (c x y : Operand) : Option Out :=
  match c with
  | .tmp s => (match ev F π c, isFalse y, isTrue x with
    | some (.sb p), true, _ => (match ev F ((s, true) :: π) x with
      | some (.sb q) => some ⟨none, .sb (p && q), .no⟩
      | _ => none)
    | some (.sb p), false, true => (match ev F ((s, false) :: π) y with
      | some (.sb q) => some ⟨none, .sb (p || q), .no⟩
      | _ => none)
    | _, _, _ => none)
  | _ => none

def argsOf (F : LF) (π : GP) : List Operand → Option (List SV)
  | [] => some []
  | x :: r => match ev F π x, argsOf F π r with
    | some v, some l => some (v :: l)
    | _, _ => none

def wrapK (k : IntKind) (n : Int) : Int := k.wrap n
def signedK : IntKind → Bool
  | .i64 => true
  | .i32 => true
  | .i16 => true
  | .i8 => true
  | _ => false

/-- '==', field by field. -/
def eqFld (T : Tab) (g : TypeId → SV → SV → Option Bool) : List Field → List SV → List SV → Option Bool
  | [], _, _ => some true
  | f :: fs, xs, ys => match T f.type with
    | some tf => (match loadC (aggD tf.desc) tf.size f.offset xs, loadC (aggD tf.desc) tf.size f.offset ys with
      | some a, some b => (match g f.type a b, eqFld T g fs xs ys with
        | some p, some q => some (p && q)
        | _, _ => none)
      | _, _ => none)
    | none => none
/-- '==', of values of ints and bools. -/
def eqC (T : Tab) : Nat → TypeId → SV → SV → Option Bool
  | 0, _, _, _ => none
  | d + 1, t, x, y => match T t with
    | some ti => (match ti.desc, x, y with
      | .int _, .si k a, .si k' b => (match sameK k k' with
        | true => some (decide (a = b))
        | false => none)
      | .bool, .sb p, .sb q => some (p == q)
      | .struct fs, .agg xs, .agg ys => (match ti.plain with
        | true => eqFld T (eqC T d) fs.toList xs ys
        | false => none)
      | _, _, _ => none)
    | none => none

def endE (F : LF) (π : GP) (d : Int) : Option Operand → Option Int
  | none => some d
  | some x => match ev F π x with
    | some (.si _ i) => some i
    | _ => none
def pieceN (H : LH) (id : Nat) : Option (Nat × Nat) :=
  match H id with
  | some (.ro s n _) => some (s, n)
  | some (.row _ s n _) => some (s, n)
  | some (.vec _ s n _) => some (s, n)
  | _ => none
def core (T : Tab) (F : LF) (π : GP) (H : LH) (fr : Nat) (op : Op) : Option Out :=
  match op with
  | .move x => (match ev F π x with
    | some v => some ⟨none, v, .no⟩
    | none => none)
  | .assign x => (match ev F π x with
    | some v => some ⟨none, v, .no⟩
    | none => none)
  | .pick c x y => pickC F π c x y
  | .alloc t => (match T t with
    | some ti => (match ofValues ti.zero.cells.toList with
      | some z => some ⟨none, .sp fr 0, .new (.cells t z)⟩
      | none => none)
    | none => none)
  | .box t x => (match ev F π x with
    | some v => (match cellsS v with
      | some cs => some ⟨none, .sp fr 0, .new (.cells t cs)⟩
      | none => none)
    | none => none)
  | .build t ps => (match T t with
    | some ti => (match ti.desc, ofValues ti.zero.cells.toList with
      | .struct fs, some z => (match hasAll T fs.toList with
        | true => (match fillS T fs.toList F π ps.toList z with
          | some l => some ⟨none, .agg l, .no⟩
          | none => none)
        | false => none)
      | .array _ e, some z => (match T e with
        | some te => (match fillA te.size F π ps.toList z with
          | some l => some ⟨none, .agg l, .no⟩
          | none => none)
        | none => none)
      | _, _ => none)
    | none => none)
  | .buildSlice t len ps => (match T t with
    | some ti => (match ti.desc with
      | .slice e => (match T e with
        | some te => (match ofValues te.zero.cells.toList, Nat.ble (len * te.size + len) 1000 with
          | some z, true => (match Nat.beq (lenL z) te.size, fillA te.size F π ps.toList (repS len z) with
            | true, some l => some ⟨none, .sl fr, .new (.row e te.size len l)⟩
            | _, _ => none)
          | _, _ => none)
        | none => none)
      | _ => none)
    | none => none)
  | .load t x => (match T t, ev F π x with
    | some ti, some (.sp id off) => (match H id with
      | some (.cells _ cs) => (match loadC (aggD ti.desc) ti.size off cs with
        | some s => some ⟨none, s, .no⟩
        | none => none)
      | _ => none)
    | some ti, some (.se id i off) => (match H id with
      | some (.ro _ _ get) => (match loadC (aggD ti.desc) ti.size off (get i.toNat) with
        | some s => some ⟨none, s, .no⟩
        | none => none)
      | some (.row _ size _ xs) => (match loadC (aggD ti.desc) ti.size off (takeL size (dropL (i.toNat * size) xs)) with
        | some s => some ⟨none, s, .no⟩
        | none => none)
      | some (.vec _ _ _ get) => (match loadC (aggD ti.desc) ti.size off (get i.toNat) with
        | some s => some ⟨none, s, .no⟩
        | none => none)
      | _ => none)
    | _, _ => none)
  | .store t x y => (match T t, ev F π x, ev F π y with
    | some ti, some (.sp id off), some v => (match H id, cellsS v with
      | some (.cells _ old), some cs => (match Nat.beq (lenL cs) ti.size, Nat.ble (off + lenL cs) (lenL old) with
        | true, true => some ⟨none, .tup [], .st id off cs⟩
        | _, _ => none)
      | _, _ => none)
    | _, _, _ => none)
  | .fieldAddr t x f => (match T t, ev F π x with
    | some ti, some (.sp id off) => (match ti.desc with
      | .struct fs => (match nth fs.toList f with
        | some fd => (match T fd.type with
          | some tf => (match tf.size with
            | 0 => none
            | _ + 1 => some ⟨none, .sp id (off + fd.offset), .no⟩)
          | none => none)
        | none => none)
      | _ => none)
    | some ti, some (.se id i off) => (match ti.desc with
      | .struct fs => (match nth fs.toList f with
        | some fd => (match T fd.type with
          | some tf => (match tf.size with
            | 0 => none
            | _ + 1 => some ⟨none, .se id i (off + fd.offset), .no⟩)
          | none => none)
        | none => none)
      | _ => none)
    | _, _ => none)
  | .field t x f => (match T t, ev F π x with
    | some ti, some (.agg l) => (match ti.desc with
      | .struct fs => (match nth fs.toList f with
        | some fd => (match T fd.type with
          | some tf => (match loadC (aggD tf.desc) tf.size fd.offset l with
            | some s => some ⟨none, s, .no⟩
            | none => none)
          | none => none)
        | none => none)
      | _ => none)
    | _, _ => none)
  | .indexAddr t x y => (match T t, ev F π x, ev F π y with
    | some ti, some (.sl id), some (.si _ i) => (match ti.desc, H id with
      | .slice e, some (.ro size n _) => (match T e with
        | some te => (match Nat.beq te.size size with
          | true => some ⟨some (0 ≤ i ∧ i < (n : Int)), .se id i 0, .no⟩
          | false => none)
        | none => none)
      | .slice e, some (.row _ size n _) => (match T e with
        | some te => (match Nat.beq te.size size with
          | true => some ⟨some (0 ≤ i ∧ i < (n : Int)), .se id i 0, .no⟩
          | false => none)
        | none => none)
      | .slice e, some (.vec _ size n _) => (match T e with
        | some te => (match Nat.beq te.size size with
          | true => some ⟨some (0 ≤ i ∧ i < (n : Int)), .se id i 0, .no⟩
          | false => none)
        | none => none)
      | _, _ => none)
    | some ti, some (.sp id off), some (.si _ i) => (match ti.desc with
      | .array len e => (match T e with
        | some te => some ⟨some (0 ≤ i ∧ i < (len : Int)), .sp id (off + i.toNat * te.size), .no⟩
        | none => none)
      | _ => none)
    | some ti, some (.ss id off m _), some (.si _ i) => (match ti.desc, H id with
      | .slice e, some (.cells _ _) => (match T e with
        | some te => some ⟨some (0 ≤ i ∧ i < (m : Int)), .sp id (off + i.toNat * te.size), .no⟩
        | none => none)
      | _, _ => none)
    | _, _, _ => none)
  | .index t x y => (match T t, ev F π x, ev F π y with
    | some ti, some (.agg l), some (.si _ i) => (match ti.desc with
      | .array len e => (match T e with
        | some te => (match loadC (aggD te.desc) te.size (i.toNat * te.size) l with
          | some s => some ⟨some (0 ≤ i ∧ i < (len : Int)), s, .no⟩
          | none => none)
        | none => none)
      | _ => none)
    | _, _, _ => none)
  | .extract x i => (match ev F π x with
    | some (.tup l) => (match nth l i with
      | some s => some ⟨none, s, .no⟩
      | none => none)
    | _ => none)
  | .binOp op t x y _ => (match ev F π x, ev F π y with
    | some (.si k a), some (.si k' b) => (match op with
      | .shl => (match shift .shl k a b with
        | some (p, s) => some ⟨p, s, .no⟩
        | none => none)
      | .shr => (match shift .shr k a b with
        | some (p, s) => some ⟨p, s, .no⟩
        | none => none)
      | op => (match sameK k k', arith op k a b with
        | true, some (p, s) => some ⟨p, s, .no⟩
        | _, _ => none))
    | some (.sb p), some (.sb q) => (match T t with
      | some ti => (match ti.desc, op with
        | .bool, .eql => some ⟨none, .sb (p == q), .no⟩
        | .bool, .neq => some ⟨none, .sb (!(p == q)), .no⟩
        | _, _ => none)
      | none => none)
    | some (.agg l), some (.agg m) => (match op, eqC T 9 t (.agg l) (.agg m), T t with
      | .eql, some p, some ti => (match ti.plain with
        | true => some ⟨none, .sb p, .no⟩
        | false => none)
      | .neq, some p, some ti => (match ti.plain with
        | true => some ⟨none, .sb (!p), .no⟩
        | false => none)
      | _, _, _ => none)
    | some (.ifc _ _), some (.sv .nilIface) => (match T t with
      | some ti => (match ti.desc, op with
        | .interface _, .eql => some ⟨none, .sb false, .no⟩
        | .interface _, .neq => some ⟨none, .sb true, .no⟩
        | _, _ => none)
      | none => none)
    | some (.sv .nilIface), some (.sv .nilIface) => (match T t, y with
      | some ti, .const _ => (match ti.desc, op with
        | .interface _, .eql => some ⟨none, .sb true, .no⟩
        | .interface _, .neq => some ⟨none, .sb false, .no⟩
        | _, _ => none)
      | _, _ => none)
    | _, _ => none)
  | .typeAssert x _ asserted ok => (match T asserted, ev F π x with
    | some ti, some (.ifc t v) => (match ti.desc with
      | .interface _ => none
      | _ => (match Nat.beq t asserted, ok with
        | true, true => some ⟨none, .tup [v, .sb true], .no⟩
        | true, false => some ⟨none, v, .no⟩
        | false, true => (match ofValue ti.zero with
          | some z => some ⟨none, .tup [z, .sb false], .no⟩
          | none => none)
        | false, false => none))
    | _, _ => none)
  | .unOp op _ x => (match op, ev F π x with
    | .not, some (.sb p) => some ⟨none, .sb (!p), .no⟩
    | .neg, some (.si k n) => some ⟨some (InK k (0 - n)), .si k (0 - n), .no⟩
    | _, _ => none)
  | .convert s d x => (match T s, T d, ev F π x with
    | some _, some td, some (.si k' n) => (match td.desc with
      | .int k => (match signedK k', signedK k with
        | true, false => some ⟨none, .si k (wrapK k n), .no⟩
        | _, _ => some ⟨some (InK k n), .si k n, .no⟩)
      | _ => none)
    | _, _, _ => none)
  | .makeFunc f first caps => (match argsOf F π first.toList, argsOf F π caps.toList with
    | some l, some m => some ⟨none, .fn f l m, .no⟩
    | _, _ => none)
  | .makeInterface t x => (match T t, ev F π x with
    | some ti, some v => (match ti.desc with
      | .interface _ => none
      | _ => some ⟨none, .ifc t v, .no⟩)
    | _, _ => none)
  | .nilCheck x => (match ev F π x with
    | some (.sp id off) => some ⟨none, .sp id off, .no⟩
    | some (.se id i off) => some ⟨none, .se id i off, .no⟩
    | some (.fn (.method name) [.ifc t v] caps) => (match T t with
      | some ti => some ⟨some (ti.meths name = true), .fn (.method name) [.ifc t v] caps, .no⟩
      | none => none)
    | some (.fn (.func n) l m) => some ⟨none, .fn (.func n) l m, .no⟩
    | _ => none)
  | .slice t x lo hi none => (match T t, ev F π x, endE F π 0 lo with
    | some ti, some (.sl id), some i => (match ti.desc, pieceN H id with
      | .slice e, some (size, n) => (match T e, endE F π n hi with
        | some te, some j => (match Nat.beq te.size size with
          | true => some ⟨some (0 ≤ i ∧ i ≤ j ∧ j ≤ (n : Int) ∧ 0 < n ∧ 0 < size), .ss id (i.toNat * size) (j - i).toNat 0, .no⟩
          | false => none)
        | _, _ => none)
      | _, _ => none)
    | some ti, some (.sp id off), some i => (match ti.desc with
      | .array len e => (match T e, endE F π len hi with
        | some te, some j => some ⟨some (0 ≤ i ∧ i ≤ j ∧ j ≤ (len : Int) ∧ i < (len : Int)), .ss id (off + i.toNat * te.size) (j - i).toNat (len - i.toNat), .no⟩
        | _, _ => none)
      | _ => none)
    | _, _, _ => none)
  | .call c => (match c.callee, c.args.toList, c.argTypes.toList with
    | .builtin .len, [x], [t] => (match T t, ev F π x with
      | some ti, some (.sl id) => (match ti.desc, H id with
        | .slice _, some (.ro _ n _) => some ⟨none, .si .i64 n, .no⟩
        | .slice _, some (.row _ _ n _) => some ⟨none, .si .i64 n, .no⟩
        | .slice _, some (.vec _ _ n _) => some ⟨none, .si .i64 n, .no⟩
        | _, _ => none)
      | some ti, some (.sv (.slice none 0 0)) => (match ti.desc with
        | .slice _ => some ⟨none, .si .i64 0, .no⟩
        | _ => none)
      | some ti, some (.ss _ _ m _) => (match ti.desc with
        | .slice _ => some ⟨none, .si .i64 m, .no⟩
        | _ => none)
      | _, _ => none)
    | .builtin .max, [x, y], _ => (match ev F π x, ev F π y with
      | some (.si k a), some (.si _ b) => some ⟨none, .si k (max a b), .no⟩
      | _, _ => none)
    | .builtin .min, [x, y], _ => (match ev F π x, ev F π y with
      | some (.si k a), some (.si _ b) => some ⟨none, .si k (min a b), .no⟩
      | _, _ => none)
    | .builtin .min, [x, y, z, u], _ => (match ev F π x, ev F π y, ev F π z, ev F π u with
      | some (.si k a), some (.si _ b), some (.si _ c), some (.si _ d) => some ⟨none, .si k (min (min (min a b) c) d), .no⟩
      | _, _, _, _ => none)
    | _, _, _ => none)
  | _ => none

def OutOk (ρ : Env) (H : LH) (fr : Nat) (w : World) (res : Result Next) (out : Out) : Prop :=
  match out.eff with
  | .no => ∃ v, res = .ok (.value v) w ∧ den ρ out.v = some v
  | .new hb => ∃ v nm o, res = .ok (.value v) (w.alloc o) ∧ den (upd ρ fr nm) out.v = some v ∧ HBok (upd ρ fr nm) (w.alloc o) hb nm ∧
      (∀ b, nm.owner = some b → b = w.heap.size) ∧ (∀ b, roBlock nm = some b → b = w.heap.size) ∧ ∀ s C, hb ≠ .fam s C
  | .st id off cs => ∃ TT old b w' us, H id = some (.cells TT old) ∧ ρ id = some (.blk b) ∧ denL ρ cs = some us ∧ us.all (·.oneCell') = true ∧ off + cs.length ≤ old.length ∧
      res = .ok .skip w' ∧ w'.heap.size = w.heap.size ∧ (∀ k, k ≠ b → w'.heap[k]? = w.heap[k]?) ∧
      (∀ vs, denL ρ old = some vs → w'.heap[b]? = some (.cells (vs.take off ++ us ++ vs.drop (off + us.length)).toArray TT (0, 0))) ∧ Str w w'

section
variable {P : Program} {T : Tab} {ρ : Env} {F : LF} {a : Act} {π : GP} {H : LH} {w : World} {fr : Nat} {o : Oper} {out : Out}

theorem val_ok {H : LH} {fr : Nat} {s : SV} {p : Option Prop} {v : Value} {res : Result Next} (h : res = .ok (.value v) w) (hd : den ρ s = some v) :
    OutOk ρ H fr w res ⟨p, s, .no⟩ := ⟨v, h, hd⟩

theorem addr_zero (ad : Addr) : ad.add 0 = ad := by simp [Addr.add]

theorem den_sp {id off : Nat} {v : Value} (h : den ρ (.sp id off) = some v) : ∃ nm, ρ id = some (.blk nm) ∧ v = .pointer (some ⟨nm, off, none⟩) := by
  simp only [den] at h
  split at h
  · rename_i nm e; cases h; exact ⟨nm, e, rfl⟩
  · cases h

theorem load_ok (hT : TabOk P T) (hH : HM ρ H w) {t : Nat} {ti : TI} (ht : T t = some ti) {x : SV} {v : Value} (hd : den ρ x = some v) {s : SV}
    (h : (match x with
      | .sp id off => (match H id with
        | some (.cells _ cs) => loadC (aggD ti.desc) ti.size off cs
        | _ => none)
      | .se id i off => (match H id with
        | some (.ro _ _ get) => loadC (aggD ti.desc) ti.size off (get i.toNat)
        | some (.row _ size _ xs) => loadC (aggD ti.desc) ti.size off (takeL size (dropL (i.toNat * size) xs))
        | some (.vec _ _ _ get) => loadC (aggD ti.desc) ti.size off (get i.toNat)
        | _ => none)
      | _ => none) = some s) :
    ∃ u, (Instr.loadAt t v).run P w = .ok u w ∧ den ρ s = some u := by
  cases x with
  | sp id off =>
    dsimp only at h
    split at h
    · rename_i T' cs hf
      obtain ⟨nm, hn, hok⟩ := hH.ok _ _ hf
      cases nm <;> simp only [HBok] at hok
      rename_i nm
      obtain ⟨vs, h1, h2, h3⟩ := hok
      obtain ⟨nm', e, rfl⟩ := den_sp hd
      rw [hn] at e; cases e
      obtain ⟨u, hu, hs⟩ := loadVar_ok hT ht (w := w) (ad := ⟨nm, off, none⟩) h h1 h2 (fun j v hj => by
        simp only [World.cell?, add_block]
        have e2 : ((⟨nm, off, none⟩ : Addr).add j) = ⟨nm, off + j, none⟩ := by unfold Addr.add; split <;> simp_all
        rw [e2, h3]
        simpa using hj)
      exact ⟨u, by simpa [Instr.loadAt, Instr.sureAddr, Result.andThen] using hu, hs⟩
    · cases h
  | se id i off =>
    dsimp only at h
    split at h
    · rename_i sz n get hf
      obtain ⟨nm, hn, hok⟩ := hH.ok _ _ hf
      cases nm <;> simp only [HBok] at hok
      rename_i A n' c' s'
      obtain ⟨rfl, rfl, _, h3⟩ := hok
      simp only [den, hn] at hd
      cases A with
      | none => cases hd
      | some ad =>
        dsimp only at hd
        split at hd
        · rename_i hlt
          cases hd
          obtain ⟨ad', e, _, hc⟩ := h3 (by omega)
          cases e
          obtain ⟨vs, h1, h2, h4, h5⟩ := hc i.toNat hlt
          obtain ⟨u, hu, hs⟩ := loadVar_ok hT ht (w := w) (ad := ad.add (i.toNat * s' + off)) h h1 h2 (fun j v hj => by
            rw [add_add, Nat.add_assoc]
            exact h5 _ v hj)
          exact ⟨u, by simpa [Instr.loadAt, Instr.sureAddr, Result.andThen] using hu, hs⟩
        · cases hd
    · rename_i T' sz n xs hf
      obtain ⟨nm, hn, hok⟩ := hH.ok _ _ hf
      cases nm <;> simp only [HBok] at hok
      rename_i nm n' c' s'
      obtain ⟨rfl, rfl, h3, vs, rest, h4, h5, h6, h7, h8⟩ := hok
      simp only [den, hn] at hd
      split at hd
      · rename_i hlt
        cases hd
        have hd1 := denL_take (denL_drop h4 (i.toNat * s')) s'
        rw [takeL_eq, dropL_eq] at h
        have hall : (((vs.drop (i.toNat * s')).take s').all (·.oneCell')) = true := by
          rw [List.all_eq_true] at h5 ⊢
          exact fun x hx => h5 x (List.mem_of_mem_drop (List.mem_of_mem_take hx))
        obtain ⟨u, hu, hs⟩ := loadVar_ok hT ht (w := w) (ad := ⟨nm, i.toNat * s' + off, none⟩) h hd1 hall (fun j v hj => by
          have e2 : ((⟨nm, i.toNat * s' + off, none⟩ : Addr).add j) = ⟨nm, i.toNat * s' + off + j, none⟩ := by unfold Addr.add; split <;> simp_all
          simp only [World.cell?, add_block]
          rw [e2, h8]
          rw [List.getElem?_take] at hj
          split at hj
          · rw [List.getElem?_drop] at hj
            have hl : i.toNat * s' + (off + j) < vs.length := by
              rcases Nat.lt_or_ge (i.toNat * s' + (off + j)) vs.length with h | h
              · exact h
              · rw [List.getElem?_eq_none h] at hj; cases hj
            simp only [List.getElem?_toArray, Option.isSome_none, Bool.false_eq_true, if_false]
            rw [List.getElem?_append_left (by omega), Nat.add_assoc]
            exact hj
          · cases hj)
        exact ⟨u, by simpa [Instr.loadAt, Instr.sureAddr, Result.andThen] using hu, hs⟩
      · cases hd
    · rename_i T' sz n get hf
      obtain ⟨nm, hn, hok⟩ := hH.ok _ _ hf
      cases nm <;> simp only [HBok] at hok
      · obtain ⟨rfl, rfl, rfl, rfl, rfl⟩ := hok
        simp only [den, hn] at hd
        cases hd
      rename_i nm n' c' s'
      obtain ⟨rfl, rfl, h3, cells, h4, h5, h6⟩ := hok
      simp only [den, hn] at hd
      split at hd
      · rename_i hlt
        cases hd
        obtain ⟨vs, h1, h2, h7, h8⟩ := h6 i.toNat hlt
        obtain ⟨u, hu, hs⟩ := loadVar_ok hT ht (w := w) (ad := ⟨nm, i.toNat * s' + off, none⟩) h h1 h2 (fun j v hj => by
          have e2 : ((⟨nm, i.toNat * s' + off, none⟩ : Addr).add j) = ⟨nm, i.toNat * s' + off + j, none⟩ := by unfold Addr.add; split <;> simp_all
          simp only [World.cell?, add_block]
          rw [e2, h4]
          have := h8 _ _ hj
          simpa [Nat.add_assoc] using this)
        exact ⟨u, by simpa [Instr.loadAt, Instr.sureAddr, Result.andThen] using hu, hs⟩
      · cases hd
    · cases h
  | _ => cases h

end
end Go.X
end

section
set_option linter.unusedVariables false
set_option linter.unusedSimpArgs false
set_option linter.unusedSectionVars false
/- Each arm of `core` says what the model does. -/
set_option linter.unusedVariables false
set_option linter.unusedSimpArgs false
namespace Go.X
open Go

section
variable {P : Program} {T : Tab} {ρ : Env} {F : LF} {a : Act} {π : GP} {H : LH} {w : World} {fr : Nat} {o : Oper} {out : Out}

theorem newVar_ok {t : Nat} {v : Value} {l : List SV} {vs : List Value} (hl : denL ρ l = some vs) (ha : vs.all (·.oneCell') = true) (hv : v.cells = vs.toArray) (hf : ρ fr = none) :
    OutOk ρ H fr w (.ok (.value (.pointer (some ⟨w.heap.size, 0, none⟩))) (w.alloc (.cells v.cells t))) ⟨none, .sp fr 0, .new (.cells t l)⟩ := by
  refine ⟨_, .blk w.heap.size, _, rfl, ?_, ?_, ?_, ?_⟩
  · simp [den, upd_self]
  · refine ⟨vs, denL_ext (Ext.upd _ hf) _ _ hl, ha, ?_⟩
    rw [hv]; exact heap_alloc_new w _
  · intro b hb; simp [Nm.owner] at hb; exact hb.symm
  · exact ⟨fun b hb => (by cases hb), fun s C h => (by cases h)⟩

theorem run_newVar (t : Nat) (v : Value) (w : World) : (newVar t v).run P w = .ok ⟨w.heap.size, 0, none⟩ (w.alloc (.cells v.cells t)) := by
  simp [newVar, newRow, Result.andThen]

theorem fold_set_from (us : List Value) : ∀ (vz : List Value) (off k : Nat), off + k + us.length ≤ vz.length →
    (us.zipIdx k).foldl (fun (cs : Array Value) (x : Value × Nat) => cs.setIfInBounds (off + x.2) x.1) vz.toArray = (vz.take (off + k) ++ us ++ vz.drop (off + k + us.length)).toArray := by
  induction us with
  | nil => intro vz off k h; simp
  | cons u us ih =>
    intro vz off k h
    simp only [List.length_cons] at h
    simp only [List.zipIdx_cons, List.foldl_cons, List.setIfInBounds_toArray]
    rw [ih _ off (k + 1) (by simp; omega)]
    congr 1
    apply List.ext_getElem?
    intro j
    simp only [List.getElem?_append, List.length_append, List.length_take, List.length_set, List.getElem?_take, List.getElem?_set, List.getElem?_drop, List.length_cons]
    by_cases h1 : j < off + k
    · have e1 : j < min (off + (k + 1)) vz.length + us.length := by omega
      have e2 : j < min (off + (k + 1)) vz.length := by omega
      have e3 : j < min (off + k) vz.length + (us.length + 1) := by omega
      have e4 : j < min (off + k) vz.length := by omega
      have e5 : j < off + (k + 1) := by omega
      have e6 : ¬ off + k = j := by omega
      simp [e1, e2, e3, e4, e5, e6, h1]
    · by_cases h2 : j = off + k
      · subst h2
        have e1 : off + k < min (off + (k + 1)) vz.length + us.length := by omega
        have e2 : off + k < min (off + (k + 1)) vz.length := by omega
        have e3 : off + k < min (off + k) vz.length + (us.length + 1) := by omega
        have e4 : ¬ off + k < min (off + k) vz.length := by omega
        have e5 : off + k < vz.length := by omega
        have e6 : off + k < off + (k + 1) := by omega
        have e7 : off + k - min (off + k) vz.length = 0 := by omega
        simp [e1, e2, e3, e4, e5, e6, e7]
      · by_cases h3 : j < off + k + us.length + 1
        · have e1 : j < min (off + (k + 1)) vz.length + us.length := by omega
          have e2 : ¬ j < min (off + (k + 1)) vz.length := by omega
          have e3 : j < min (off + k) vz.length + (us.length + 1) := by omega
          have e4 : ¬ j < min (off + k) vz.length := by omega
          have e5 : j - min (off + k) vz.length = (j - min (off + (k + 1)) vz.length) + 1 := by omega
          simp [e1, e2, e3, e4, e5]
        · have e1 : ¬ j < min (off + (k + 1)) vz.length + us.length := by omega
          have e3 : ¬ j < min (off + k) vz.length + (us.length + 1) := by omega
          have e4 : ¬ off + k = off + (k + 1) + us.length + (j - (min (off + (k + 1)) vz.length + us.length)) := by omega
          have e5 : off + (k + 1) + us.length + (j - (min (off + (k + 1)) vz.length + us.length)) = off + k + (us.length + 1) + (j - (min (off + k) vz.length + (us.length + 1))) := by omega
          simp [e1, e3, e4, e5]
          intro e6; omega

theorem fold_set (vz us : List Value) (off : Nat) (h : off + us.length ≤ vz.length) :
    us.toArray.zipIdx.foldl (fun cs (x : Value × Nat) => cs.setIfInBounds (off + x.2) x.1) vz.toArray = (vz.take off ++ us ++ vz.drop (off + us.length)).toArray := by
  have := fold_set_from us vz off 0 (by omega)
  simpa using this

theorem fillS_ok {fs : List Field} (hF : FM ρ F a) (hπ : GPsat a π) (pl : Nat → Option (Nat × Nat)) (hpl : ∀ (i : Nat) (f : Field), fs[i]? = some f → ∀ ti, T f.type = some ti → pl i = some (f.offset, ti.size)) :
    ∀ (ps : List (Nat × Operand)) (z l : List SV) (vz : List Value), fillS T fs F π ps z = some l → denL ρ z = some vz → vz.all (·.oneCell') = true →
      ∃ vl, denL ρ l = some vl ∧ vl.all (·.oneCell') = true ∧ vl.length = vz.length ∧
        Instr.fill pl vz.toArray (ps.map fun (i, x) => (i, a.eval x)) = some vl.toArray := by
  intro ps
  induction ps with
  | nil =>
    intro z l vz h hz ha
    simp only [fillS, Option.some.injEq] at h
    subst h
    exact ⟨vz, hz, ha, rfl, rfl⟩
  | cons q r ih =>
    intro z l vz h hz ha
    obtain ⟨i, x⟩ := q
    simp only [fillS] at h
    split at h
    · rename_i f v e1 e2
      split at h
      · rename_i ti cs e3 e4
        split at h
        · rename_i e5 e6
          have hlen : lenL cs = ti.size := by simpa using e5
          have hfit : f.offset + lenL cs ≤ lenL z := by simpa using e6
          rw [lenL_eq] at hlen
          rw [lenL_eq, lenL_eq] at hfit
          rw [nth_eq] at e1
          have hv := ev_ok hF hπ e2
          obtain ⟨us, hu, hua, huc⟩ := cellsS_ok e4 hv
          have hul := denL_len hu
          have hzl := denL_len hz
          have hz' := denL_set hz hu f.offset hfit
          obtain ⟨vl, h1, h2, h3, h4⟩ := ih _ _ _ h hz' (by
            rw [List.all_eq_true] at ha hua ⊢
            intro y hy
            simp only [List.mem_append] at hy
            rcases hy with (hy | hy) | hy
            · exact ha y (List.mem_of_mem_take hy)
            · exact hua y hy
            · exact ha y (List.mem_of_mem_drop hy))
          refine ⟨vl, h1, h2, by rw [h3]; simp; omega, ?_⟩
          simp only [List.map_cons, Instr.fill, hpl i f e1 ti e3]
          have hc : ¬ ((a.eval x).cells.size ≠ ti.size || decide (f.offset + (a.eval x).cells.size > vz.toArray.size)) = true := by
            rw [huc]; simp; omega
          rw [if_neg (by simpa using hc)]
          rw [← h4]
          congr 1
          rw [huc]
          exact fold_set vz us f.offset (by omega)
        · cases h
      · cases h
    · cases h

theorem fillA_ok {size : Nat} (hF : FM ρ F a) (hπ : GPsat a π) :
    ∀ (ps : List (Nat × Operand)) (z l : List SV) (vz : List Value), fillA size F π ps z = some l → denL ρ z = some vz → vz.all (·.oneCell') = true →
      ∃ vl, denL ρ l = some vl ∧ vl.all (·.oneCell') = true ∧ vl.length = vz.length ∧
        Instr.fill (fun i => some (i * size, size)) vz.toArray (ps.map fun (i, x) => (i, a.eval x)) = some vl.toArray := by
  intro ps
  induction ps with
  | nil =>
    intro z l vz h hz ha
    simp only [fillA, Option.some.injEq] at h
    subst h
    exact ⟨vz, hz, ha, rfl, rfl⟩
  | cons q r ih =>
    intro z l vz h hz ha
    obtain ⟨i, x⟩ := q
    simp only [fillA] at h
    split at h
    · rename_i v e2
      split at h
      · rename_i cs e4
        split at h
        · rename_i e5 e6
          have hlen : lenL cs = size := by simpa using e5
          have hfit : i * size + lenL cs ≤ lenL z := by simpa using e6
          rw [lenL_eq] at hlen
          rw [lenL_eq, lenL_eq] at hfit
          have hv := ev_ok hF hπ e2
          obtain ⟨us, hu, hua, huc⟩ := cellsS_ok e4 hv
          have hul := denL_len hu
          have hzl := denL_len hz
          have hz' := denL_set hz hu (i * size) hfit
          obtain ⟨vl, h1, h2, h3, h4⟩ := ih _ _ _ h hz' (by
            rw [List.all_eq_true] at ha hua ⊢
            intro y hy
            simp only [List.mem_append] at hy
            rcases hy with (hy | hy) | hy
            · exact ha y (List.mem_of_mem_take hy)
            · exact hua y hy
            · exact ha y (List.mem_of_mem_drop hy))
          refine ⟨vl, h1, h2, by rw [h3]; simp; omega, ?_⟩
          simp only [List.map_cons, Instr.fill]
          have hc : ¬ ((a.eval x).cells.size ≠ size || decide (i * size + (a.eval x).cells.size > vz.toArray.size)) = true := by
            rw [huc]; simp; omega
          rw [if_neg (by simpa using hc)]
          rw [← h4]
          congr 1
          rw [huc]
          exact fold_set vz us (i * size) (by omega)
        · cases h
      · cases h
    · cases h

def plc (T : Tab) (f : Field) : Nat × Nat := (f.offset, match T f.type with | some ti => ti.size | none => 0)

theorem run_places_all {fs : List Field} (hT : TabOk P T) (h : hasAll T fs = true) (w : World) :
    (fs.mapM fun (f : Field) => Functor.map (Prod.mk f.offset) (sizeOf f.type)).run P w = .ok (fs.map (plc T)) w := by
  induction fs with
  | nil => simp
  | cons f r ih =>
    simp only [hasAll] at h
    split at h
    · rename_i ti e
      simp [List.mapM_cons, run_size hT e, Result.andThen, ih h, e, plc]
    · cases h

theorem build_struct_ok (hT : TabOk P T) (hF : FM ρ F a) (hπ : GPsat a π) {t : Nat} {ti : TI} (ht : T t = some ti) {fs : Array Field} (hd : ti.desc = .struct fs)
    {z l : List SV} (hz : ofValues ti.zero.cells.toList = some z) (hal : hasAll T fs.toList = true) {ps : Array (Nat × Operand)} (hfill : fillS T fs.toList F π ps.toList z = some l) :
    ∃ v, (Instr.build t (ps.map fun (i, x) => (i, a.eval x))).run P w = .ok v w ∧ den ρ (.agg l) = some v := by
  obtain ⟨hz1, hz2⟩ := ofValues_den ρ hz
  obtain ⟨vl, h1, h2, h3, h4⟩ := fillS_ok hF hπ (fun i => ((fs.toList.map (plc T)).toArray)[i]?)
    (fun i f hi ti' hti => by simp [hi, hti, plc]) ps.toList z l _ hfill hz1 hz2
  refine ⟨.agg vl.toArray, ?_, by simp only [den, h1, h2, if_true]⟩
  have hzz : ti.zero.cells = (ti.zero.cells.toList).toArray := by simp
  have hpa := run_places_all hT hal w
  have key : (Instr.build t (ps.map fun (i, x) => (i, a.eval x))).run P w = match Instr.fill (((fs.toList.map (plc T)).toArray)[·]?) ti.zero.cells (ps.map fun (i, x) => (i, a.eval x)).toList with
      | some cs => .ok (.agg cs) w
      | none => .halt (.stuck "build: no such field, or a part of the wrong size") w := by
    simp only [Instr.build, Sem.run_bind, run_zero hT ht, Result.andThen, run_und hT ht, hd, Array.mapM_eq_mapM_toList, Sem.run_map, bind_pure_comp, hpa]
    generalize Instr.fill _ _ _ = q
    cases q <;> rfl
  rw [key, hzz, Array.toList_map, h4]

theorem build_array_ok (hT : TabOk P T) (hF : FM ρ F a) (hπ : GPsat a π) {t n e : Nat} {ti te : TI} (ht : T t = some ti) (hd : ti.desc = .array n e) (hte : T e = some te)
    {z l : List SV} (hz : ofValues ti.zero.cells.toList = some z) {ps : Array (Nat × Operand)} (hfill : fillA te.size F π ps.toList z = some l) :
    ∃ v, (Instr.build t (ps.map fun (i, x) => (i, a.eval x))).run P w = .ok v w ∧ den ρ (.agg l) = some v := by
  obtain ⟨hz1, hz2⟩ := ofValues_den ρ hz
  obtain ⟨vl, h1, h2, h3, h4⟩ := fillA_ok hF hπ ps.toList z l _ hfill hz1 hz2
  refine ⟨.agg vl.toArray, ?_, by simp only [den, h1, h2, if_true]⟩
  have hzz : ti.zero.cells = (ti.zero.cells.toList).toArray := by simp
  simp only [Instr.build, Sem.run_bind, run_zero hT ht, Result.andThen, run_und hT ht, hd, run_size hT hte, Array.toList_map]
  rw [hzz, h4]
  rfl

end
end Go.X
end

section
set_option linter.unusedVariables false
set_option linter.unusedSimpArgs false
set_option linter.unusedSectionVars false
/- Slices' literals, addresses, and all arms together. -/
set_option linter.unusedVariables false
set_option linter.unusedSimpArgs false
namespace Go.X
open Go

section
variable {P : Program} {T : Tab} {ρ : Env} {F : LF} {a : Act} {π : GP} {H : LH} {w : World} {fr : Nat} {o : Oper} {out : Out}

theorem repS_len (n : Nat) (z : List SV) : (repS n z).length = n * z.length := by
  induction n with
  | zero => simp [repS]
  | succ n ih => simp [repS, ih, Nat.succ_mul, Nat.add_comm]

theorem range_rep (vz : List Value) (n : Nat) (hpos : 0 < vz.length) :
    (List.range ((n + 1) * vz.length)).map (fun i => vz.getD (i % vz.length) undef) = vz ++ (List.range (n * vz.length)).map (fun i => vz.getD (i % vz.length) undef) := by
  apply List.ext_getElem?
  intro j
  rw [List.getElem?_append]
  by_cases h1 : j < vz.length
  · have e1 : j < (n + 1) * vz.length := by rw [Nat.succ_mul]; omega
    rw [if_pos h1, List.getElem?_map, List.getElem?_range e1, Option.map_some, Nat.mod_eq_of_lt h1, List.getD_eq_getElem?_getD, List.getElem?_eq_getElem h1]
    rfl
  · rw [if_neg h1]
    by_cases h2 : j - vz.length < n * vz.length
    · have e1 : j < (n + 1) * vz.length := by rw [Nat.succ_mul]; omega
      have e : j % vz.length = (j - vz.length) % vz.length := Nat.mod_eq_sub_mod (by omega)
      rw [List.getElem?_map, List.getElem?_map, List.getElem?_range h2, List.getElem?_range e1, Option.map_some, Option.map_some, e]
    · have e1 : ¬ j < (n + 1) * vz.length := by rw [Nat.succ_mul]; omega
      rw [List.getElem?_eq_none (by simpa using e1), List.getElem?_eq_none (by simpa using h2)]

theorem rep_get {z : List SV} {vz : List Value} (hz : denL ρ z = some vz) (hpos : 0 < vz.length) (n : Nat) :
    denL ρ (repS n z) = some ((List.range (n * vz.length)).map fun i => vz.getD (i % vz.length) undef) := by
  induction n with
  | zero => simp [repS, denL]
  | succ n ih => rw [range_rep vz n hpos, repS]; exact denL_append hz ih

theorem run_v {s : Sem Value} {x : Value} {w' : World} (h : s.run P w = .ok x w') : (do pure (Next.value (← s)) : Sem Next).run P w = .ok (.value x) w' := by
  rw [Sem.run_bind, h]; rfl
theorem run_u {s : Sem Unit} {w' : World} (h : s.run P w = .ok () w') : (do s; pure Next.skip : Sem Next).run P w = .ok .skip w' := by
  rw [Sem.run_bind, h]; rfl

theorem rep_array (zs : Array Value) (n : Nat) : ((Array.range n).map (zs[· % zs.size]!)) = ((List.range n).map fun i => zs.toList.getD (i % zs.toList.length) default).toArray := by
  apply Array.ext'
  simp [List.getD_eq_getElem?_getD, Array.getElem!_eq_getD, Array.getD_eq_getD_getElem?]

theorem buildSlice_ok (hT : TabOk P T) (hF : FM ρ F a) (hπ : GPsat a π) (hf : ρ fr = none) {t e len : Nat} {ti te : TI} (ht : T t = some ti) (hd : ti.desc = .slice e) (hte : T e = some te)
    {z l : List SV} (hz : ofValues te.zero.cells.toList = some z) (hb : len * te.size + len ≤ 1000) (hzl : lenL z = te.size)
    {ps : Array (Nat × Operand)} (hfill : fillA te.size F π ps.toList (repS len z) = some l) :
    OutOk ρ H fr w ((do pure (Next.value (← Instr.buildSlice t len (ps.map fun (i, x) => (i, a.eval x)))) : Sem Next).run P w) ⟨none, .sl fr, .new (.row e te.size len l)⟩ := by
  obtain ⟨hz1, hz2⟩ := ofValues_den ρ hz
  have hlen := denL_len hz1
  rw [lenL_eq] at hzl
  obtain ⟨vz, hv1, hv2, hv3⟩ : ∃ vz, denL ρ (repS len z) = some vz ∧ vz.all (·.oneCell') = true ∧
      (Array.range (len * te.size)).map ((if len * te.size = 0 then #[] else te.zero.cells)[· % (if len * te.size = 0 then #[] else te.zero.cells).size]!) = vz.toArray := by
    by_cases h0 : len * te.size = 0
    · refine ⟨[], ?_, rfl, by simp [h0]⟩
      have hr : (repS len z).length = 0 := by rw [repS_len, hzl]; exact h0
      rw [List.eq_nil_of_length_eq_zero hr]; rfl
    · have hpos : 0 < te.zero.cells.toList.length := by
        rw [hlen, hzl]
        rcases Nat.eq_zero_or_pos te.size with h | h
        · rw [h] at h0; simp at h0
        · exact h
      refine ⟨_, rep_get hz1 hpos len, ?_, ?_⟩
      · rw [List.all_eq_true] at hz2 ⊢
        intro x hx
        obtain ⟨i, hi, rfl⟩ := List.mem_map.1 hx
        have hlt : i % te.zero.cells.toList.length < te.zero.cells.toList.length := Nat.mod_lt _ hpos
        rw [List.getD_eq_getElem?_getD, List.getElem?_eq_getElem hlt]
        exact hz2 _ (List.getElem_mem hlt)
      · rw [if_neg h0, rep_array, hlen, hzl]
        congr 1
        apply List.map_congr_left
        intro i hi
        have hlt : i % te.size < te.zero.cells.toList.length := by
          rw [hlen, hzl]; exact Nat.mod_lt _ (by rw [hlen, hzl] at hpos; exact hpos)
        rw [List.getD_eq_getElem?_getD, List.getD_eq_getElem?_getD, List.getElem?_eq_getElem hlt]
        rfl
  obtain ⟨vl, h1, h2, h3, h4⟩ := fillA_ok hF hπ ps.toList _ l _ hfill hv1 hv2
  have hvl : vl.length = len * te.size := by rw [h3, denL_len hv1, repS_len, hzl]
  refine ⟨.slice (some ⟨w.heap.size, 0, none⟩) len len, .row w.heap.size len len te.size, .cells vl.toArray e, ?_, ?_, ?_, ?_, ?_⟩
  · refine run_v ?_
    have hbig : ¬ len * te.size > 2 ^ 24 := by omega
    by_cases h0 : len * te.size = 0
    · rw [if_pos h0] at hv3
      simp only [Instr.buildSlice, Sem.run_bind, run_und hT ht, Result.andThen, hd, run_size hT hte, if_neg hbig, if_pos h0, Sem.run_pure, hv3, Array.toList_map, h4]
      rfl
    · rw [if_neg h0] at hv3
      simp only [Instr.buildSlice, Sem.run_bind, run_und hT ht, Result.andThen, hd, run_size hT hte, if_neg hbig, if_neg h0, Sem.run_pure, run_zero hT hte, hv3, Array.toList_map, h4]
      rfl
  · simp [den, upd_self]
  · refine ⟨rfl, rfl, ⟨Nat.le_refl _, by unfold maxLen; omega⟩, vl, [], denL_ext (Ext.upd _ hf) _ _ h1, h2, hvl, by simp, ?_⟩
    rw [List.append_nil]
    exact heap_alloc_new w _
  · intro b hb; simp [Nm.owner] at hb; exact hb.symm
  · exact ⟨fun b hb => (by cases hb), fun s C h => (by cases h)⟩

end
end Go.X
end

section
set_option linter.unusedVariables false
set_option linter.unusedSimpArgs false
set_option linter.unusedSectionVars false
/- All arms of `core` together. -/
set_option linter.unusedVariables false
set_option linter.unusedSimpArgs false
namespace Go.X
open Go

section
variable {P : Program} {T : Tab} {ρ : Env} {F : LF} {a : Act} {π : GP} {H : LH} {w : World} {fr : Nat} {o : Oper} {out : Out}

theorem den_se {id off : Nat} {i : Int} {v : Value} (h : den ρ (.se id i off) = some v) :
    (∃ ad n c s, ρ id = some (.sl (some ad) n c s) ∧ i.toNat < n ∧ v = .pointer (some (ad.add (i.toNat * s + off)))) ∨
    (∃ nm n c s, ρ id = some (.row nm n c s) ∧ i.toNat < n ∧ v = .pointer (some ⟨nm, i.toNat * s + off, none⟩)) := by
  simp only [den] at h
  split at h
  · rename_i ad n c s e
    split at h
    · cases h; exact .inl ⟨ad, n, c, s, e, by assumption, rfl⟩
    · cases h
  · rename_i nm n c s e
    split at h
    · cases h; exact .inr ⟨nm, n, c, s, e, by assumption, rfl⟩
    · cases h
  · cases h

theorem add_mk (b o n : Nat) : (⟨b, o, none⟩ : Addr).add n = ⟨b, o + n, none⟩ := by
  unfold Addr.add; split <;> simp_all

theorem fieldAt_ok (hT : TabOk P T) {t f : Nat} {ti tf : TI} (ht : T t = some ti) {fs : Array Field} (hd : ti.desc = .struct fs) {fd : Field} (hf : fs.toList[f]? = some fd)
    (htf : T fd.type = some tf) (hs : tf.size ≠ 0) (ad : Addr) (w : World) : (Instr.fieldAt t (.pointer (some ad)) f).run P w = .ok (.pointer (some (ad.add fd.offset))) w := by
  have hf' : fs[f]? = some fd := by simpa using hf
  simp [Instr.fieldAt, run_und hT ht, Result.andThen, hd, hf', Instr.sureAddr, fieldPlace_ok hT htf hs]

theorem field_ok (hT : TabOk P T) {t f : Nat} {ti tf : TI} (ht : T t = some ti) {fs : Array Field} (hd : ti.desc = .struct fs) {fd : Field} (hf : fs.toList[f]? = some fd)
    (htf : T fd.type = some tf) {l : List SV} {s : SV} {v : Value} (hv : den ρ (.agg l) = some v) (hl : loadC (aggD tf.desc) tf.size fd.offset l = some s) (w : World) :
    ∃ u, (Instr.field t v f).run P w = .ok u w ∧ den ρ s = some u := by
  have hf' : fs[f]? = some fd := by simpa using hf
  simp only [den] at hv
  cases e : denL ρ l with
  | none => simp [e] at hv
  | some vs =>
    simp only [e] at hv
    split at hv
    · rename_i ha
      cases hv
      obtain ⟨u, h1, h2⟩ := part_ok hT htf hl e ha w
      exact ⟨u, by simp [Instr.field, run_und hT ht, Result.andThen, hd, hf', asAgg, h1], h2⟩
    · cases hv

theorem index_ok (hT : TabOk P T) {t len e : Nat} {ti te : TI} (ht : T t = some ti) (hd : ti.desc = .array len e) (hte : T e = some te) {k : IntKind} {i : Int} (hi : 0 ≤ i ∧ i < (len : Int))
    {l : List SV} {s : SV} {v : Value} (hv : den ρ (.agg l) = some v) (hl : loadC (aggD te.desc) te.size (i.toNat * te.size) l = some s) (w : World) :
    ∃ u, (Instr.index t v (.int k i)).run P w = .ok u w ∧ den ρ s = some u := by
  simp only [den] at hv
  cases e : denL ρ l with
  | none => simp [e] at hv
  | some vs =>
    simp only [e] at hv
    split at hv
    · rename_i ha
      cases hv
      obtain ⟨u, h1, h2⟩ := part_ok hT hte hl e ha w
      exact ⟨u, by simp [Instr.index, run_und hT ht, Result.andThen, hd, asIntOf, hi, run_size hT hte, h1], h2⟩
    · cases hv

theorem indexAt_slice_ok (hT : TabOk P T) {t e : Nat} {ti te : TI} (ht : T t = some ti) (hd : ti.desc = .slice e) (hte : T e = some te) {k : IntKind} {i : Int} {n c : Nat} (hi : 0 ≤ i ∧ i < (n : Int))
    (ad : Addr) (w : World) : (Instr.indexAt t (.slice (some ad) n c) (.int k i)).run P w = .ok (.pointer (some (ad.add (i.toNat * te.size)))) w := by
  simp [Instr.indexAt, run_und hT ht, Result.andThen, hd, asIntOf, hi, run_size hT hte]

theorem indexAt_array_ok (hT : TabOk P T) {t len e : Nat} {ti te : TI} (ht : T t = some ti) (hd : ti.desc = .array len e) (hte : T e = some te) {k : IntKind} {i : Int} (hi : 0 ≤ i ∧ i < (len : Int))
    (ad : Addr) (w : World) : (Instr.indexAt t (.pointer (some ad)) (.int k i)).run P w = .ok (.pointer (some (ad.add (i.toNat * te.size)))) w := by
  simp [Instr.indexAt, run_und hT ht, Result.andThen, hd, asIntOf, hi, run_size hT hte, Instr.sureAddr]

theorem sl_len (hH : HM ρ H w) {id : Nat} {v : Value} (hv : den ρ (.sl id) = some v) {n : Nat} {hb : HB} (hf : H id = some hb)
    (hn : (∃ s g, hb = .ro s n g) ∨ (∃ t s xs, hb = .row t s n xs) ∨ (∃ t s g, hb = .vec t s n g)) :
    ∃ A c, v = .slice A n c ∧ (0 < n → ∃ ad, A = some ad) ∧
      ((∃ s g, hb = .ro s n g ∧ ρ id = some (.sl A n c s)) ∨ (∃ t s xs nm, hb = .row t s n xs ∧ ρ id = some (.row nm n c s) ∧ A = some ⟨nm, 0, none⟩) ∨
        (∃ t s g nm, hb = .vec t s n g ∧ (0 < n → ρ id = some (.row nm n c s) ∧ A = some ⟨nm, 0, none⟩))) := by
  obtain ⟨nm, hr, hok⟩ := hH.ok _ _ hf
  rcases hn with ⟨s, g, rfl⟩ | ⟨t, s, xs, rfl⟩ | ⟨t, s, g, rfl⟩
  · cases nm <;> simp only [HBok] at hok
    obtain ⟨rfl, rfl, _, h3⟩ := hok
    simp only [den, hr] at hv
    cases hv
    exact ⟨_, _, rfl, fun h => let ⟨ad, e, _⟩ := h3 h; ⟨ad, e⟩, .inl ⟨_, _, rfl, hr⟩⟩
  · cases nm <;> simp only [HBok] at hok
    obtain ⟨rfl, rfl, _⟩ := hok
    simp only [den, hr] at hv
    cases hv
    exact ⟨_, _, rfl, fun _ => ⟨_, rfl⟩, .inr (.inl ⟨_, _, _, _, rfl, hr, rfl⟩)⟩
  · cases nm <;> simp only [HBok] at hok
    · obtain ⟨rfl, rfl, rfl, rfl, rfl⟩ := hok
      simp only [den, hr] at hv
      cases hv
      exact ⟨_, _, rfl, fun h => by omega, .inr (.inr ⟨_, _, _, 0, rfl, fun h => by omega⟩)⟩
    obtain ⟨rfl, rfl, _⟩ := hok
    simp only [den, hr] at hv
    cases hv
    exact ⟨_, _, rfl, fun _ => ⟨_, rfl⟩, .inr (.inr ⟨_, _, _, _, rfl, fun _ => ⟨hr, rfl⟩⟩)⟩

theorem sl_piece (hH : HM ρ H w) {id : Nat} {v : Value} (hv : den ρ (.sl id) = some v) {s n : Nat} (hf : pieceN H id = some (s, n)) (hn : 0 < n) :
    ∃ ad c, v = .slice (some ad) n c ∧ n ≤ c ∧ (ρ id = some (.sl (some ad) n c s) ∨ ∃ k : Nat, ad = ⟨k, 0, none⟩ ∧ ρ id = some (.row k n c s)) := by
  unfold pieceN at hf
  split at hf
  · rename_i s' n' g e
    cases hf
    obtain ⟨nm, hr, hok⟩ := hH.ok _ _ e
    cases nm <;> simp only [HBok] at hok
    obtain ⟨rfl, rfl, hc, h3⟩ := hok
    obtain ⟨ad, rfl, _⟩ := h3 hn
    simp only [den, hr] at hv
    cases hv
    exact ⟨ad, _, rfl, hc, .inl hr⟩
  · rename_i t s' n' xs e
    cases hf
    obtain ⟨nm, hr, hok⟩ := hH.ok _ _ e
    cases nm <;> simp only [HBok] at hok
    obtain ⟨rfl, rfl, ⟨hc, _⟩, _⟩ := hok
    simp only [den, hr] at hv
    cases hv
    exact ⟨_, _, rfl, hc, .inr ⟨_, rfl, hr⟩⟩
  · rename_i t s' n' g e
    cases hf
    obtain ⟨nm, hr, hok⟩ := hH.ok _ _ e
    cases nm <;> simp only [HBok] at hok
    · obtain ⟨_, _, _, h, _⟩ := hok; omega
    obtain ⟨rfl, rfl, ⟨hc, _⟩, _⟩ := hok
    simp only [den, hr] at hv
    cases hv
    exact ⟨_, _, rfl, hc, .inr ⟨_, rfl, hr⟩⟩
  · cases hf
theorem add_zero_mk' (k o : Nat) : (⟨k, 0, none⟩ : Addr).add o = ⟨k, o, none⟩ := by rw [add_mk]; simp
/-- An end of a part: what it comes to. -/
theorem endE_ok (hF : FM ρ F a) (hπ : GPsat a π) {d i : Int} {x : Option Operand} (h : endE F π d x = some i) :
    (∃ k, x.map a.eval = some (.int k i)) ∨ (x.map a.eval = none ∧ i = d) := by
  cases x with
  | none => simp only [endE] at h; cases h; exact .inr ⟨rfl, rfl⟩
  | some x =>
    simp only [endE] at h
    split at h
    · rename_i k i' e
      cases h
      have := ev_ok hF hπ e
      simp only [den, Option.some.injEq] at this
      exact .inl ⟨k, by rw [Option.map_some, ← this]⟩
    · cases h
theorem bounds_ok (b : Bool) {lo hi : Option Value} {len cap : Nat} {i j : Int} (hlo : (∃ k, lo = some (.int k i)) ∨ (lo = none ∧ i = 0)) (hhi : (∃ k, hi = some (.int k j)) ∨ (hi = none ∧ j = (len : Int)))
    (h0 : 0 ≤ i) (h1 : i ≤ j) (h2 : j ≤ (cap : Int)) : (Instr.sliceBounds b len cap lo hi none).run P w = .ok (i.toNat, j.toNat, cap) w := by
  have c1 : 0 ≤ j ∧ j ≤ (cap : Int) := ⟨by omega, h2⟩
  have c2 : 0 ≤ i ∧ i ≤ (j.toNat : Int) := ⟨h0, by omega⟩
  rcases hlo with ⟨k, rfl⟩ | ⟨rfl, rfl⟩ <;> rcases hhi with ⟨k', rfl⟩ | ⟨rfl, rfl⟩
  · simp only [Instr.sliceBounds, Instr.sliceBound, asIntOf, Sem.run_bind, Sem.run_pure, Result.andThen_ok, if_pos c1, if_pos c2]
  · have c3 : 0 ≤ i ∧ i ≤ (len : Int) := ⟨h0, h1⟩
    simp only [Instr.sliceBounds, Instr.sliceBound, asIntOf, Sem.run_bind, Sem.run_pure, Result.andThen_ok, if_pos c3, Int.toNat_natCast]
  · simp only [Instr.sliceBounds, Instr.sliceBound, asIntOf, Sem.run_bind, Sem.run_pure, Result.andThen_ok, if_pos c1]
    rfl
  · simp only [Instr.sliceBounds, Instr.sliceBound, asIntOf, Sem.run_bind, Sem.run_pure, Result.andThen_ok, Int.toNat_natCast]
    rfl
theorem den_ss {id off m tot : Nat} {v : Value} (h : den ρ (.ss id off m tot) = some v) : ∃ A c, v = .slice A m c := by
  simp only [den] at h
  split at h
  · rename_i nm _
    cases nm with
    | blk b => simp only [partOf] at h; cases h; exact ⟨_, _, rfl⟩
    | sl a n c s =>
      cases a with
      | none => simp only [partOf] at h; cases h
      | some ad =>
        simp only [partOf] at h
        split at h
        · cases h; exact ⟨_, _, rfl⟩
        · cases h
    | row b n c s =>
      simp only [partOf] at h
      split at h
      · cases h; exact ⟨_, _, rfl⟩
      · cases h
  · cases h
theorem intKind_max (k : IntKind) (x y : Int) : Value.int k (if y > x then y else x) = .int k (max x y) := by
  congr 1; split <;> omega
theorem intKind_min (k : IntKind) (x y : Int) : Value.int k (if y < x then y else x) = .int k (min x y) := by
  congr 1; split <;> omega

theorem store_ok (hT : TabOk P T) (hH : HM ρ H w) {t : Nat} {ti : TI} (ht : T t = some ti) {id off : Nat} {x v : Value} (hx : den ρ (.sp id off) = some x) {y : SV} (hy : den ρ y = some v)
    {TT : Nat} {old cs : List SV} (hf : H id = some (.cells TT old)) (hc : cellsS y = some cs) (hl : cs.length = ti.size) (hfit : off + cs.length ≤ old.length) :
    OutOk ρ H fr w ((do Instr.storeAt t x v; pure Next.skip : Sem Next).run P w) ⟨none, .tup [], .st id off cs⟩ := by
  obtain ⟨nm, hn, rfl⟩ := den_sp hx
  obtain ⟨nm', hn', hok⟩ := hH.ok _ _ hf
  rw [hn] at hn'; cases hn'
  obtain ⟨vs, h1, h2, h3⟩ := hok
  obtain ⟨us, h4, h5, h6⟩ := cellsS_ok hc hy
  have hul := denL_len h4
  have hvl := denL_len h1
  have hs := storeVar_ok hT ht (w := w) (nm := nm) (off := off) h6 (by omega) h5 h3 (by omega)
  have hs' : (Instr.storeAt t (.pointer (some ⟨nm, off, none⟩)) v).run P w = .ok () (w.setRow nm (vs.take off ++ us ++ vs.drop (off + us.length)).toArray) := by
    simp only [Instr.storeAt, Instr.sureAddr, Sem.run_bind, Sem.run_pure, Result.andThen]; exact hs
  refine ⟨TT, old, nm, _, us, hf, hn, h4, h5, hfit, run_u hs', size_setRow _ _ _, fun k hk => heap_setRow _ _ _ _ hk, ?_, ⟨rfl, rfl⟩⟩
  intro vs' hvs'
  rw [h1] at hvs'; cases hvs'
  exact setRow_heap w nm vs.toArray _ TT (0, 0) h3

theorem equalIn_bool (hT : TabOk P T) {t : Nat} {ti : TI} (ht : T t = some ti) (hd : ti.desc = .bool) (p q : Bool) (w : World) (d : Nat) :
    (Op.equalIn (d + 1) t (.bool p) (.bool q)).run P w = .ok (p == q) w := by
  simp only [Op.equalIn, Sem.run_bind, run_und hT ht, Result.andThen, hd]
  rfl
theorem eqBool_ok (hT : TabOk P T) {t : Nat} {ti : TI} (ht : T t = some ti) (hd : ti.desc = .bool) (p q : Bool) (w : World) :
    (Result.ok () w).andThen (fun _ w' => (binOp .eql t (.bool p) (.bool q)).run P w') = .ok (.bool (p == q)) w := by
  have h := equalIn_bool hT ht hd p q w 9999
  show (do pure (Value.bool (← Op.equalIn 10000 t (.bool p) (.bool q))) : Sem Value).run P w = _
  rw [Sem.run_bind, h]; rfl
theorem neqBool_ok (hT : TabOk P T) {t : Nat} {ti : TI} (ht : T t = some ti) (hd : ti.desc = .bool) (p q : Bool) (w : World) :
    (Result.ok () w).andThen (fun _ w' => (binOp .neq t (.bool p) (.bool q)).run P w') = .ok (.bool (!(p == q))) w := by
  have h := equalIn_bool hT ht hd p q w 9999
  show (do pure (Value.bool (!(← Op.equalIn 10000 t (.bool p) (.bool q)))) : Sem Value).run P w = _
  rw [Sem.run_bind, h]; rfl

theorem isFalse_eq {y : Operand} (h : isFalse y = true) : y = .const (.bool false) := by
  unfold isFalse at h; split at h
  · rfl
  · cases h
theorem isTrue_eq {y : Operand} (h : isTrue y = true) : y = .const (.bool true) := by
  unfold isTrue at h; split at h
  · rfl
  · cases h

theorem sat_cons {s : Nat} {p : Bool} (hπ : GPsat a π) (h : Value.bool p = a.eval (.tmp s)) : GPsat a ((s, p) :: π) := by
  intro y hy
  rcases List.mem_cons.1 hy with rfl | hy
  · simp only [Act.eval, Array.getD_eq_getD_getElem?] at h
    cases e : a.tmps[s]? with
    | none => rw [e] at h; cases h
    | some z => rw [e] at h; simp only [Option.getD_some] at h; rw [h]
  · exact hπ y hy

theorem pickC_ok (hF : FM ρ F a) (hπ : GPsat a π) {c x y : Operand} (h : pickC F π c x y = some out) :
    OutOk ρ H fr w ((do pure (Next.value (if ← asBool (a.eval c) then a.eval x else a.eval y)) : Sem Next).run P w) out := by
  unfold pickC at h
  split at h
  · rename_i s
    split at h
    · rename_i p e1 e2
      split at h
      · rename_i q e3
        cases h
        have h1 := ev_ok hF hπ e1
        simp only [den, Option.some.injEq] at h1
        rw [isFalse_eq e2, ← h1]
        cases p with
        | true => exact ⟨_, rfl, by simpa using ev_ok hF (sat_cons hπ h1) e3⟩
        | false => exact ⟨_, rfl, by simp [den, Act.eval]⟩
      · cases h
    · rename_i p e1 e2 e2'
      split at h
      · rename_i q e3
        cases h
        have h1 := ev_ok hF hπ e1
        simp only [den, Option.some.injEq] at h1
        rw [isTrue_eq e2', ← h1]
        cases p with
        | false => exact ⟨_, rfl, by simpa using ev_ok hF (sat_cons hπ h1) e3⟩
        | true => exact ⟨_, rfl, by simp [den, Act.eval]⟩
      · cases h
    · cases h
  · cases h

set_option maxHeartbeats 1000000 in
theorem argsOf_ok (hF : FM ρ F a) (hπ : GPsat a π) : ∀ {l : List Operand} {s : List SV}, argsOf F π l = some s → denL ρ s = some (l.map a.eval)
  | [], s, h => by simp only [argsOf, Option.some.injEq] at h; subst h; rfl
  | x :: r, s, h => by
    simp only [argsOf] at h
    split at h
    · rename_i v l e1 e2
      cases h
      exact denL_mk (ev_ok hF hπ e1) (argsOf_ok hF hπ e2)
    · cases h

theorem runPart (hT : TabOk P T) {t : Nat} {tf : TI} (ht : T t = some tf) {l : List SV} {vs : List Value} {off : Nat} {s : SV} (hl : loadC (aggD tf.desc) tf.size off l = some s) (hd : denL ρ l = some vs) (ha : vs.all (·.oneCell') = true) (w : World) :
    ∃ u, (part t vs.toArray off).run P w = .ok u w ∧ den ρ s = some u := part_ok hT ht hl hd ha w

theorem eqF_ok (hT : TabOk P T) (d e : Nat) (ih : ∀ (t : Nat) (x y : SV) (p : Bool) (u v : Value), eqC T d t x y = some p → den ρ x = some u → den ρ y = some v → ∀ w : World, (Op.equalIn e t u v).run P w = .ok p w) :
    ∀ (fs : List Field) (xs ys : List SV) (us vs : List Value) (p : Bool), (∀ f ∈ fs, f.name ≠ "_") → denL ρ xs = some us → denL ρ ys = some vs → us.all (·.oneCell') = true → vs.all (·.oneCell') = true →
      eqFld T (eqC T d) fs xs ys = some p → ∀ w : World, (Op.eqFields e us.toArray vs.toArray fs).run P w = .ok p w
  | [], xs, ys, us, vs, p, hn, h1, h2, h3, h4, h, w => by
    simp only [eqFld] at h; cases h
    simp [Op.eqFields]
  | f :: fs, xs, ys, us, vs, p, hn, h1, h2, h3, h4, h, w => by
    simp only [eqFld] at h
    split at h
    · rename_i tf e1
      split at h
      · rename_i a b e2 e3
        split at h
        · rename_i p' q e4 e5
          cases h
          obtain ⟨u, r1, d1⟩ := runPart hT e1 e2 h1 h3 w
          obtain ⟨v, r2, d2⟩ := runPart hT e1 e3 h2 h4 w
          have r3 := ih _ _ _ _ _ _ e4 d1 d2 w
          have r4 := eqF_ok hT d e ih fs xs ys us vs q (fun g hg => hn g (List.mem_cons_of_mem _ hg)) h1 h2 h3 h4 e5 w
          simp only [Op.eqFields, if_pos (hn f List.mem_cons_self), Sem.run_bind, r1, r2, r3, Result.andThen_ok, Sem.run_ite, r4]
          cases p' <;> simp
        · cases h
      · cases h
    · cases h

theorem eqC_ok (hT : TabOk P T) : ∀ (d e : Nat), d ≤ e → ∀ (t : Nat) (x y : SV) (p : Bool) (u v : Value), eqC T d t x y = some p → den ρ x = some u → den ρ y = some v → ∀ w : World, (Op.equalIn e t u v).run P w = .ok p w := by
  intro d
  induction d using Nat.strongRecOn with
  | _ d ih =>
    intro e hde t x y p u v h hx hy w
    cases d with
    | zero => simp only [eqC] at h; cases h
    | succ d =>
    obtain ⟨e, rfl⟩ : ∃ e', e = e' + 1 := ⟨e - 1, by omega⟩
    simp only [eqC] at h
    split at h
    · rename_i ti e1
      have hu := (hT _ _ e1).1
      split at h
      · rename_i k0 k a k' b e2
        split at h
        · rename_i e3
          have := sameK_eq e3
          subst this
          cases h
          simp only [den, Option.some.injEq] at hx hy
          subst hx; subst hy
          simp only [Op.equalIn, Sem.run_bind, run_und hT e1, Result.andThen_ok, e2]
          simp only [if_true, Sem.run_pure]
          congr 1
        · cases h
      · rename_i p q e2
        cases h
        simp only [den, Option.some.injEq] at hx hy
        subst hx; subst hy
        simp only [Op.equalIn, Sem.run_bind, run_und hT e1, Result.andThen_ok, e2, Sem.run_pure]
      · rename_i fs xs ys e2
        split at h
        · rename_i hp
          obtain ⟨hp1, _, hp3⟩ := (hT _ _ e1).2.2.1 hp
          have hfo : P.fieldsOf t = fs := by simp [Program.fieldsOf, hu, e2]
          have key : ∀ {l : List SV} {z : Value}, den ρ (.agg l) = some z → ∃ vs, denL ρ l = some vs ∧ vs.all (·.oneCell') = true ∧ z = .agg vs.toArray := by
            intro l z hz
            simp only [den] at hz
            split at hz
            · rename_i vs e4
              split at hz
              · rename_i ha; cases hz; exact ⟨vs, e4, ha, rfl⟩
              · cases hz
            · cases hz
          obtain ⟨us, d1, a1, rfl⟩ := key hx
          obtain ⟨vs, d2, a2, rfl⟩ := key hy
          rw [run_equalIn_struct w e t _ _ (by rw [hfo, hu, e2]) hp1, hfo]
          exact eqF_ok hT d e (fun t x y p u v h hx hy w => ih d (by omega) e (by omega) t x y p u v h hx hy w) fs.toList xs ys us vs p (fun f hf => hp3 f (by rw [hfo]; exact hf)) d1 d2 a1 a2 h w
        · cases h
      · cases h
    · cases h

theorem core_ok (hT : TabOk P T) (hF : FM ρ F a) (hπ : GPsat a π) (hH : HM ρ H w) (hfr : ρ fr = none) (h : core T F π H fr o.op = some out) (hp : PreH out.pre) :
    OutOk ρ H fr w ((execOp a.eval o).run P w) out := by
  unfold execOp
  cases hop : o.op <;> rw [hop] at h <;> dsimp only
  case move x =>
    simp only [core] at h
    split at h
    · rename_i v e; cases h
      exact ⟨_, rfl, ev_ok hF hπ e⟩
    · cases h
  case assign x =>
    simp only [core] at h
    split at h
    · rename_i v e; cases h
      exact ⟨_, rfl, ev_ok hF hπ e⟩
    · cases h
  case pick c x y =>
    simp only [core] at h
    exact pickC_ok hF hπ h
  case alloc t =>
    simp only [core] at h
    split at h
    · rename_i ti e1
      split at h
      · rename_i z e2
        cases h
        obtain ⟨h1, h2⟩ := ofValues_den ρ e2
        have hr : (Instr.alloc t true (.tuple #[])).run P w = .ok (.pointer (some ⟨w.heap.size, 0, none⟩)) (w.alloc (.cells ti.zero.cells t)) := by
          simp only [Instr.alloc, Sem.run_bind, run_zero hT e1, Result.andThen, run_newVar]
          rfl
        rw [run_v hr]
        exact newVar_ok h1 h2 (by simp) hfr
      · cases h
    · cases h
  case box t x =>
    simp only [core] at h
    split at h
    · rename_i v e1
      split at h
      · rename_i cs e2
        cases h
        obtain ⟨vs, h1, h2, h3⟩ := cellsS_ok e2 (ev_ok hF hπ e1)
        have hr : (Instr.box t (a.eval x)).run P w = .ok (.pointer (some ⟨w.heap.size, 0, none⟩)) (w.alloc (.cells (a.eval x).cells t)) := by
          simp only [Instr.box, Sem.run_bind, run_newVar, Result.andThen]
          rfl
        rw [run_v hr]
        exact newVar_ok h1 h2 h3 hfr
      · cases h
    · cases h
  case build t ps =>
    simp only [core] at h
    split at h
    · rename_i ti e1
      split at h
      · rename_i fs z e2 e3
        split at h
        · rename_i e4
          split at h
          · rename_i l e5
            cases h
            obtain ⟨v, h1, h2⟩ := build_struct_ok hT hF hπ e1 e2 e3 e4 e5 (w := w)
            exact val_ok (run_v h1) h2
          · cases h
        · cases h
      · rename_i n e z e2 e3
        split at h
        · rename_i te e4
          split at h
          · rename_i l e5
            cases h
            obtain ⟨v, h1, h2⟩ := build_array_ok hT hF hπ e1 e2 e4 e3 e5 (w := w)
            exact val_ok (run_v h1) h2
          · cases h
        · cases h
      · cases h
    · cases h
  case buildSlice t len ps =>
    simp only [core] at h
    split at h
    · rename_i ti e1
      split at h
      · rename_i e e2
        split at h
        · rename_i te e3
          split at h
          · rename_i z e4 e5
            split at h
            · rename_i l e6 e7
              cases h
              exact buildSlice_ok hT hF hπ hfr e1 e2 e3 e4 (by simpa using e5) (by simpa using e6) e7
            · cases h
          · cases h
        · cases h
      · cases h
    · cases h
  case load t x =>
    simp only [core] at h
    split at h
    · rename_i ti id off e1 e2
      split at h
      · rename_i T' cs e3
        split at h
        · rename_i s e4
          cases h
          obtain ⟨u, h1, h2⟩ := load_ok hT hH e1 (ev_ok hF hπ e2) (s := s) (by simp only [e3]; exact e4)
          exact val_ok (run_v h1) h2
        · cases h
      · cases h
    · rename_i ti id i off e1 e2
      split at h
      · rename_i sz n get e3
        split at h
        · rename_i s e4
          cases h
          obtain ⟨u, h1, h2⟩ := load_ok hT hH e1 (ev_ok hF hπ e2) (s := s) (by simp only [e3]; exact e4)
          exact val_ok (run_v h1) h2
        · cases h
      · rename_i T' sz n xs e3
        split at h
        · rename_i s e4
          cases h
          obtain ⟨u, h1, h2⟩ := load_ok hT hH e1 (ev_ok hF hπ e2) (s := s) (by simp only [e3]; exact e4)
          exact val_ok (run_v h1) h2
        · cases h
      · rename_i T' sz n xs e3
        split at h
        · rename_i s e4
          cases h
          obtain ⟨u, h1, h2⟩ := load_ok hT hH e1 (ev_ok hF hπ e2) (s := s) (by simp only [e3]; exact e4)
          exact val_ok (run_v h1) h2
        · cases h
      · cases h
    · cases h
  case store t x y =>
    simp only [core] at h
    split at h
    · rename_i ti id off v e1 e2 e3
      split at h
      · rename_i T' old cs e4 e5
        split at h
        · rename_i e6 e7
          cases h
          have e6' : lenL cs = ti.size := by simpa using e6
          have e7' : off + lenL cs ≤ lenL old := by simpa using e7
          rw [lenL_eq] at e6'
          rw [lenL_eq, lenL_eq] at e7'
          exact store_ok hT hH e1 (ev_ok hF hπ e2) (ev_ok hF hπ e3) e4 e5 e6' e7'
        · cases h
      · cases h
    · cases h
  case nilCheck x =>
    simp only [core] at h
    split at h
    · rename_i id off e
      cases h
      have h1 := ev_ok hF hπ e
      obtain ⟨nm, hn, hv⟩ := den_sp h1
      refine ⟨_, ?_, h1⟩
      rw [hv]; rfl
    · rename_i id i off e
      cases h
      have h1 := ev_ok hF hπ e
      refine ⟨_, ?_, h1⟩
      rcases den_se h1 with ⟨ad, n, c, s, _, _, hv⟩ | ⟨nm, n, c, s, _, _, hv⟩ <;> · rw [hv]; rfl
    · rename_i name t v caps e
      split at h
      · rename_i ti e1
        cases h
        have h1 := ev_ok hF hπ e
        refine ⟨_, ?_, h1⟩
        have hn := (hT t ti e1).2.2.2 name hp
        simp only [den, denL] at h1
        split at h1
        · rename_i vs us e2 e3
          split at e2
          · rename_i u us' e4 e5
            cases e2; cases e5
            split at e4
            · rename_i u' e6
              cases e4
              have h1 := Option.some.inj h1
              rw [← h1]
              have hpg : (program).run P w = .ok P w := rfl
              simp only [List.getElem?_toArray, List.getElem?_cons_zero, Sem.run_bind, hpg, Result.andThen_ok, hn]
              rfl
            · cases e4
          · cases e2
        · cases h1
      · cases h
    · rename_i n l m e
      cases h
      have h1 := ev_ok hF hπ e
      refine ⟨_, ?_, h1⟩
      simp only [den] at h1
      split at h1
      · have h1 := Option.some.inj h1
        rw [← h1]; rfl
      · cases h1
    · cases h
  case slice t x lo hi mx =>
    cases mx with
    | some _ => simp only [core] at h; cases h
    | none =>
    simp only [core] at h
    split at h
    · rename_i ti id i e1 e2 e3
      have hv := ev_ok hF hπ e2
      split at h
      · rename_i el size n e4 e5
        split at h
        · rename_i te j e6 e7
          split at h
          · rename_i e8
            cases h
            have e8 : te.size = size := by simpa using e8
            obtain ⟨h1, h2, h3, h4, h5⟩ := hp
            obtain ⟨ad, c, hA, hnc, hr⟩ := sl_piece hH hv e5 h4
            have hb := bounds_ok (P := P) (w := w) true (cap := c) (endE_ok hF hπ e3) (endE_ok hF hπ e7) h1 h2 (by omega)
            refine val_ok (v := .slice (some (if c = i.toNat then ad else ad.add (i.toNat * size))) (j - i).toNat (c - i.toNat)) (run_v ?_) ?_
            · rw [hA]
              simp only [Option.map_none, Instr.sliceAt, Instr.slice, Sem.run_bind, run_und hT e1, e4, Result.andThen_ok, hb, run_size hT e6, e8, Sem.run_pure, Option.map_some]
              have hsub : j.toNat - i.toNat = (j - i).toNat := by omega
              rw [hsub]
              split <;> rfl
            · simp only [den]
              have hd : i.toNat * size / size = i.toNat := Nat.mul_div_cancel _ h5
              have hfit : i.toNat * size + (j - i).toNat * size ≤ n * size := by rw [← Nat.add_mul]; exact Nat.mul_le_mul_right _ (by omega)
              have hcc : (c - i.toNat = 0) ↔ (c = i.toNat) := by omega
              rcases hr with hr | ⟨k, rfl, hr⟩
              · simp only [hr, partOf, hd, hfit, h5, and_self, if_true, hcc]
              · simp only [hr, partOf, hd, hfit, h5, and_self, if_true, hcc, add_zero_mk']
          · cases h
        · cases h
      · cases h
    · rename_i ti id off i e1 e2 e3
      have hv := ev_ok hF hπ e2
      obtain ⟨nm, hn, hv⟩ := den_sp hv
      split at h
      · rename_i len el e4
        split at h
        · rename_i te j e6 e7
          cases h
          obtain ⟨h1, h2, h3, h4⟩ := hp
          have hb := bounds_ok (P := P) (w := w) false (cap := len) (endE_ok hF hπ e3) (endE_ok hF hπ e7) h1 h2 (by omega)
          refine val_ok (v := .slice (some ⟨nm, off + i.toNat * te.size, none⟩) (j - i).toNat (len - i.toNat)) (run_v ?_) ?_
          · rw [hv]
            have hne : ¬ len = i.toNat := by omega
            simp only [Option.map_none, Instr.sliceAt, Instr.sureAddr, Sem.run_bind, run_und hT e1, e4, Result.andThen_ok, hb, run_size hT e6, Sem.run_pure, hne, if_false, add_mk]
            have hsub : j.toNat - i.toNat = (j - i).toNat := by omega
            rw [hsub]
          · simp only [den, hn, partOf]
        · cases h
      · cases h
    · cases h
  case binOp op t x y t' =>
    simp only [core] at h
    split at h
    · rename_i k p k' q e1 e2
      have h1 := ev_ok hF hπ e1
      have h2 := ev_ok hF hπ e2
      simp only [den, Option.some.injEq] at h1 h2
      have hg := eqGuard_int (P := P) op t x y k k' p q w
      have key : ∀ {s : SV} {pr : Option Prop}, (∃ v, (binOp op t (.int k p) (.int k' q)).run P w = .ok v w ∧ den ρ s = some v) →
          OutOk ρ H fr w ((do pure (Next.value (← (do eqGuard op t x y (a.eval x) (a.eval y); binOp op t (a.eval x) (a.eval y)))) : Sem Next).run P w) ⟨pr, s, .no⟩ := by
        rintro s pr ⟨v, hv, hs⟩
        refine ⟨v, run_v ?_, hs⟩
        rw [← h1, ← h2, Sem.run_bind, hg]
        exact hv
      split at h
      · split at h
        · rename_i pr s e3
          cases h
          exact key (shift_ok _ t k k' p q e3 hp ρ w)
        · cases h
      · split at h
        · rename_i pr s e3
          cases h
          exact key (shift_ok _ t k k' p q e3 hp ρ w)
        · cases h
      · split at h
        · rename_i pr s e3 e4
          cases h
          have := sameK_eq e3
          subst this
          exact key (arith_ok _ t k p q e4 hp ρ w)
        · cases h
    · rename_i p q e1 e2
      have h1 := ev_ok hF hπ e1
      have h2 := ev_ok hF hπ e2
      simp only [den, Option.some.injEq] at h1 h2
      have hg := eqGuard_bool (P := P) op t x y p q w
      split at h
      · rename_i ti e3
        split at h
        · rename_i e4
          cases h
          refine ⟨_, run_v ?_, rfl⟩
          rw [← h1, ← h2, Sem.run_bind, hg]
          exact eqBool_ok hT e3 e4 p q w
        · rename_i e4
          cases h
          refine ⟨_, run_v ?_, rfl⟩
          rw [← h1, ← h2, Sem.run_bind, hg]
          exact neqBool_ok hT e3 e4 p q w
        · cases h
      · cases h
    · rename_i l m e1 e2
      have h1 := ev_ok hF hπ e1
      have h2 := ev_ok hF hπ e2
      split at h
      · rename_i p ti e3 e4
        split at h
        · rename_i hpl
          cases h
          obtain ⟨_, hg, _⟩ := (hT _ _ e4).2.2.1 hpl
          have hq := eqC_ok hT 9 10000 (by omega) _ _ _ _ _ _ e3 h1 h2 w
          have hagg : ∀ {l : List SV} {z : Value}, den ρ (.agg l) = some z → ∃ vs, z = .agg vs := by
            intro l z hz
            simp only [den] at hz
            split at hz
            · split at hz
              · cases hz; exact ⟨_, rfl⟩
              · cases hz
            · cases hz
          obtain ⟨us, hu⟩ := hagg h1
          obtain ⟨vs, hv⟩ := hagg h2
          rw [hu, hv] at hq
          refine ⟨_, run_v ?_, rfl⟩
          rw [hu, hv, Sem.run_bind, run_eqGuard_agg w _ _ _ _ _ _ hg]
          simp only [Result.andThen_ok, run_eql_struct, hq]
        · cases h
      · rename_i p ti e3 e4
        split at h
        · rename_i hpl
          cases h
          obtain ⟨_, hg, _⟩ := (hT _ _ e4).2.2.1 hpl
          have hq := eqC_ok hT 9 10000 (by omega) _ _ _ _ _ _ e3 h1 h2 w
          have hagg : ∀ {l : List SV} {z : Value}, den ρ (.agg l) = some z → ∃ vs, z = .agg vs := by
            intro l z hz
            simp only [den] at hz
            split at hz
            · split at hz
              · cases hz; exact ⟨_, rfl⟩
              · cases hz
            · cases hz
          obtain ⟨us, hu⟩ := hagg h1
          obtain ⟨vs, hv⟩ := hagg h2
          rw [hu, hv] at hq
          refine ⟨_, run_v ?_, rfl⟩
          rw [hu, hv, Sem.run_bind, run_eqGuard_agg w _ _ _ _ _ _ hg]
          simp only [Result.andThen_ok, run_neq_struct, hq]
        · cases h
      · cases h
    · rename_i t0 v0 e1 e2
      have h1 := ev_ok hF hπ e1
      have h2 := ev_ok hF hπ e2
      have h2 : a.eval y = .nilIface := by simpa [den, Value.oneCell'] using h2.symm
      obtain ⟨u, h1⟩ : ∃ u, a.eval x = .iface t0 u := by
        simp only [den] at h1
        split at h1
        · exact ⟨_, (Option.some.inj h1).symm⟩
        · cases h1
      split at h
      · rename_i ti e3
        have hq : ∀ w : World, (Op.equalIn 10000 t (.iface t0 u) .nilIface).run P w = (match ti.desc with
          | .interface _ => .ok false w
          | _ => (Op.equalIn 10000 t (.iface t0 u) .nilIface).run P w) := by
          intro w
          split
          · rename_i d hd
            rw [show (10000 : Nat) = 9999 + 1 from rfl, Op.equalIn]
            simp only [Sem.run_bind, run_und hT e3, Result.andThen_ok, hd, Sem.run_pure]
          · rfl
        split at h
        · rename_i e4
          cases h
          rw [e4] at hq
          refine ⟨_, run_v ?_, rfl⟩
          rw [h1, h2, Sem.run_bind]
          simp [eqGuard, binOp, Op.equal, Op.maxDepth, hq, Result.andThen]
        · rename_i e4
          cases h
          rw [e4] at hq
          refine ⟨_, run_v ?_, rfl⟩
          rw [h1, h2, Sem.run_bind]
          simp [eqGuard, binOp, Op.equal, Op.maxDepth, hq, Result.andThen]
        · cases h
      · cases h
    · rename_i e1 e2
      have h1 := ev_ok hF hπ e1
      have h2 := ev_ok hF hπ e2
      have h2 : a.eval y = .nilIface := by simpa [den, Value.oneCell'] using h2.symm
      have h1 : a.eval x = .nilIface := by simpa [den, Value.oneCell'] using h1.symm
      split at h
      · rename_i ti cv e3 _
        have hq : ∀ w : World, (Op.equalIn 10000 t .nilIface .nilIface).run P w = (match ti.desc with
          | .interface _ => .ok true w
          | _ => (Op.equalIn 10000 t .nilIface .nilIface).run P w) := by
          intro w
          split
          · rename_i d hd
            rw [show (10000 : Nat) = 9999 + 1 from rfl, Op.equalIn]
            simp only [Sem.run_bind, run_und hT e3, Result.andThen_ok, hd, Sem.run_pure]
          · rfl
        split at h
        · rename_i e4
          cases h
          rw [e4] at hq
          refine ⟨_, run_v ?_, rfl⟩
          rw [h1, h2, Sem.run_bind]
          simp [eqGuard, binOp, Op.equal, Op.maxDepth, hq, Result.andThen]
        · rename_i e4
          cases h
          rw [e4] at hq
          refine ⟨_, run_v ?_, rfl⟩
          rw [h1, h2, Sem.run_bind]
          simp [eqGuard, binOp, Op.equal, Op.maxDepth, hq, Result.andThen]
        · cases h
      · cases h
    · cases h
  case typeAssert x xt asserted ok =>
    simp only [core] at h
    split at h
    · rename_i ti t v e1 e2
      have h1 := ev_ok hF hπ e2
      obtain ⟨u, hu, h1⟩ : ∃ u, den ρ v = some u ∧ a.eval x = .iface t u := by
        simp only [den] at h1
        split at h1
        · rename_i u hu; exact ⟨u, hu, (Option.some.inj h1).symm⟩
        · cases h1
      split at h
      · cases h
      · rename_i hni
        have hrun : ∀ (K : Sem Value), (∀ w, (Instr.typeAssert (a.eval x) xt asserted ok).run P w = (if t = asserted then (pure (if ok then .tuple #[u, .bool true] else u) : Sem Value) else (if ok then (do pure (.tuple #[← zeroValue asserted, .bool false])) else Go.runtimePanic (.typeAssertion (some xt) (some t) asserted ""))).run P w) := by
          intro _ w
          rw [h1]
          simp only [Instr.typeAssert, Sem.run_bind, run_und hT e1, Result.andThen_ok]
        have hrun := hrun (pure undef)
        split at h
        · rename_i e3 _
          cases h
          have e3 : t = asserted := by simpa using e3
          refine ⟨.tuple #[u, .bool true], run_v ?_, by simp [den, denL, hu]⟩
          rw [hrun, if_pos e3]
          rfl
        · rename_i e3 _
          cases h
          have e3 : t = asserted := by simpa using e3
          refine ⟨u, run_v ?_, hu⟩
          rw [hrun, if_pos e3]
          rfl
        · rename_i e3 _
          have e3 : ¬ t = asserted := fun he => by rw [he] at e3; simp at e3
          split at h
          · rename_i z hz
            cases h
            refine ⟨.tuple #[ti.zero, .bool false], run_v ?_, by simp [den, denL, ofValue_den ρ hz]⟩
            rw [hrun, if_neg e3]
            simp [run_zero hT e1, Result.andThen]
          · cases h
        · cases h
    · cases h
  case unOp op t x =>
    simp only [core] at h
    split at h
    · rename_i p e
      cases h
      have h1 := ev_ok hF hπ e
      simp only [den, Option.some.injEq] at h1
      refine ⟨_, run_v ?_, rfl⟩
      rw [← h1]; rfl
    · rename_i k n e
      cases h
      have h1 := ev_ok hF hπ e
      simp only [den, Option.some.injEq] at h1
      refine ⟨_, run_v ?_, rfl⟩
      rw [← h1]
      simp only [Op.unary, Op.intArith, wrap_in hp]
      rfl
    · cases h
  case convert s d x =>
    simp only [core] at h
    split at h
    · rename_i ts td k n e1 e2 e3
      split at h
      · rename_i k' e4
        have h1 := ev_ok hF hπ e3
        simp only [den, Option.some.injEq] at h1
        split at h
        · cases h
          refine ⟨_, run_v ?_, rfl⟩
          rw [← h1]
          simp [convert, run_und hT e1, run_und hT e2, e4, Result.andThen, Conv.intToInt, wrapK]
        · cases h
          refine ⟨_, run_v ?_, rfl⟩
          rw [← h1]
          simp [convert, run_und hT e1, run_und hT e2, e4, Result.andThen, Conv.intToInt, wrap_in hp]
      · cases h
    · cases h
  case makeFunc f first caps =>
    simp only [core] at h
    split at h
    · rename_i l m e1 e2
      cases h
      have h1 := argsOf_ok hF hπ e1
      have h2 := argsOf_ok hF hπ e2
      refine ⟨.func f (first.map a.eval) (caps.map a.eval), rfl, ?_⟩
      simp only [den, h1, h2]
      congr 2 <;> (apply Array.ext'; simp)
    · cases h
  case makeInterface t x =>
    simp only [core] at h
    split at h
    · rename_i ti v e1 e2
      split at h
      · cases h
      · rename_i hni
        cases h
        have h1 := ev_ok hF hπ e2
        refine ⟨.iface t (a.eval x), run_v ?_, by simp only [den, h1]⟩
        simp only [Instr.makeInterface, Sem.run_bind, run_und hT e1, Result.andThen]
        cases hdd : ti.desc <;> first | rfl | exact absurd hdd (hni _)
    · cases h
  case fieldAddr t x f =>
    simp only [core] at h
    split at h
    · rename_i ti id off e1 e2
      split at h
      · rename_i fs e3
        split at h
        · rename_i fd e4
          split at h
          · rename_i tf e5
            split at h
            · cases h
            · rename_i n e6
              cases h
              rw [nth_eq] at e4
              have h1 := ev_ok hF hπ e2
              obtain ⟨nm, hn, hv⟩ := den_sp h1
              refine val_ok (v := .pointer (some ⟨nm, off + fd.offset, none⟩)) (run_v ?_) (by simp only [den, hn])
              rw [hv, fieldAt_ok hT e1 e3 e4 e5 (by omega), add_mk]
          · cases h
        · cases h
      · cases h
    · rename_i ti id i off e1 e2
      split at h
      · rename_i fs e3
        split at h
        · rename_i fd e4
          split at h
          · rename_i tf e5
            split at h
            · cases h
            · rename_i n e6
              cases h
              rw [nth_eq] at e4
              have h1 := ev_ok hF hπ e2
              rcases den_se h1 with ⟨ad, n', c, s, hr, hlt, hv⟩ | ⟨nm, n', c, s, hr, hlt, hv⟩
              · refine val_ok (v := .pointer (some (ad.add (i.toNat * s + (off + fd.offset))))) (run_v ?_) (by simp only [den, hr, hlt, if_true])
                rw [hv, fieldAt_ok hT e1 e3 e4 e5 (by omega), add_add, Nat.add_assoc]
              · refine val_ok (v := .pointer (some ⟨nm, i.toNat * s + (off + fd.offset), none⟩)) (run_v ?_) (by simp only [den, hr, hlt, if_true])
                rw [hv, fieldAt_ok hT e1 e3 e4 e5 (by omega), add_mk, Nat.add_assoc]
          · cases h
        · cases h
      · cases h
    · cases h
  case field t x f =>
    simp only [core] at h
    split at h
    · rename_i ti l e1 e2
      split at h
      · rename_i fs e3
        split at h
        · rename_i fd e4
          split at h
          · rename_i tf e5
            split at h
            · rename_i s e6
              cases h
              rw [nth_eq] at e4
              obtain ⟨u, h1, h2⟩ := field_ok hT e1 e3 e4 e5 (ev_ok hF hπ e2) e6 w
              exact val_ok (run_v h1) h2
            · cases h
          · cases h
        · cases h
      · cases h
    · cases h
  case indexAddr t x y =>
    simp only [core] at h
    split at h
    · rename_i ti id k i e1 e2 e3
      have hv := ev_ok hF hπ e2
      have hi := ev_ok hF hπ e3
      simp only [den, Option.some.injEq] at hi
      split at h
      · rename_i e size n g e4 e5
        split at h
        · rename_i te e6
          split at h
          · rename_i e7
            cases h
            obtain ⟨A, c, hA, hA2, hA3⟩ := sl_len hH hv e5 (.inl ⟨_, _, rfl⟩)
            have hn : 0 < n := by have := hp.1; have := hp.2; omega
            obtain ⟨ad, rfl⟩ := hA2 hn
            have hlt : i.toNat < n := by have := hp.1; have := hp.2; omega
            rcases hA3 with ⟨s, g', hg, hr⟩ | ⟨t', s, xs, nm, hg, _⟩ | ⟨t', s, xs, nm, hg, _⟩
            · cases hg
              have e7' : te.size = size := by simpa using e7
              refine val_ok (v := .pointer (some (ad.add (i.toNat * size + 0)))) (run_v ?_) (by simp only [den, hr, hlt, if_true])
              rw [hA, ← hi, indexAt_slice_ok hT e1 e4 e6 hp, e7', Nat.add_zero]
            · cases hg
            · cases hg
          · cases h
        · cases h
      · rename_i e T' size n xs e4 e5
        split at h
        · rename_i te e6
          split at h
          · rename_i e7
            cases h
            obtain ⟨A, c, hA, hA2, hA3⟩ := sl_len hH hv e5 (.inr (.inl ⟨_, _, _, rfl⟩))
            have hlt : i.toNat < n := by have := hp.1; have := hp.2; omega
            rcases hA3 with ⟨s, g', hg, hr⟩ | ⟨t', s, xs', nm, hg, hr, hA4⟩ | ⟨t', s, xs', nm, hg, _⟩
            · cases hg
            · cases hg
              subst hA4
              have e7' : te.size = size := by simpa using e7
              refine val_ok (v := .pointer (some ⟨nm, i.toNat * size + 0, none⟩)) (run_v ?_) (by simp only [den, hr, hlt, if_true])
              rw [hA, ← hi, indexAt_slice_ok hT e1 e4 e6 hp, e7', add_mk, Nat.add_zero, Nat.zero_add]
            · cases hg
          · cases h
        · cases h
      · rename_i e T' size n xs e4 e5
        split at h
        · rename_i te e6
          split at h
          · rename_i e7
            cases h
            obtain ⟨A, c, hA, hA2, hA3⟩ := sl_len hH hv e5 (.inr (.inr ⟨_, _, _, rfl⟩))
            have hlt : i.toNat < n := by have := hp.1; have := hp.2; omega
            rcases hA3 with ⟨s, g', hg, hr⟩ | ⟨t', s, xs', nm, hg, hr, hA4⟩ | ⟨t', s, xs', nm, hg, hr4⟩
            · cases hg
            · cases hg
            · cases hg
              obtain ⟨hr, hA4⟩ := hr4 (by have := hp.1; have := hp.2; omega)
              subst hA4
              have e7' : te.size = size := by simpa using e7
              refine val_ok (v := .pointer (some ⟨nm, i.toNat * size + 0, none⟩)) (run_v ?_) (by simp only [den, hr, hlt, if_true])
              rw [hA, ← hi, indexAt_slice_ok hT e1 e4 e6 hp, e7', add_mk, Nat.add_zero, Nat.zero_add]
          · cases h
        · cases h
      · cases h
    · rename_i ti id off k i e1 e2 e3
      have hv := ev_ok hF hπ e2
      have hi := ev_ok hF hπ e3
      simp only [den, Option.some.injEq] at hi
      split at h
      · rename_i len e e4
        split at h
        · rename_i te e5
          cases h
          obtain ⟨nm, hn, hv'⟩ := den_sp hv
          refine val_ok (v := .pointer (some ⟨nm, off + i.toNat * te.size, none⟩)) (run_v ?_) (by simp only [den, hn])
          rw [hv', ← hi, indexAt_array_ok hT e1 e4 e5 hp, add_mk]
        · cases h
      · cases h
    · rename_i ti id off m tot k i e1 e2 e3
      have hv := ev_ok hF hπ e2
      have hi := ev_ok hF hπ e3
      simp only [den, Option.some.injEq] at hi
      split at h
      · rename_i e Tc cs e4 e5
        split at h
        · rename_i te e6
          cases h
          obtain ⟨nm, hr, hok⟩ := hH.ok _ _ e5
          cases nm <;> simp only [HBok] at hok
          rename_i nm
          simp only [den, hr, partOf, Option.some.injEq] at hv
          refine val_ok (v := .pointer (some ⟨nm, off + i.toNat * te.size, none⟩)) (run_v ?_) (by simp only [den, hr])
          rw [← hv, ← hi, indexAt_slice_ok hT e1 e4 e6 hp, add_mk]
        · cases h
      · cases h
    · cases h
  case index t x y =>
    simp only [core] at h
    split at h
    · rename_i ti l k i e1 e2 e3
      have hi := ev_ok hF hπ e3
      simp only [den, Option.some.injEq] at hi
      split at h
      · rename_i len e e4
        split at h
        · rename_i te e5
          split at h
          · rename_i s e6
            cases h
            obtain ⟨u, h1, h2⟩ := index_ok hT e1 e4 e5 (k := k) hp (ev_ok hF hπ e2) e6 w
            rw [hi] at h1
            exact val_ok (run_v h1) h2
          · cases h
        · cases h
      · cases h
    · cases h
  case extract x i =>
    simp only [core] at h
    split at h
    · rename_i l e1
      split at h
      · rename_i s e2
        cases h
        have h1 := ev_ok hF hπ e1
        simp only [den] at h1
        cases e : denL ρ l with
        | none => simp [e] at h1
        | some vs =>
          simp only [e, Option.some.injEq] at h1
          rw [nth_eq] at e2
          obtain ⟨v, h2, h3⟩ := denL_get e e2
          refine val_ok (run_v ?_) h3
          rw [← h1]
          simp [Instr.extract, h2]
      · cases h
    · cases h
  case call c =>
    simp only [core] at h
    split at h
    · rename_i x t e1 e2 e3
      have hargs : c.args.map a.eval = #[a.eval x] := by
        apply Array.ext'; simp [e2]
      have hts : c.argTypes = #[t] := by apply Array.ext'; simp [e3]
      obtain ⟨cs, hres⟩ : ∃ cs : Array Bool, ∀ w, (resolve a.eval c o.type).run P w = .ok { target := .builtin .len #[t] o.type cs, args := #[a.eval x] } w :=
        ⟨_, fun w => by simp only [resolve, e1, hargs, hts]; rfl⟩
      have key : ∀ {v : Value}, (Builtin.len_ #[t] o.type #[a.eval x]).run P w = .ok v w →
          (do let d ← resolve a.eval c o.type; invoke d.target d.args : Sem Next).run P w = .ok (.value v) w := by
        intro v hv
        rw [Sem.run_bind, hres]
        simp only [Result.andThen, invoke, builtin]
        exact run_v hv
      split at h
      · rename_i ti id e4 e5
        have hv := ev_ok hF hπ e5
        split at h
        · rename_i el s n g e6 e7
          cases h
          obtain ⟨A, cc, hA, _⟩ := sl_len hH hv e7 (.inl ⟨_, _, rfl⟩)
          refine val_ok (key ?_) rfl
          rw [hA]
          simp [Builtin.len_, run_und hT e4, e6, Result.andThen, goInt]
        · rename_i el T' s n xs e6 e7
          cases h
          obtain ⟨A, cc, hA, _⟩ := sl_len hH hv e7 (.inr (.inl ⟨_, _, _, rfl⟩))
          refine val_ok (key ?_) rfl
          rw [hA]
          simp [Builtin.len_, run_und hT e4, e6, Result.andThen, goInt]
        · rename_i el T' s n xs e6 e7
          cases h
          obtain ⟨A, cc, hA, _⟩ := sl_len hH hv e7 (.inr (.inr ⟨_, _, _, rfl⟩))
          refine val_ok (key ?_) rfl
          rw [hA]
          simp [Builtin.len_, run_und hT e4, e6, Result.andThen, goInt]
        · cases h
      · rename_i ti e4 e5
        have hv := ev_ok hF hπ e5
        split at h
        · rename_i el e6
          cases h
          refine val_ok (key ?_) rfl
          simp only [den, Value.oneCell', if_true, Option.some.injEq] at hv
          rw [← hv]
          simp [Builtin.len_, run_und hT e4, e6, Result.andThen, goInt]
        · cases h
      · rename_i ti id off m tot e4 e5
        have hv := ev_ok hF hπ e5
        split at h
        · rename_i el e6
          cases h
          refine val_ok (key ?_) rfl
          obtain ⟨A, cc, hA⟩ := den_ss hv
          rw [hA]
          simp [Builtin.len_, run_und hT e4, e6, Result.andThen, goInt]
        · cases h
      · cases h
    · rename_i x y e1 e2
      have hargs : c.args.map a.eval = #[a.eval x, a.eval y] := by
        apply Array.ext'; simp [e2]
      obtain ⟨cs, hres⟩ : ∃ cs : Array Bool, ∀ w, (resolve a.eval c o.type).run P w = .ok { target := .builtin .max c.argTypes o.type cs, args := #[a.eval x, a.eval y] } w :=
        ⟨_, fun w => by simp only [resolve, e1, hargs]; rfl⟩
      split at h
      · rename_i k p k' q e4 e5
        cases h
        have h1 := ev_ok hF hπ e4
        have h2 := ev_ok hF hπ e5
        simp only [den, Option.some.injEq] at h1 h2
        refine val_ok ?_ rfl
        rw [Sem.run_bind, hres]
        simp only [Result.andThen, invoke, builtin]
        refine run_v ?_
        rw [← h1, ← h2, ← intKind_max]
        rfl
      · cases h
    · rename_i x y e1 e2
      have hargs : c.args.map a.eval = #[a.eval x, a.eval y] := by
        apply Array.ext'; simp [e2]
      obtain ⟨cs, hres⟩ : ∃ cs : Array Bool, ∀ w, (resolve a.eval c o.type).run P w = .ok { target := .builtin .min c.argTypes o.type cs, args := #[a.eval x, a.eval y] } w :=
        ⟨_, fun w => by simp only [resolve, e1, hargs]; rfl⟩
      split at h
      · rename_i k p k' q e4 e5
        cases h
        have h1 := ev_ok hF hπ e4
        have h2 := ev_ok hF hπ e5
        simp only [den, Option.some.injEq] at h1 h2
        refine val_ok ?_ rfl
        rw [Sem.run_bind, hres]
        simp only [Result.andThen, invoke, builtin]
        refine run_v ?_
        rw [← h1, ← h2, ← intKind_min]
        rfl
      · cases h
    · rename_i x y z u e1 e2
      have hargs : c.args.map a.eval = #[a.eval x, a.eval y, a.eval z, a.eval u] := by
        apply Array.ext'; simp [e2]
      obtain ⟨cs, hres⟩ : ∃ cs : Array Bool, ∀ w, (resolve a.eval c o.type).run P w = .ok { target := .builtin .min c.argTypes o.type cs, args := #[a.eval x, a.eval y, a.eval z, a.eval u] } w :=
        ⟨_, fun w => by simp only [resolve, e1, hargs]; rfl⟩
      split at h
      · rename_i k p _ q _ p' _ q' e4 e5 e6 e7
        cases h
        have h1 := ev_ok hF hπ e4
        have h2 := ev_ok hF hπ e5
        have h3 := ev_ok hF hπ e6
        have h4 := ev_ok hF hπ e7
        simp only [den, Option.some.injEq] at h1 h2 h3 h4
        refine val_ok ?_ rfl
        rw [Sem.run_bind, hres]
        simp only [Result.andThen, invoke, builtin]
        refine run_v ?_
        have m2 : ∀ a b : Int, min a b = if b < a then b else a := fun a b => by split <;> omega
        rw [← h1, ← h2, ← h3, ← h4, m2 (min (min p q) p') q', m2 (min p q) p', m2 p q]
        rfl
      · cases h
    · cases h
  all_goals (simp only [core] at h; cases h)

end
end Go.X
end

section
set_option linter.unusedVariables false
set_option linter.unusedSimpArgs false
set_option linter.unusedSectionVars false
/- The executor on code: regions in the text's order, calls by contracts, branches, blocks. -/
set_option linter.unusedVariables false
set_option linter.unusedSimpArgs false
namespace Go.X
open Go

/-- What a contract says of a call. -/
structure COut where
  pre : Option Prop
  pan : Option (Bool × List PanicEntry)
  v : SV
  news : List (Nat × HB)

abbrev Ct := Nat → List SV → (Nat → Option HB) → Option COut

def newsL : List (Nat × HB) → LH → LH
  | [], H => H
  | (id, hb) :: r, H => updL (newsL r H) id hb
theorem newsL_append (l : List (Nat × HB)) (H : List (Nat × HB)) : findH (l ++ H) = newsL l (findH H) := by
  induction l with
  | nil => rfl
  | cons x r ih => obtain ⟨id, hb⟩ := x; rw [newsL, ← ih]; rfl

structure CallEnd (ρ : Env) (H : LH) (fr : Nat) (w : World) (out : COut) (v : Value) (w' : World) (ρ' : Env) : Prop where
  str : Str w w'
  ext : Ext ρ ρ'
  fresh : ∀ j, ρ' j ≠ ρ j → fr ≤ j ∧ j < fr + 4 ∧ ∃ hb, (j, hb) ∈ out.news
  den : den ρ' out.v = some v
  hm : HM ρ' (newsL out.news H) w'
  own : ∀ b, Own ρ' (newsL out.news H) b → Own ρ H b ∨ w.heap.size ≤ b
  size : w.heap.size ≤ w'.heap.size
  same : ∀ b, b < w.heap.size → w'.heap[b]? = w.heap[b]?
  fz : ∀ b, Fz (newsL out.news H) b → Fz H b

def CPost (ρ : Env) (H : LH) (fr : Nat) (w : World) (out : COut) : Ending → World → Prop := fun e w' =>
  match out.pan with
  | none => ∃ ρ' v, e = .returned v ∧ CallEnd ρ H fr w out v w' ρ'
  | some (c, ch) => (c = true ∧ e = .panicked ch ∧ w.heap.size ≤ w'.heap.size ∧ (∀ b, b < w.heap.size → w'.heap[b]? = w.heap[b]?) ∧ Str w w') ∨
      (c = false ∧ ∃ ρ' v, e = .returned v ∧ CallEnd ρ H fr w out v w' ρ')

def COk (P : Program) (f : Nat) (ct : Ct) : Prop :=
  ∀ ρ H w fr args vals out, HM ρ H w → (∀ j, fr ≤ j → j < fr + 4 → ρ j = none) → denL ρ args = some vals → ct fr args H = some out → PreH out.pre →
    Calls P f vals.toArray w (CPost ρ H fr w out)

structure Cx where
  P : Program
  T : Tab
  C : Nat → Option Ct
  G : Base
  r : Option Nat
  nt : Nat

/-- A contract that looks at more pieces says the same. -/
def CtMono (ct : Ct) : Prop := ∀ fr args H H' out, (∀ id hb, H id = some hb → H' id = some hb) → ct fr args H = some out → ct fr args H' = some out

structure Cx.Ok (X : Cx) : Prop where
  tab : TabOk X.P X.T
  mono : ∀ f ct, X.C f = some ct → CtMono ct
  calls : ∀ f ct, X.C f = some ct → COk X.P f ct
  bodies : ∀ f ct, X.C f = some ct → ∀ args w, (callFunc f args).run X.P w = .ok (.enter f args) w

/-- A deferred call: of a function, with arguments. -/
abbrev SDef := Nat × List SV
/-- A deferred call; 1000000: the mark of a range over a function, or a closure by its number and what it holds. -/
def mkDef (f : Nat) (vals : List Value) : Deferred :=
  match Nat.beq f 1000000 with
  | true => (match vals with
      | [.int _ m, v] => { target := .fn (.func m.toNat) #[v], args := #[] }
      | [.pointer (some a)] => { target := .collected a.block, args := #[] }
      | _ => { target := .collected 0, args := #[] })
  | false => { target := .fn (.func f) #[], args := vals.toArray }
def DefOk (ρ : Env) : List Deferred → List SDef → Prop
  | [], [] => True
  | d :: ds, (f, args) :: r => (∃ vals, denL ρ args = some vals ∧ d = mkDef f vals) ∧ DefOk ρ ds r
  | _, _ => False
theorem DefOk.ext {ρ ρ' : Env} (h : Ext ρ ρ') : ∀ {ds : List Deferred} {D : List SDef}, DefOk ρ ds D → DefOk ρ' ds D
  | [], [], _ => trivial
  | d :: ds, (f, args) :: r, ⟨⟨vals, h1, h2⟩, h3⟩ => ⟨⟨vals, denL_ext h _ _ h1, h2⟩, DefOk.ext h h3⟩
theorem DefOk_nil {ρ : Env} {ds : List Deferred} (h : DefOk ρ ds []) : ds = [] := by cases ds <;> first | rfl | exact h.elim

structure St where
  F : List (Nat × FE)
  gs : List Nat
  H : List (Nat × HB)
  nx : Nat
  D : List SDef

structure Mod (X : Cx) (ρ : Env) (st : St) (a : Act) (w : World) : Prop where
  fm : FM ρ (findF st.F) a
  gs : ∀ t e, findF st.F t = some e → ∀ x ∈ e.gp, x.1 ∈ st.gs
  df : DefOk ρ a.defers st.D
  hm : HM ρ (findH st.H) w
  kp : Keep X.G ρ (findH st.H) w
  nx : ∀ j, st.nx ≤ j → ρ j = none
  sz : a.tmps.size = X.nt

inductive Ex where
  | normal
  | ret
  | exit (n : Nat)
  | panic (ch : List PanicEntry)

def Ex.to : Ex → Exit
  | .normal => .normal
  | .ret => .ret
  | .exit n => .exit n
  | .panic ch => .panic ch

def FW (r : Option Nat) : Fence := { Fence.wide with round := r }

def Qof (X : Cx) (K : Ex → St → Prop) : Exit → Act → World → Prop := fun e a w => ∃ x st ρ, e = x.to ∧ Mod X ρ st a w ∧ K x st

/-- What is left to the reader: the code's own weakest precondition from every frame and world that the state describes. -/
def SemC (X : Cx) (c : Code) (st : St) (K : Ex → St → Prop) : Prop :=
  ∀ ρ a w, Mod X ρ st a w → c.wpIn (FW X.r) 0 X.P (Qof X K) a w

structure Chk (p k : Prop) : Prop where
  h : p
  k : k
structure Br (p : Bool) (a b : Prop) : Prop where
  t : p = true → a
  f : p = false → b

def natGo (n : Nat) (K : Nat → Prop) : List Nat → Prop
  | [] => K n
  | x :: r => match Nat.beq n x with
    | true => K x
    | false => natGo n K r
def natF (n : Nat) (K : Nat → Prop) : Prop :=
  natGo n K [0, 1, 2, 3, 4, 5, 6, 7, 8, 9, 10, 11, 12, 13, 14, 15, 16, 17, 18, 19, 20, 21, 22, 23, 24, 25, 26, 27, 28, 29, 30, 31, 32, 33, 34, 35, 36, 37, 38, 39, 40, 41, 42, 43, 44, 45, 46, 47, 48, 49, 50, 51, 52, 53, 54, 55, 56, 57, 58, 59, 60, 61, 62, 63]
theorem natGo_eq (n : Nat) (K : Nat → Prop) (l : List Nat) : natGo n K l = K n := by
  induction l with
  | nil => rfl
  | cons x r ih =>
    simp only [natGo]
    split
    · rename_i h
      have : n = x := by simpa using h
      rw [this]
    · exact ih
theorem natF_eq (n : Nat) (K : Nat → Prop) : natF n K = K n := natGo_eq n K _

mutual
def fSV : SV → (SV → Prop) → Prop
  | .agg l, K => fSVL l fun l' => K (.agg l')
  | .tup l, K => fSVL l fun l' => K (.tup l')
  | .fn f a b, K => fSVL a fun a' => fSVL b fun b' => K (.fn f a' b')
  | .ifc t x, K => fSV x fun x' => K (.ifc t x')
  | .sv x, K => K (.sv x)
  | .si k n, K => K (.si k n)
  | .sb p, K => K (.sb p)
  | .sp i o, K => natF i fun i' => natF o fun o' => K (.sp i' o')
  | .se i n o, K => natF i fun i' => natF o fun o' => K (.se i' n o')
  | .sl i, K => natF i fun i' => K (.sl i')
  | .sm i, K => natF i fun i' => K (.sm i')
  | .fy i, K => natF i fun i' => K (.fy i')
  | .ss i o l t, K => natF i fun i' => K (.ss i' o l t)
def fSVL : List SV → (List SV → Prop) → Prop
  | [], K => K []
  | x :: r, K => fSV x fun x' => fSVL r fun r' => K (x' :: r')
end
mutual
theorem fSV_eq : ∀ (s : SV) (K : SV → Prop), fSV s K = K s
  | .agg l, K => by rw [fSV, fSVL_eq]
  | .tup l, K => by rw [fSV, fSVL_eq]
  | .fn f a b, K => by rw [fSV, fSVL_eq, fSVL_eq]
  | .ifc t x, K => by rw [fSV, fSV_eq]
  | .sv x, K => by rw [fSV]
  | .si k n, K => by rw [fSV]
  | .sb p, K => by rw [fSV]
  | .sp i o, K => by rw [fSV, natF_eq, natF_eq]
  | .se i n o, K => by rw [fSV, natF_eq, natF_eq]
  | .sl i, K => by rw [fSV, natF_eq]
  | .sm i, K => by rw [fSV, natF_eq]
  | .fy i, K => by rw [fSV, natF_eq]
  | .ss i o l t, K => by rw [fSV, natF_eq]
theorem fSVL_eq : ∀ (s : List SV) (K : List SV → Prop), fSVL s K = K s
  | [], K => by rw [fSVL]
  | x :: r, K => by rw [fSVL, fSV_eq, fSVL_eq]
end

def fHB : HB → (HB → Prop) → Prop
  | .cells T cs, K => fSVL cs fun cs' => K (.cells T cs')
  | .row T s n xs, K => fSVL xs fun xs' => K (.row T s n xs')
  | .dead, K => K .dead
  | .ro s n g, K => K (.ro s n g)
  | .map es c, K => K (.map es c)
  | .vec T s n g, K => K (.vec T s n g)
  | .mp es, K => K (.mp es)
  | .it a b c d, K => K (.it a b c d)
  | .loop F a b c d e f g h, K => K (.loop F a b c d e f g h)
  | .dfr, K => K .dfr
  | .fam s C, K => K (.fam s C)

theorem fHB_eq (h : HB) (K : HB → Prop) : fHB h K = K h := by cases h <;> simp [fHB, fSVL_eq]

def memN : List Nat → Nat → Bool
  | [], _ => false
  | x :: r, t => if Nat.beq x t then true else memN r t
theorem memN_iff {l : List Nat} {t : Nat} : memN l t = true ↔ t ∈ l := by
  induction l with
  | nil => simp [memN]
  | cons x r ih =>
    simp only [memN, List.mem_cons]
    by_cases h : Nat.beq x t
    · have : x = t := by simpa using h
      simp [h, this]
    · have : ¬ x = t := by simpa using h
      simp [h, ih, Ne.symm this]

def ChkO : Option Prop → Prop → Prop
  | none, k => k
  | some p, k => Chk p k
theorem ChkO_pre {p : Option Prop} {k : Prop} (h : ChkO p k) : PreH p := by
  cases p with
  | none => trivial
  | some p => exact h.h
theorem ChkO_k {p : Option Prop} {k : Prop} (h : ChkO p k) : k := by
  cases p with
  | none => exact h
  | some p => exact h.k

/-- The conditions under which a guarded operation runs. -/
def underGP (F : LF) : GP → Prop → Prop
  | [], p => p
  | (s, want) :: r, p => match F s with
    | some ⟨_, .sb q⟩ => (q = want → underGP F r p)
    | _ => underGP F r p

def stF (st : St) (d : Nat) (e : FE) (K : St → Prop) : Prop := match st with | ⟨F, gs, H, nx, D⟩ => K ⟨(d, e) :: F, gs, H, nx, D⟩
theorem stF_eq (st : St) (d : Nat) (e : FE) (K : St → Prop) : stF st d e K = K { st with F := (d, e) :: st.F } := by cases st; rfl
def stG (st : St) (d : Nat) (e : FE) (gs' : List Nat) (K : St → Prop) : Prop := match st with | ⟨F, _, H, nx, D⟩ => K ⟨(d, e) :: F, gs', H, nx, D⟩
theorem stG_eq (st : St) (d : Nat) (e : FE) (gs' : List Nat) (K : St → Prop) : stG st d e gs' K = K { st with F := (d, e) :: st.F, gs := gs' } := by cases st; rfl
def stH (st : St) (l : List (Nat × HB)) (nx' : Nat) (K : St → Prop) : Prop := match st with | ⟨F, gs, _, _, D⟩ => K ⟨F, gs, l, nx', D⟩
theorem stH_eq (st : St) (l : List (Nat × HB)) (nx' : Nat) (K : St → Prop) : stH st l nx' K = K { st with H := l, nx := nx' } := by cases st; rfl

def fGP : GP → (GP → Prop) → Prop
  | [], K => K []
  | (s, p) :: r, K => fGP r fun r' => K ((s, p) :: r')
theorem fGP_eq (π : GP) (K : GP → Prop) : fGP π K = K π := by
  induction π generalizing K with
  | nil => rfl
  | cons x r ih => obtain ⟨s, p⟩ := x; simp [fGP, ih]
def fNs : List Nat → (List Nat → Prop) → Prop
  | [], K => K []
  | x :: r, K => fNs r fun r' => K (x :: r')
theorem fNs_eq (l : List Nat) (K : List Nat → Prop) : fNs l K = K l := by
  induction l generalizing K with
  | nil => rfl
  | cons x r ih => simp [fNs, ih]
def applyEff (e : Eff) (st : St) (v : SV) (d : Option Nat) (K : St → Prop) : Prop :=
  match e with
  | .no => fSV v fun v' => (match d with
    | some d => stF st d ⟨[], v'⟩ K
    | none => K st)
  | .new hb => fHB hb fun hb' => natF (st.nx + 1) fun nx' => fSV v fun v' => stH st ((st.nx, hb') :: st.H) nx' fun st => (match d with
    | some d => stF st d ⟨[], v'⟩ K
    | none => K st)
  | .st id off cs => (match findH st.H id with
    | some (.cells T old) => fSVL (setL old off cs) fun new => (match d with
      | some _ => False
      | none => stH st ((id, .cells T new) :: st.H) st.nx K)
    | _ => False)

/-- A call of a known function: its contract's word. -/
def callC (X : Cx) (F : LF) (π : GP) (H : LH) (fr : Nat) (c : Call) : Option COut :=
  match c.callee with
  | .value f => (match ev F π f, argsOf F π c.args.toList with
    | some (.fn (.func n) first caps), some l => (match X.C n with
      | some ct => ct fr (first ++ (l ++ caps)) H
      | none => none)
    | _, _ => none)
  | _ => none

def isCall : Op → Option Call
  | .call c => some c
  | _ => none

def guardOf (ops : List Oper) (F : LF) (g : Option (Nat × Bool)) : Option GP :=
  match g with
  | none => some []
  | some (j, want) => (match nth ops j with
    | some o => (match o.dst with
      | some d => (match F d with
        | some e => some ((d, want) :: e.gp)
        | none => none)
      | none => none)
    | none => none)

def gpSlots : GP → List Nat → List Nat
  | [], l => l
  | (s, _) :: r, l => if memN l s then gpSlots r l else gpSlots r (s :: l)

def isNoneFE : Option FE → Bool
  | none => true
  | some _ => false

/-- May the slot not be written? -/
def putN (gs : List Nat) (nt : Nat) (d : Option Nat) : Bool :=
  match d with
  | some d => (match Nat.ble nt d with
    | true => true
    | false => memN gs d)
  | none => false

def underO (F : LF) (π : GP) : Option Prop → Option Prop
  | none => none
  | some p => some (underGP F π p)

def nilGP : GP → Bool
  | [] => true
  | _ :: _ => false

def fApp : List (Nat × HB) → List (Nat × HB) → (List (Nat × HB) → Prop) → Prop
  | [], m, K => K m
  | x :: r, m, K => fApp r m fun l => K (x :: l)
theorem fApp_eq (l m : List (Nat × HB)) (K : List (Nat × HB) → Prop) : fApp l m K = K (l ++ m) := by
  induction l generalizing K with
  | nil => rfl
  | cons x r ih => simp [fApp, ih]

def applyNews (v : SV) (news : List (Nat × HB)) (st : St) (d : Option Nat) (K : St → Prop) : Prop :=
  match news with
  | [] => fSV v fun v' => (match d with
    | some d => stF st d ⟨[], v'⟩ K
    | none => K st)
  | n :: r => natF (st.nx + 4) fun nx' => fSV v fun v' => fApp (n :: r) st.H fun l => stH st l nx' fun st => (match d with
    | some d => stF st d ⟨[], v'⟩ K
    | none => K st)

def panX (pan : Option (Bool × List PanicEntry)) (st : St) (Kp : List PanicEntry → St → Prop) (k : Prop) : Prop :=
  match pan with
  | none => k
  | some (c, ch) => Br c (Kp ch st) k

/-- One operation; Fb: what is asked where the executor has no arm. -/
def opX (X : Cx) (ops : List Oper) (o : Oper) (st : St) (Fb : Prop) (K : St → Prop) (Kp : List PanicEntry → St → Prop) : Prop :=
  match guardOf ops (findF st.F) o.guard, putN st.gs X.nt o.dst with
  | some π, false => (match nilGP π with
    | true => (match core X.T (findF st.F) [] (findH st.H) st.nx o.op with
      | some ⟨pre, v, eff⟩ => ChkO pre (applyEff eff st v o.dst K)
      | none => (match isCall o.op with
        | some c => (match callC X (findF st.F) [] (findH st.H) st.nx c with
          | some ⟨pre, pan, v, news⟩ => ChkO pre (panX pan st Kp (applyNews v news st o.dst K))
          | none => Fb)
        | none => Fb))
    | false => (match o.dst with
      | some d => (match isNoneFE (findF st.F d), core X.T (findF st.F) π (findH st.H) st.nx o.op with
        | true, some ⟨pre, v, .no⟩ => ChkO (underO (findF st.F) π pre) (fSV v fun v' => fGP π fun π' => fNs (gpSlots π st.gs) fun gs' => stG st d ⟨π', v'⟩ gs' K)
        | true, none => (match isCall o.op with
          | some c => (match callC X (findF st.F) π (findH st.H) st.nx c with
            | some ⟨pre, none, v, []⟩ => ChkO (underO (findF st.F) π pre) (fSV v fun v' => fGP π fun π' => fNs (gpSlots π st.gs) fun gs' => stG st d ⟨π', v'⟩ gs' K)
            | _ => Fb)
          | none => Fb)
        | _, _ => Fb)
      | none => Fb))
  | _, _ => Fb

/-- What is asked where the executor has no arm (K, Kp: what it would have gone on with). -/
structure FbO (X : Cx) (ops : List Oper) (Q : Exit → Act → World → Prop) (K : St → Prop) (Kp : List PanicEntry → St → Prop) (i : Nat) (o : Oper) (r : List Oper) (st : St) : Prop where
  h : ∀ ρ a w, Mod X ρ st a w → wpOpsIn (FW X.r) 0 X.P ops.toArray Q (List.range' i (r.length + 1)) a w

/-- The operations from a place on, one after the other. -/
def execL (X : Cx) (ops : List Oper) (Q : Exit → Act → World → Prop) (K : St → Prop) (Kp : List PanicEntry → St → Prop) : Nat → List Oper → St → Prop
  | _, [], st => K st
  | i, o :: r, st => opX X ops o st (FbO X ops Q K Kp i o r st)
      (execL X ops Q K Kp (i + 1) r) Kp

def endRegion (st : St) (K : St → Prop) : Prop :=
  match st.gs with
  | [] => K st
  | _ :: _ => K st

def exec (X : Cx) (c : Code) (st : St) (K : Ex → St → Prop) : Prop :=
  match c with
  | .skip => K .normal st
  | .region id ops false => execL X ops.toList (Qof X K) (fun st => endRegion st (K .normal)) (fun ch st => K (.panic ch) st) 0 ops.toList st
  | .region id ops true => SemC X (.region id ops true) st K
  | .seq x y => exec X x st fun e st => match e with
    | .normal => exec X y st K
    | e => K e st
  | .cond c x y => (match ev (findF st.F) [] c with
    | some (.sb p) => Br p (exec X x st K) (exec X y st K)
    | _ => SemC X (.cond c x y) st K)
  | .block n x => exec X x st fun e st => match e with
    | .exit m => (match Nat.beq m n with
      | true => K .normal st
      | false => K (.exit m) st)
    | e => K e st
  | .ret => K .ret st
  | .exit n => K (.exit n) st
  | .label _ => K .normal st
  | .scope c => exec X c st K
  | c => SemC X c st K

end Go.X
end

section
set_option linter.unusedVariables false
set_option linter.unusedSimpArgs false
set_option linter.unusedSectionVars false
/- What the executor asks is enough. -/
set_option linter.unusedVariables false
set_option linter.unusedSimpArgs false
namespace Go.X
open Go

theorem GPsat_put {a : Act} {gp : GP} {d : Nat} {v : Value} (h : ∀ x ∈ gp, x.1 ≠ d) : GPsat (a.put (some d) v) gp ↔ GPsat a gp := by
  have key : ∀ x ∈ gp, (a.put (some d) v).tmps[x.1]? = a.tmps[x.1]? := fun x hx => by
    simp [Act.put, Array.getElem?_setIfInBounds, Ne.symm (h x hx)]
  constructor
  · intro hs x hx; rw [← key x hx]; exact hs x hx
  · intro hs x hx; rw [key x hx]; exact hs x hx

theorem FM.ext {ρ ρ' : Env} {F : LF} {a : Act} (h : FM ρ F a) (k : Ext ρ ρ') : FM ρ' F a :=
  fun t e hf => ⟨fun hs => let ⟨v, h1, h2⟩ := (h t e hf).1 hs; ⟨v, h1, den_ext k _ _ h2⟩, (h t e hf).2⟩

theorem FM.put {ρ : Env} {F : List (Nat × FE)} {a : Act} (h : FM ρ (findF F) a) {d : Nat} (hd : d < a.tmps.size) {s : SV} {v : Value} {gp : GP}
    (hg : ∀ t e, findF F t = some e → ∀ x ∈ e.gp, x.1 ≠ d) (hgp : ∀ x ∈ gp, x.1 ≠ d) (hv : GPsat a gp → den ρ s = some v) (hn : ¬ GPsat a gp → v = undef) :
    FM ρ (findF ((d, ⟨gp, s⟩) :: F)) (a.put (some d) v) := by
  intro t e hf
  by_cases htd : d = t
  · subst htd
    rw [findF_cons_self] at hf; cases hf
    have hat : (a.put (some d) v).tmps[d]? = some v := by simp [Act.put, Array.getElem?_setIfInBounds, hd]
    rw [GPsat_put hgp]
    exact ⟨fun hs => ⟨v, hat, hv hs⟩, fun hs => by rw [hat, hn hs]⟩
  · rw [findF_cons_ne _ _ htd] at hf
    have hat : (a.put (some d) v).tmps[t]? = a.tmps[t]? := by simp [Act.put, Array.getElem?_setIfInBounds, htd]
    rw [GPsat_put (hg t e hf), hat]
    exact h t e hf

def putF (F : List (Nat × FE)) (d : Option Nat) (s : SV) : List (Nat × FE) :=
  match d with
  | some d => (d, ⟨[], s⟩) :: F
  | none => F

theorem size_put (a : Act) (d : Option Nat) (v : Value) : (a.put d v).tmps.size = a.tmps.size := by cases d <;> simp [Act.put]
theorem defers_put (a : Act) (d : Option Nat) (v : Value) : (a.put d v).defers = a.defers := by cases d <;> rfl

theorem putN_ok {gs : List Nat} {nt d : Nat} (h : putN gs nt (some d) = false) : d < nt ∧ d ∉ gs := by
  simp only [putN] at h
  split at h
  · cases h
  · rename_i hb
    have h1 : ¬ nt ≤ d := fun hle => by rw [Nat.ble_eq_true_of_le hle] at hb; cases hb
    refine ⟨by omega, fun hm => ?_⟩
    rw [memN_iff.2 hm] at h; cases h

section
variable {X : Cx} {ρ : Env} {st : St} {a : Act} {w : World}

/-- An unguarded slot is written. -/
theorem Mod.put (hm : Mod X ρ st a w) {d : Option Nat} {s : SV} {v : Value} (hp : putN st.gs X.nt d = false) (hv : den ρ s = some v) :
    Mod X ρ { st with F := putF st.F d s } (a.put d v) w := by
  cases d with
  | none => exact hm
  | some d =>
    obtain ⟨h1, h2⟩ := putN_ok hp
    exact {
      fm := hm.fm.put (by rw [hm.sz]; exact h1) (fun t e hf x hx e1 => h2 (e1 ▸ hm.gs t e hf x hx)) (fun x hx => by cases hx) (fun _ => hv) (fun hn => absurd (fun x hx => by cases hx) hn)
      gs := fun t e hf x hx => by
        have hf : findF ((d, ⟨[], s⟩) :: st.F) t = some e := hf
        by_cases htd : d = t
        · subst htd; rw [findF_cons_self] at hf; cases hf; cases hx
        · rw [findF_cons_ne _ _ htd] at hf; exact hm.gs t e hf x hx
      df := by rw [defers_put]; exact hm.df
      hm := hm.hm
      kp := hm.kp
      nx := hm.nx
      sz := by rw [size_put]; exact hm.sz }

theorem gpSlots_mem {π : GP} {l : List Nat} : (∀ x ∈ l, x ∈ gpSlots π l) ∧ ∀ x ∈ π, x.1 ∈ gpSlots π l := by
  induction π generalizing l with
  | nil => exact ⟨fun x hx => hx, fun x hx => by cases hx⟩
  | cons y r ih =>
    obtain ⟨s, p⟩ := y
    simp only [gpSlots]
    split
    · rename_i hmem
      have hmem' := memN_iff.1 hmem
      refine ⟨ih.1, fun x hx => ?_⟩
      rcases List.mem_cons.1 hx with rfl | hx
      · exact ih.1 _ hmem'
      · exact ih.2 x hx
    · refine ⟨fun x hx => ih.1 x (List.mem_cons_of_mem _ hx), fun x hx => ?_⟩
      rcases List.mem_cons.1 hx with rfl | hx
      · exact ih.1 _ List.mem_cons_self
      · exact ih.2 x hx

/-- A guarded slot is written. -/
theorem Mod.putG (hm : Mod X ρ st a w) {d : Nat} {s : SV} {v : Value} {π : GP} (hp : putN st.gs X.nt (some d) = false) (hπ : ∀ x ∈ π, x.1 ≠ d)
    (hv : GPsat a π → den ρ s = some v) (hn : ¬ GPsat a π → v = undef) :
    Mod X ρ { st with F := (d, ⟨π, s⟩) :: st.F, gs := gpSlots π st.gs } (a.put (some d) v) w := by
  obtain ⟨h1, h2⟩ := putN_ok hp
  exact {
    fm := hm.fm.put (by rw [hm.sz]; exact h1) (fun t e hf x hx e1 => h2 (e1 ▸ hm.gs t e hf x hx)) hπ hv hn
    gs := fun t e hf x hx => by
      by_cases htd : d = t
      · subst htd; rw [findF_cons_self] at hf; cases hf; exact gpSlots_mem.2 x hx
      · rw [findF_cons_ne _ _ htd] at hf; exact gpSlots_mem.1 _ (hm.gs t e hf x hx)
    df := by rw [defers_put]; exact hm.df
    hm := hm.hm
    kp := hm.kp
    nx := hm.nx
    sz := by rw [size_put]; exact hm.sz }

/-- A piece is laid, and its slot written. -/
theorem Mod.new (hm : Mod X ρ st a w) {d : Option Nat} {s : SV} {v : Value} {hb : HB} {nm : Nm} {o : Obj} (hp : putN st.gs X.nt d = false)
    (hv : den (upd ρ st.nx nm) s = some v) (hok : HBok (upd ρ st.nx nm) (w.alloc o) hb nm) (hown : ∀ b, nm.owner = some b → b = w.heap.size) (hro : ∀ b, roBlock nm = some b → b = w.heap.size) (hfa : ∀ s C, hb ≠ .fam s C := by intro s C h; cases h) :
    Mod X (upd ρ st.nx nm) { st with F := putF st.F d s, H := (st.nx, hb) :: st.H, nx := st.nx + 1 } (a.put d v) (w.alloc o) := by
  have hf : ρ st.nx = none := hm.nx _ (Nat.le_refl _)
  have h0 : Mod X (upd ρ st.nx nm) { st with H := (st.nx, hb) :: st.H, nx := st.nx + 1 } a (w.alloc o) := {
    fm := hm.fm.ext (Ext.upd nm hf)
    gs := hm.gs
    df := hm.df.ext (Ext.upd nm hf)
    hm := hm.hm.push hf o hok hown hro hfa
    kp := hm.kp.push hf o hown hfa
    nx := fun j hj => by rw [upd_ne _ _ (by have : st.nx + 1 ≤ j := hj; omega)]; exact hm.nx j (by have : st.nx + 1 ≤ j := hj; omega)
    sz := hm.sz }
  exact h0.put hp hv

/-- A cell, or some, are stored into. -/
theorem Mod.stored (hm : Mod X ρ st a w) {id off : Nat} {cs : List SV} {TT : Nat} {old : List SV} {b : Nat} {w' : World} {us : List Value} (hf : findH st.H id = some (.cells TT old))
    (hn : ρ id = some (.blk b)) (hc : denL ρ cs = some us) (hu : us.all (·.oneCell') = true) (hfit : off + cs.length ≤ old.length) (hs : w'.heap.size = w.heap.size) (hk : ∀ k, k ≠ b → w'.heap[k]? = w.heap[k]?)
    (hb : ∀ vs, denL ρ old = some vs → w'.heap[b]? = some (.cells (vs.take off ++ us ++ vs.drop (off + us.length)).toArray TT (0, 0))) (hst : Str w w') :
    Mod X ρ { st with H := (id, .cells TT (setL old off cs)) :: st.H } a w' := by
  obtain ⟨nm, hn', hok⟩ := hm.hm.ok _ _ hf
  rw [hn] at hn'; cases hn'
  obtain ⟨vs, h1, h2, h3⟩ := hok
  have hok' : HBok ρ w' (.cells TT (setL old off cs)) (.blk b) := by
    refine ⟨_, denL_set h1 hc off hfit, ?_, hb vs h1⟩
    rw [List.all_eq_true] at h2 hu ⊢
    intro y hy
    simp only [List.mem_append] at hy
    rcases hy with (hy | hy) | hy
    · exact h2 y (List.mem_of_mem_take hy)
    · exact hu y hy
    · exact h2 y (List.mem_of_mem_drop hy)
  exact {
    fm := hm.fm
    gs := hm.gs
    df := hm.df
    hm := hm.hm.put hf rfl hn rfl (by omega) (fun k _ hkb => hk k hkb) hok' rfl (fun _ _ _ h => by cases h)
    kp := hm.kp.put hf rfl hn rfl (by omega) (fun k _ hkb => hk k hkb) hst
    nx := hm.nx
    sz := hm.sz }

theorem applyEff_ok (hm : Mod X ρ st a w) {d : Option Nat} {out : Out} {K : St → Prop} {res : Result Next} (hp : putN st.gs X.nt d = false)
    (h : applyEff out.eff st out.v d K) (ho : OutOk ρ (findH st.H) st.nx w res out) :
    (∃ v w', res = .ok (.value v) w' ∧ ∃ ρ' st', Mod X ρ' st' (a.put d v) w' ∧ K st') ∨ (∃ w', res = .ok .skip w' ∧ ∃ ρ' st', Mod X ρ' st' (a.put d undef) w' ∧ K st') := by
  obtain ⟨pre, s, eff⟩ := out
  cases eff with
  | no =>
    obtain ⟨v, h1, h2⟩ := ho
    simp only [applyEff, fSV_eq, stF_eq] at h
    refine .inl ⟨v, w, h1, ρ, _, hm.put hp h2, ?_⟩
    cases d <;> exact h
  | new hb =>
    obtain ⟨v, nm, o, h1, h2, h3, h4, h5, h6⟩ := ho
    simp only [applyEff, fSV_eq, fHB_eq, natF_eq, stF_eq, stH_eq] at h
    refine .inl ⟨v, _, h1, _, _, hm.new hp h2 h3 h4 h5 h6, ?_⟩
    cases d <;> exact h
  | st id off cs =>
    obtain ⟨TT, old, b, w', us, h1, h2, h3, h4, h5, h6, h7, h8, h9, h10⟩ := ho
    simp only [applyEff, h1, fSVL_eq, stH_eq] at h
    cases d with
    | some d => exact h.elim
    | none => exact .inr ⟨w', h6, ρ, _, hm.stored h1 h2 h3 h4 h5 h7 h8 h9 h10, h⟩

theorem core_notDefer {T : Tab} {F : LF} {π : GP} {H : LH} {fr : Nat} {op : Op} {out : Out} (h : core T F π H fr op = some out) : ∀ c, op ≠ .defer c := by
  rintro c rfl
  cases h

theorem callC_ok (hX : X.Ok) {F : LF} {π : GP} {H : LH} {fr : Nat} (hF : FM ρ F a) (hπ : GPsat a π) (hH : HM ρ H w) (hfr : ∀ j, fr ≤ j → j < fr + 4 → ρ j = none) {c : Call} {ty : Nat} {out : COut}
    (h : callC X F π H fr c = some out) (hp : PreH out.pre) :
    ∃ n args, (do let d ← resolve a.eval c ty; invoke d.target d.args : Sem Next).run X.P w = .ok (.enter n args) w ∧ Calls X.P n args w (CPost ρ H fr w out) := by
  unfold callC at h
  split at h
  · rename_i f hc
    split at h
    · rename_i n first caps l e1 e2
      split at h
      · rename_i ct e3
        have hf := ev_ok hF hπ e1
        have hl := argsOf_ok hF hπ e2
        simp only [den] at hf
        cases d1 : denL ρ first with
        | none => simp [d1] at hf
        | some x =>
          cases d2 : denL ρ caps with
          | none => simp [d1, d2] at hf
          | some y =>
            simp only [d1, d2, Option.some.injEq] at hf
            have hd := denL_append d1 (denL_append hl d2)
            have hcall := hX.calls n ct e3 ρ H w fr _ _ out hH hfr hd h hp
            refine ⟨n, _, ?_, hcall⟩
            have hres : (resolve a.eval c ty).run X.P w = .ok { target := .fn (.func n) y.toArray, args := x.toArray ++ c.args.map a.eval } w := by
              simp only [resolve, hc, ← hf]
              rfl
            rw [Sem.run_bind, hres]
            simp only [Result.andThen, invoke]
            have he : (x.toArray ++ c.args.map a.eval ++ y.toArray) = (x ++ (c.args.toList.map a.eval ++ y)).toArray := by
              apply Array.ext'; simp
            rw [he]
            exact hX.bodies n ct e3 _ w
      · cases h
    · cases h
  · cases h

theorem CallEnd.mod (hm : Mod X ρ st a w) {out : COut} {v : Value} {w' : World} {ρ' : Env} (h : CallEnd ρ (findH st.H) st.nx w out v w' ρ') :
    Mod X ρ' { st with H := out.news ++ st.H, nx := st.nx + 4 } a w' where
  fm := hm.fm.ext h.ext
  gs := hm.gs
  df := hm.df.ext h.ext
  hm := by show HM ρ' (findH (out.news ++ st.H)) w'; rw [newsL_append]; exact h.hm
  kp := {
    str := hm.kp.str.trans h.str
    size := Nat.le_trans hm.kp.size h.size
    same := fun b hb hM => (h.same b (by have := hm.kp.size; omega)).trans (hm.kp.same b hb hM)
    own := fun b ho => by
      have ho : Own ρ' (findH (out.news ++ st.H)) b := ho
      rw [newsL_append] at ho
      rcases h.own b ho with h1 | h1
      · exact hm.kp.own b h1
      · have := hm.kp.size; exact .inr (by omega)
    ext := hm.kp.ext.trans h.ext
    fz := fun b hz => by
      have hz : Fz (findH (out.news ++ st.H)) b := hz
      rw [newsL_append] at hz
      exact hm.kp.fz b (h.fz b hz) }
  nx := fun j hj => by
    have hj' : st.nx + 4 ≤ j := hj
    have e : ρ' j = ρ j := by
      rcases Classical.em (ρ' j = ρ j) with e | e
      · exact e
      · have := h.fresh j e; omega
    rw [e]; exact hm.nx j (by omega)
  sz := hm.sz

theorem CallEnd.mod0 (hm : Mod X ρ st a w) {out : COut} {v : Value} {w' : World} {ρ' : Env} (h : CallEnd ρ (findH st.H) st.nx w out v w' ρ') (hn : out.news = []) : Mod X ρ st a w' ∧ Go.X.den ρ out.v = some v := by
  have e : ρ' = ρ := funext fun j => by
    rcases Classical.em (ρ' j = ρ j) with e | e
    · exact e
    · obtain ⟨_, _, hb, hm⟩ := h.fresh j e
      rw [hn] at hm; cases hm
  subst e
  have := h.mod hm
  rw [hn] at this
  exact ⟨{ fm := this.fm, gs := this.gs, df := this.df, hm := this.hm, kp := this.kp, nx := hm.nx, sz := this.sz }, h.den⟩

end
end Go.X
end

section
set_option linter.unusedVariables false
set_option linter.unusedSimpArgs false
set_option linter.unusedSectionVars false
/- The executor is sound: operations, regions, code. -/
set_option linter.unusedVariables false
set_option linter.unusedSimpArgs false
namespace Go.X
open Go

section
variable {X : Cx} {ρ : Env} {st : St} {a : Act} {w : World}

theorem FW_depth (r : Option Nat) : (FW r).depth = none := rfl
theorem FW_fn (r : Option Nat) (f : Nat) : (FW r).fn f := trivial
theorem FW_round (r : Option Nat) : (FW r).round = r := rfl

theorem calls_fw {r : Option Nat} {P : Program} {f : Nat} {args : Array Value} {w : World} {R : Ending → World → Prop} (h : Calls P f args w R) : CallsIn (FW r) (0 - 1) P f args w R :=
  (callsIn_wide (n := 0)).2 h

/-- An operation that gives a value. -/
theorem wpIn_value {r : Option Nat} {P : Program} {o : Oper} {next : Act → World → Prop} {Q : Exit → Act → World → Prop} {v : Value} {w' : World} (hd : ∀ c, o.op ≠ .defer c)
    (h : (execOp a.eval o).run P w = .ok (.value v) w') (hn : next (a.put o.dst v) w') : o.wpIn (FW r) 0 P a w next Q := by
  refine ⟨fun f _ => FW_fn r f, ?_⟩
  rw [Oper.semAt_eq _ _ _ hd, h]
  exact hn
theorem wpIn_skipv {r : Option Nat} {P : Program} {o : Oper} {next : Act → World → Prop} {Q : Exit → Act → World → Prop} {w' : World} (hd : ∀ c, o.op ≠ .defer c)
    (h : (execOp a.eval o).run P w = .ok .skip w') (hn : next (a.put o.dst undef) w') : o.wpIn (FW r) 0 P a w next Q := by
  refine ⟨fun f _ => FW_fn r f, ?_⟩
  rw [Oper.semAt_eq _ _ _ hd, h]
  exact hn
theorem wpIn_call {r : Option Nat} {P : Program} {o : Oper} {next : Act → World → Prop} {Q : Exit → Act → World → Prop} {n : Nat} {args : Array Value} {R : Ending → World → Prop} (hd : ∀ c, o.op ≠ .defer c)
    (h : (execOp a.eval o).run P w = .ok (.enter n args) w) (hc : Calls P n args w R)
    (hn : ∀ e w', R e w' → match e with
      | .returned v => next (a.put o.dst v) w'
      | .panicked ch => Q (.panic ch) a w'
      | .outgrown => False) : o.wpIn (FW r) 0 P a w next Q := by
  refine ⟨fun f _ => FW_fn r f, ?_⟩
  rw [Oper.semAt_eq _ _ _ hd, h]
  refine ⟨fun hd => (by rw [FW_depth] at hd; cases hd), calls_fw (hc.mono fun e w' hr => ?_)⟩
  have := hn e w' hr
  cases e with
  | returned v => exact this
  | panicked ch => exact this
  | outgrown => exact this.elim

theorem wpOps_cons {r : Option Nat} {P : Program} {ops : Array Oper} {Q : Exit → Act → World → Prop} {i : Nat} {rest : List Nat} {o : Oper} (ho : ops[i]? = some o)
    (h1 : Region.wanted o (yielded ops a.tmps) = true → o.wpIn (FW r) 0 P a w (wpOpsIn (FW r) 0 P ops Q rest) Q)
    (h2 : Region.wanted o (yielded ops a.tmps) = false → wpOpsIn (FW r) 0 P ops Q rest (a.put o.dst undef) w) : wpOpsIn (FW r) 0 P ops Q (i :: rest) a w := by
  simp only [wpOpsIn, ho]
  split
  · rename_i h; exact h1 h
  · rename_i h
    exact ⟨fun f _ => FW_fn r f, h2 (by simpa using h)⟩

theorem guard_none {o : Oper} (h : o.guard = none) (y : Nat → Option Bool) : Region.wanted o y = true := by simp [Region.wanted, h]

theorem guardOf_ok {F : LF} (hF : FM ρ F a) {ops : List Oper} {o : Oper} {π : GP} (h : guardOf ops F o.guard = some π) :
    (Region.wanted o (yielded ops.toArray a.tmps) = true ↔ GPsat a π) := by
  cases hg : o.guard with
  | none =>
    rw [hg] at h
    simp only [guardOf, Option.some.injEq] at h
    subst h
    exact Iff.intro (fun _ => fun x hx => by cases hx) (fun _ => guard_none hg _)
  | some p =>
    obtain ⟨j, want⟩ := p
    rw [hg] at h
    simp only [guardOf] at h
    split at h
    · rename_i oj e1
      split at h
      · rename_i d e2
        split at h
        · rename_i e e3
          cases h
          rw [nth_eq] at e1
          have hw : Region.wanted o (yielded ops.toArray a.tmps) = true ↔ a.tmps[d]? = some (.bool want) := by
            simp only [Region.wanted, hg, yielded, List.getElem?_toArray, e1, Option.bind_some, e2]
            cases hv : a.tmps[d]? with
            | none => simp
            | some v => cases v <;> simp
          rw [hw]
          constructor
          · intro hd x hx
            rcases List.mem_cons.1 hx with rfl | hx
            · exact hd
            · rcases Classical.em (GPsat a e.gp) with hs | hs
              · exact hs x hx
              · have := (hF d e e3).2 hs
                rw [hd] at this; cases this
          · intro hs; exact hs (d, want) List.mem_cons_self
        · cases h
      · cases h
    · cases h

theorem nilGP_eq {π : GP} (h : nilGP π = true) : π = [] := by cases π <;> first | rfl | cases h

theorem underGP_ok {F : LF} (hF : FM ρ F a) {π : GP} {p : Prop} (hs : GPsat a π) (h : underGP F π p) (hall : ∀ σ, (∃ τ, π = τ ++ σ) → GPsat a σ) : p := by
  induction π with
  | nil => exact h
  | cons x r ih =>
    obtain ⟨s, want⟩ := x
    have hs' : GPsat a r := fun y hy => hs y (List.mem_cons_of_mem _ hy)
    have hall' : ∀ σ, (∃ τ, r = τ ++ σ) → GPsat a σ := fun σ ⟨τ, e⟩ => hall σ ⟨(s, want) :: τ, by rw [e]; rfl⟩
    simp only [underGP] at h
    split at h
    · rename_i gp q e
      refine ih hs' (h ?_) hall'
      have hv := hs (s, want) List.mem_cons_self
      rcases Classical.em (GPsat a gp) with hg | hg
      · obtain ⟨v, h1, h2⟩ := (hF s _ e).1 hg
        rw [hv] at h1; cases h1
        simp only [den, Option.some.injEq, Value.bool.injEq] at h2
        exact h2
      · have := (hF s _ e).2 hg
        simp only at hv
        rw [hv] at this; cases this
    · exact ih hs' h hall'

theorem underO_ok {F : LF} (hF : FM ρ F a) {π : GP} {p : Option Prop} (hs : GPsat a π) (h : PreH (underO F π p)) : PreH p := by
  cases p with
  | none => trivial
  | some p => exact underGP_ok hF hs h (fun σ ⟨τ, e⟩ y hy => hs y (by rw [e]; exact List.mem_append_right _ hy))

theorem guard_ne {F : LF} {ops : List Oper} {g : Option (Nat × Bool)} {π : GP} (h : guardOf ops F g = some π) {gs : List Nat} (hgs : ∀ t e, F t = some e → ∀ x ∈ e.gp, x.1 ∈ gs)
    {d : Nat} (hd : F d = none) (hm : d ∉ gs) : ∀ x ∈ π, x.1 ≠ d := by
  cases g with
  | none => simp only [guardOf, Option.some.injEq] at h; subst h; intro x hx; cases hx
  | some p =>
    obtain ⟨j, want⟩ := p
    simp only [guardOf] at h
    split at h
    · split at h
      · rename_i d' e2
        split at h
        · rename_i e e3
          cases h
          intro x hx
          rcases List.mem_cons.1 hx with rfl | hx
          · rintro rfl; rw [e3] at hd; cases hd
          · rintro rfl; exact hm (hgs _ _ e3 x hx)
        · cases h
      · cases h
    · cases h

theorem panX_ok (hm : Mod X ρ st a w) {pan : Option (Bool × List PanicEntry)} {v : SV} {news : List (Nat × HB)} {pre : Option Prop} {Kp : List PanicEntry → St → Prop} {k : Prop} (h : panX pan st Kp k) {e : Ending} {w' : World}
    (hc : CPost ρ (findH st.H) st.nx w ⟨pre, pan, v, news⟩ e w') :
    (∃ ch, e = .panicked ch ∧ ∃ st', Mod X ρ st' a w' ∧ Kp ch st') ∨ (k ∧ ∃ ρ' u, e = .returned u ∧ CallEnd ρ (findH st.H) st.nx w ⟨pre, pan, v, news⟩ u w' ρ') := by
  cases pan with
  | none =>
    obtain ⟨ρ', u, h1, h2⟩ := hc
    exact .inr ⟨h, ρ', u, h1, h2⟩
  | some p =>
    obtain ⟨c, ch⟩ := p
    rcases hc with ⟨hct, he, hs, hk, hst⟩ | ⟨hcf, ρ', u, h1, h2⟩
    · refine .inl ⟨ch, he, _, ?_, h.t hct⟩
      exact {
        fm := hm.fm
        gs := hm.gs
        df := hm.df
        hm := hm.hm.world hs hk
        kp := hm.kp.world hs hk hst
        nx := hm.nx
        sz := hm.sz }
    · exact .inr ⟨h.f hcf, ρ', u, h1, h2⟩

theorem applyNews_ok (hm : Mod X ρ st a w) {d : Option Nat} {v : SV} {news : List (Nat × HB)} {K : St → Prop} (hp : putN st.gs X.nt d = false) (h : applyNews v news st d K) {pre : Option Prop} {pan : Option (Bool × List PanicEntry)}
    {u : Value} {w' : World} {ρ' : Env} (hc : CallEnd ρ (findH st.H) st.nx w ⟨pre, pan, v, news⟩ u w' ρ') : ∃ ρ' st', Mod X ρ' st' (a.put d u) w' ∧ K st' := by
  cases news with
  | nil =>
    obtain ⟨h1, h2⟩ := hc.mod0 hm rfl
    simp only [applyNews, fSV_eq, stF_eq] at h
    refine ⟨ρ, _, h1.put hp h2, ?_⟩
    cases d <;> exact h
  | cons n r =>
    have h1 := hc.mod hm
    simp only [applyNews, fSV_eq, natF_eq, fApp_eq, stH_eq, stF_eq] at h
    refine ⟨ρ', _, h1.put hp hc.den, ?_⟩
    cases d <;> exact h

theorem opX_ok (hX : X.Ok) (hm : Mod X ρ st a w) {ops : List Oper} {i : Nat} {rest : List Nat} {o : Oper} (ho : ops[i]? = some o) {Q : Exit → Act → World → Prop} {Fb : Prop} {K : St → Prop} {Kp : List PanicEntry → St → Prop}
    (h : opX X ops o st Fb K Kp) (hFb : Fb → wpOpsIn (FW X.r) 0 X.P ops.toArray Q (i :: rest) a w)
    (hK : ∀ ρ' st' a' w', Mod X ρ' st' a' w' → K st' → wpOpsIn (FW X.r) 0 X.P ops.toArray Q rest a' w')
    (hKp : ∀ ch ρ' st' a' w', Mod X ρ' st' a' w' → Kp ch st' → Q (.panic ch) a' w') : wpOpsIn (FW X.r) 0 X.P ops.toArray Q (i :: rest) a w := by
  have ho' : ops.toArray[i]? = some o := by simpa using ho
  unfold opX at h
  split at h
  · rename_i π hg hput
    have hwant := guardOf_ok hm.fm hg
    split at h
    · -- unguarded
      rename_i hnil
      have hnil' := nilGP_eq hnil
      subst hnil'
      have hsat : GPsat a [] := fun x hx => by cases hx
      have hw := hwant.2 hsat
      have hnw : ∀ {Z : Prop}, Region.wanted o (yielded ops.toArray a.tmps) = false → Z := fun hf => by rw [hw] at hf; cases hf
      split at h
      · rename_i pre v eff hc
        refine wpOps_cons ho' (fun _ => ?_) hnw
        have hok := core_ok hX.tab hm.fm hsat hm.hm (hm.nx _ (Nat.le_refl _)) hc (ChkO_pre h)
        rcases applyEff_ok hm hput (ChkO_k h) hok with ⟨u, w', h1, ρ', st', h2, h3⟩ | ⟨w', h1, ρ', st', h2, h3⟩
        · exact wpIn_value (core_notDefer hc) h1 (hK _ _ _ _ h2 h3)
        · exact wpIn_skipv (core_notDefer hc) h1 (hK _ _ _ _ h2 h3)
      · split at h
        · rename_i c hcall
          split at h
          · rename_i pre pan v news hcc
            refine wpOps_cons ho' (fun _ => ?_) hnw
            obtain ⟨n, args, h1, h2⟩ := callC_ok hX hm.fm hsat hm.hm (fun j hj _ => hm.nx j hj) (ty := o.type) hcc (ChkO_pre h)
            have hop : o.op = .call c := by cases hoo : o.op <;> rw [hoo] at hcall <;> simp [isCall] at hcall; rw [hcall]
            refine wpIn_call (by rw [hop]; intro c' hc'; cases hc') (by simp only [execOp, hop]; exact h1) h2 (fun e w' hr => ?_)
            rcases panX_ok hm (ChkO_k h) hr with ⟨ch, he, st', h3, h4⟩ | ⟨hk, ρ', u, he, hend⟩
            · subst he; exact hKp ch ρ st' a w' h3 h4
            · subst he
              obtain ⟨ρ₂, st', h5, h6⟩ := applyNews_ok hm hput hk hend
              exact hK _ _ _ _ h5 h6
          · exact hFb h
        · exact hFb h
    · -- guarded
      rename_i hnil
      split at h
      · rename_i d hd
        split at h
        · rename_i pre v hfree hc
          have hfd : findF st.F d = none := by
            cases e : findF st.F d with
            | none => rfl
            | some x => rw [e] at hfree; cases hfree
          obtain ⟨hp1, hp2⟩ := putN_ok (hd ▸ hput)
          have hne := guard_ne hg hm.gs hfd hp2
          have hK' := ChkO_k h
          rw [fSV_eq, fGP_eq, fNs_eq, stG_eq] at hK'
          refine wpOps_cons ho' (fun hw => ?_) (fun hw => ?_)
          · have hs := hwant.1 hw
            obtain ⟨u, h1, h2⟩ := core_ok hX.tab hm.fm hs hm.hm (hm.nx _ (Nat.le_refl _)) hc (underO_ok hm.fm hs (ChkO_pre h))
            refine wpIn_value (core_notDefer hc) h1 (hK ρ _ _ _ ?_ hK')
            rw [hd]
            exact hm.putG (hd ▸ hput) hne (fun _ => h2) (fun hn => absurd hs hn)
          · have hs : ¬ GPsat a π := fun hs => by rw [hwant.2 hs] at hw; cases hw
            refine hK ρ _ _ _ ?_ hK'
            rw [hd]
            exact hm.putG (hd ▸ hput) hne (fun h => absurd h hs) (fun _ => rfl)
        · rename_i hfree hc
          split at h
          · rename_i c hcall
            split at h
            · rename_i pre v hcc
              have hfd : findF st.F d = none := by
                cases e : findF st.F d with
                | none => rfl
                | some x => rw [e] at hfree; cases hfree
              obtain ⟨hp1, hp2⟩ := putN_ok (hd ▸ hput)
              have hne := guard_ne hg hm.gs hfd hp2
              have hK' := ChkO_k h
              rw [fSV_eq, fGP_eq, fNs_eq, stG_eq] at hK'
              refine wpOps_cons ho' (fun hw => ?_) (fun hw => ?_)
              · have hs := hwant.1 hw
                obtain ⟨n, args, h1, h2⟩ := callC_ok hX hm.fm hs hm.hm (fun j hj _ => hm.nx j hj) (ty := o.type) hcc (underO_ok hm.fm hs (ChkO_pre h))
                have hop : o.op = .call c := by cases hoo : o.op <;> rw [hoo] at hcall <;> simp [isCall] at hcall; rw [hcall]
                refine wpIn_call (by rw [hop]; intro c' hc'; cases hc') (by simp only [execOp, hop]; exact h1) h2 (fun e w' hr => ?_)
                obtain ⟨ρ', u, he, hend⟩ := hr
                subst he
                obtain ⟨h3, h4⟩ := hend.mod0 hm rfl
                refine hK ρ _ _ _ ?_ hK'
                rw [hd]
                exact h3.putG (hd ▸ hput) hne (fun _ => h4) (fun hn => absurd hs hn)
              · have hs : ¬ GPsat a π := fun hs => by rw [hwant.2 hs] at hw; cases hw
                refine hK ρ _ _ _ ?_ hK'
                rw [hd]
                exact hm.putG (hd ▸ hput) hne (fun h => absurd h hs) (fun _ => rfl)
            · exact hFb h
          · exact hFb h
        · exact hFb h
      · exact hFb h
  · exact hFb h

theorem execL_ok (hX : X.Ok) {ops : List Oper} {Q : Exit → Act → World → Prop} {K : St → Prop} {Kp : List PanicEntry → St → Prop}
    (hK : ∀ ρ' st' a' w', Mod X ρ' st' a' w' → K st' → Q .normal a' w') (hKp : ∀ ch ρ' st' a' w', Mod X ρ' st' a' w' → Kp ch st' → Q (.panic ch) a' w') :
    ∀ (l : List Oper) (i : Nat) (ρ : Env) (st : St) (a : Act) (w : World), ops.drop i = l → execL X ops Q K Kp i l st → Mod X ρ st a w →
      wpOpsIn (FW X.r) 0 X.P ops.toArray Q (List.range' i l.length) a w := by
  intro l
  induction l with
  | nil => intro i ρ st a w _ h hm; exact hK ρ st a w hm h
  | cons o r ih =>
    intro i ρ st a w hd h hm
    have ho : ops[i]? = some o := by
      have := congrArg (fun l => l[0]?) hd
      simpa using this
    have hd' : ops.drop (i + 1) = r := by
      have := congrArg List.tail hd
      simpa using this
    simp only [execL] at h
    rw [show (o :: r).length = r.length + 1 from rfl, List.range'_succ]
    refine opX_ok hX hm ho h (fun hf => ?_) (fun ρ' st' a' w' hm' hk => ih (i + 1) ρ' st' a' w' hd' hk hm') hKp
    have := hf.h ρ a w hm
    rwa [List.range'_succ] at this

theorem stepR_scope {P : Program} {b : Frame} {a : Act} {k : List Item} {cs : List Frame} {w : World} {c : Code} : step P (lone (b.atR a (.code (.scope c) :: k)) cs w) = .next (lone (b.atR a (.code c :: .inScope c :: k)) cs w) :=
  step_lone_go (by simp [stepG, stepG.exec, Frame.atR])
theorem stepR_inScope {P : Program} {b : Frame} {a : Act} {k : List Item} {cs : List Frame} {w : World} {c : Code} : step P (lone (b.atR a (.inScope c :: k)) cs w) = .next (lone (b.atR a k) cs w) :=
  step_lone_go (by simp [stepG, stepG.exec, Frame.atR])
theorem wpIn_scope_straight {F : Fence} {n : Nat} {P : Program} {Q : Exit → Act → World → Prop} {a : Act} {w : World} {c : Code} (h : c.wpIn F n P (Exit.noGoto Q) a w) : (Code.scope c).wpIn F n P Q a w := by
  intro b k cs hro hb hr
  have h0 : (lone (b.atR a (.code (.scope c) :: k)) cs w).fenced P F := fenced_calm hb hr rfl
  obtain ⟨e, a₁, w₁, hq, harr⟩ := h b (.inScope c :: k) cs hro hb hr
  cases e with
  | normal => exact ⟨.normal, a₁, w₁, hq, .head h0 stepR_scope (StepsIn.trans harr (.one (fenced_calm hb hr rfl) stepR_inScope))⟩
  | exit id =>
    have hx : exitTo id (.inScope c :: k) = exitTo id k := by simp [exitTo]
    exact ⟨.exit id, a₁, w₁, hq, fun k' hk => .head h0 stepR_scope (harr.1 k' (by rw [hx]; exact hk)),
      fun hr' hk => let ⟨k₁, h1, h2⟩ := harr.2 hr' (by rw [hx]; exact hk); ⟨k₁, h1, .head h0 stepR_scope h2⟩⟩
  | goto l => exact hq.elim
  | ret => exact ⟨_, a₁, w₁, hq, .of_steps (.one h0 stepR_scope) harr⟩
  | panic ch => exact ⟨_, a₁, w₁, hq, .of_steps (.one h0 stepR_scope) harr⟩
  | outgrown => exact ⟨_, a₁, w₁, hq, .of_steps (.one h0 stepR_scope) harr⟩

theorem exec_ok (hX : X.Ok) : ∀ (c : Code) (st : St) (K : Ex → St → Prop), exec X c st K → SemC X c st K := by
  intro c
  induction c with
  | skip => intro st K h ρ a w hm; exact wpIn_skip ⟨.normal, st, ρ, rfl, hm, h⟩
  | region id ops draw =>
    intro st K h ρ a w hm
    cases draw with
    | true => exact h ρ a w hm
    | false =>
      refine wpIn_region ?_
      have hr : List.range ops.size = List.range' 0 ops.toList.length := by simp [List.range_eq_range']
      have := execL_ok hX (ops := ops.toList) (Q := Qof X K) (K := fun st => endRegion st (K .normal)) (Kp := fun ch st => K (.panic ch) st)
        (fun ρ' st' a' w' hm' hk => ⟨.normal, st', ρ', rfl, hm', by unfold endRegion at hk; split at hk <;> exact hk⟩)
        (fun ch ρ' st' a' w' hm' hk => ⟨.panic ch, st', ρ', rfl, hm', hk⟩) ops.toList 0 ρ st a w rfl h hm
      rw [hr]
      simpa using this
  | label l => intro st K h ρ a w hm; exact wpIn_label ⟨.normal, st, ρ, rfl, hm, h⟩
  | scope c ih =>
    intro st K h ρ a w hm
    refine wpIn_scope_straight (wpIn_mono (ih st _ h ρ a w hm) ?_)
    rintro e a' w' ⟨x', st', ρ', rfl, hm', hk⟩
    cases x' with
    | normal => exact ⟨.normal, st', ρ', rfl, hm', hk⟩
    | ret => exact ⟨.ret, st', ρ', rfl, hm', hk⟩
    | exit n => exact ⟨.exit n, st', ρ', rfl, hm', hk⟩
    | panic ch => exact ⟨.panic ch, st', ρ', rfl, hm', hk⟩
  | seq x y ihx ihy =>
    intro st K h ρ a w hm
    refine wpIn_seq (wpIn_mono (ihx st _ h ρ a w hm) ?_)
    rintro e a' w' ⟨x', st', ρ', rfl, hm', hk⟩
    cases x' with
    | normal => exact ihy st' K hk ρ' a' w' hm'
    | ret => exact ⟨.ret, st', ρ', rfl, hm', hk⟩
    | exit n => exact ⟨.exit n, st', ρ', rfl, hm', hk⟩
    | panic ch => exact ⟨.panic ch, st', ρ', rfl, hm', hk⟩
  | cond c x y ihx ihy =>
    intro st K h ρ a w hm
    simp only [exec] at h
    split at h
    · rename_i p e
      have hv := ev_ok hm.fm (π := []) (fun x hx => by cases hx) e
      simp only [den, Option.some.injEq] at hv
      exact wpIn_cond_split hv.symm (fun ht => ihx st K (h.t ht) ρ a w hm) (fun hf => ihy st K (h.f hf) ρ a w hm)
    · exact h ρ a w hm
  | block n x ihx =>
    intro st K h ρ a w hm
    refine wpIn_block (wpIn_mono (ihx st _ h ρ a w hm) ?_)
    rintro e a' w' ⟨x', st', ρ', rfl, hm', hk⟩
    cases x' with
    | normal => exact ⟨.normal, st', ρ', rfl, hm', hk⟩
    | ret => exact ⟨.ret, st', ρ', rfl, hm', hk⟩
    | panic ch => exact ⟨.panic ch, st', ρ', rfl, hm', hk⟩
    | exit m =>
      simp only [Ex.to, Exit.inBlock]
      by_cases hmn : m = n
      · subst hmn
        simp only [Nat.beq_refl] at hk
        rw [if_pos rfl]
        exact ⟨.normal, st', ρ', rfl, hm', hk⟩
      · have hb : Nat.beq m n = false := by
          cases hbb : Nat.beq m n with
          | false => rfl
          | true => exact absurd (Nat.eq_of_beq_eq_true hbb) hmn
        simp only [hb] at hk
        rw [if_neg hmn]
        exact ⟨.exit m, st', ρ', rfl, hm', hk⟩
  | ret => intro st K h ρ a w hm; exact wpIn_ret ⟨.ret, st, ρ, rfl, hm, h⟩
  | exit n => intro st K h ρ a w hm; exact wpIn_exit ⟨.exit n, st, ρ, rfl, hm, h⟩
  | loop b ih => intro st K h ρ a w hm; exact h ρ a w hm
  | rangeFunc f p x y ih1 ih2 => intro st K h ρ a w hm; exact h ρ a w hm
  | goto l => intro st K h ρ a w hm; exact h ρ a w hm
  | refuse s => intro st K h ρ a w hm; exact h ρ a w hm

end
end Go.X
end

section
set_option linter.unusedVariables false
set_option linter.unusedSimpArgs false
set_option linter.unusedSectionVars false
/- From code to calls; loops; contracts of functions that only compute. -/
set_option linter.unusedVariables false
set_option linter.unusedSimpArgs false
namespace Go.X
open Go

/-! ### Results -/

def resOne (X : Cx) (st : St) : ResultVar → Option SV
  | .tmp t => ev (findF st.F) [] (.tmp t)
  | .cell t ty => match X.T ty, ev (findF st.F) [] (.tmp t) with
    | some ti, some (.sp id off) => (match findH st.H id with
      | some (.cells _ cs) => loadC (aggD ti.desc) ti.size off cs
      | _ => none)
    | _, _ => none

def resAll (X : Cx) (st : St) : List ResultVar → Option (List SV)
  | [] => some []
  | x :: r => match resOne X st x, resAll X st r with
    | some v, some l => some (v :: l)
    | _, _ => none

def resV : List SV → SV
  | [v] => v
  | l => .tup l

/-- What is asked at the ends of a body: Rv of what is returned, Rp of a panic. -/
def Fin (X : Cx) (rs : List ResultVar) (Rv : SV → St → Prop) (Rp : List PanicEntry → St → Prop) : Ex → St → Prop
  | .normal, st => (match resAll X st rs, st.D with
    | some l, [] => fSVL l fun l' => Rv (resV l') st
    | _, _ => False)
  | .ret, st => (match resAll X st rs, st.D with
    | some l, [] => fSVL l fun l' => Rv (resV l') st
    | _, _ => False)
  | .panic ch, st => (match st.D with
    | [] => Rp ch st
    | _ => False)
  | .exit _, _ => False

structure MH (X : Cx) (ρ : Env) (st : St) (w : World) : Prop where
  hm : HM ρ (findH st.H) w
  kp : Keep X.G ρ (findH st.H) w
  nx : ∀ j, st.nx ≤ j → ρ j = none

section
variable {X : Cx} {ρ : Env} {st : St} {a : Act} {w : World}

theorem Mod.mh (h : Mod X ρ st a w) : MH X ρ st w := ⟨h.hm, h.kp, h.nx⟩

def rvS (tmps : Array Value) : ResultVar → Sem Value
  | .tmp t => pure (tmps.getD t undef)
  | .cell a t => do loadVar t (← asAddr (tmps.getD a undef))

theorem results_eq (fn : Func) (tmps : Array Value) : results fn tmps = (do
    let vs ← fn.results.mapM (rvS tmps)
    pure (if h : vs.size = 1 then vs[0] else .tuple vs)) := by
  unfold results
  congr 1

theorem resOne_ok (hX : X.Ok) (hm : Mod X ρ st a w) {x : ResultVar} {v : SV} (h : resOne X st x = some v) :
    ∃ u, (rvS a.tmps x).run X.P w = .ok u w ∧ den ρ v = some u := by
  have hs : GPsat a [] := fun x hx => by cases hx
  cases x with
  | tmp t => exact ⟨_, rfl, ev_ok (x := .tmp t) hm.fm hs h⟩
  | cell t ty =>
    simp only [resOne] at h
    split at h
    · rename_i ti id off e1 e2
      split at h
      · rename_i TT cs e3
        have hv := ev_ok hm.fm hs e2
        obtain ⟨u, h1, h2⟩ := load_ok hX.tab hm.hm e1 hv (s := v) (by simp only [e3]; exact h)
        obtain ⟨nm, hn, hv'⟩ := den_sp hv
        refine ⟨u, ?_, h2⟩
        have hv'' : a.tmps.getD t undef = .pointer (some ⟨nm, off, none⟩) := hv'
        simp only [rvS, hv'']
        rw [hv'] at h1
        simpa [Instr.loadAt, Instr.sureAddr, asAddr, Result.andThen] using h1
      · cases h
    · cases h

theorem resAll_ok (hX : X.Ok) (hm : Mod X ρ st a w) : ∀ {rs : List ResultVar} {l : List SV}, resAll X st rs = some l →
    ∃ us, (rs.mapM (rvS a.tmps)).run X.P w = .ok us w ∧ denL ρ l = some us := by
  intro rs
  induction rs with
  | nil => intro l h; simp only [resAll, Option.some.injEq] at h; subst h; exact ⟨[], by simp, rfl⟩
  | cons x r ih =>
    intro l h
    simp only [resAll] at h
    split at h
    · rename_i v l' e1 e2
      cases h
      obtain ⟨u, h1, h2⟩ := resOne_ok hX hm e1
      obtain ⟨us, h3, h4⟩ := ih e2
      refine ⟨u :: us, ?_, denL_mk h2 h4⟩
      rw [List.mapM_cons, Sem.run_bind, h1]
      simp only [Result.andThen]
      rw [Sem.run_bind, h3]
      rfl
    · cases h

theorem resV_den {l : List SV} {us : List Value} (h : denL ρ l = some us) : den ρ (resV l) = some (if h : us.toArray.size = 1 then us.toArray[0] else .tuple us.toArray) := by
  match l, us, h with
  | [], us, h => simp [denL] at h; subst h; simp [resV, den, denL]
  | [v], us, h =>
    obtain ⟨u, us', h1, h2, rfl⟩ := denL_cons h
    simp [denL] at h2; subst h2
    simpa [resV] using h1
  | v :: v' :: r, us, h =>
    obtain ⟨u, us', h1, h2, rfl⟩ := denL_cons h
    obtain ⟨u', us'', h3, h4, rfl⟩ := denL_cons h2
    simp [resV, den, h]

theorem results_ok (hX : X.Ok) (hm : Mod X ρ st a w) {fn : Func} {l : List SV} (h : resAll X st fn.results.toList = some l) :
    ∃ u, (results fn a.tmps).run X.P w = .ok u w ∧ den ρ (resV l) = some u := by
  obtain ⟨us, h1, h2⟩ := resAll_ok hX hm h
  refine ⟨_, ?_, resV_den h2⟩
  rw [results_eq]
  simp only [Array.mapM_eq_mapM_toList, Sem.run_bind, Sem.run_map, h1, Result.andThen]
  rfl

def CEnd (X : Cx) (Rv : SV → St → Prop) (Rp : List PanicEntry → St → Prop) : Ending → World → Prop := fun e w' =>
  (∃ v st ρ u, e = .returned u ∧ den ρ v = some u ∧ MH X ρ st w' ∧ Rv v st) ∨ (∃ ch st ρ, e = .panicked ch ∧ MH X ρ st w' ∧ Rp ch st)

def zipF : Nat → List SV → List (Nat × FE)
  | _, [] => []
  | i, x :: r => (i, ⟨[], x⟩) :: zipF (i + 1) r

theorem zipF_find : ∀ (l : List SV) (i t : Nat) (e : FE), findF (zipF i l) t = some e → i ≤ t ∧ e.gp = [] ∧ l[t - i]? = some e.v
  | [], i, t, e, h => by cases h
  | x :: r, i, t, e, h => by
    by_cases ht : i = t
    · subst ht
      rw [zipF, findF_cons_self] at h; cases h
      exact ⟨Nat.le_refl _, rfl, by simp⟩
    · rw [zipF, findF_cons_ne _ _ ht] at h
      obtain ⟨h1, h2, h3⟩ := zipF_find r (i + 1) t e h
      refine ⟨by omega, h2, ?_⟩
      rw [show t - i = (t - (i + 1)) + 1 by omega]
      simpa using h3

/-- The state at a body's head. -/
def start (args : List SV) (H : List (Nat × HB)) (nx : Nat) : St := ⟨zipF 0 args, [], H, nx, []⟩

theorem start_mod {args : List SV} {vals : List Value} {H : List (Nat × HB)} {nx : Nat} (hd : denL ρ args = some vals) (hlen : args.length ≤ X.nt) (hH : HM ρ (findH H) w)
    (hG : X.G = ⟨w, Own ρ (findH H), ρ, Fz (findH H)⟩) (hnx : ∀ j, nx ≤ j → ρ j = none) :
    Mod X ρ (start args H nx) { tmps := vals.toArray ++ Array.replicate (X.nt - vals.toArray.size) undef, defers := [] } w where
  fm t e hf := by
    obtain ⟨h1, h2, h3⟩ := zipF_find args 0 t e hf
    have hs : GPsat { tmps := vals.toArray ++ Array.replicate (X.nt - vals.toArray.size) undef, defers := [] } e.gp := fun x hx => by rw [h2] at hx; cases hx
    refine ⟨fun _ => ?_, fun hn => absurd hs hn⟩
    simp only [Nat.sub_zero] at h3
    obtain ⟨v, h4, h5⟩ := denL_get hd h3
    refine ⟨v, ?_, h5⟩
    have hlt : t < vals.length := by
      rcases Nat.lt_or_ge t vals.length with h | h
      · exact h
      · rw [List.getElem?_eq_none h] at h4; cases h4
    simp only [Array.getElem?_append, List.size_toArray, hlt, if_true, List.getElem?_toArray]
    exact h4
  gs t e hf x hx := by
    obtain ⟨_, h2, _⟩ := zipF_find args 0 t e hf
    rw [h2] at hx; cases hx
  df := trivial
  hm := hH
  kp := by
    rw [hG]
    exact { str := Str.refl _, size := Nat.le_refl _, same := fun b _ _ => rfl, own := fun b h => .inl h, ext := Ext.refl ρ, fz := fun b h => .inr (.inr h) }
  nx := hnx
  sz := by
    have := denL_len hd
    simp; omega

theorem calls_of_exec (hX : X.Ok) (hr : X.r = none) {f : Nat} {fn : Func} {c : Code} (hf : X.P.funcs[f]? = some fn) (hb : fn.body = some c) (hnt : fn.ntmps = X.nt)
    {args : List SV} {vals : List Value} {H : List (Nat × HB)} {nx : Nat} (hd : denL ρ args = some vals) (hlen : args.length ≤ X.nt) (hH : HM ρ (findH H) w)
    (hG : X.G = ⟨w, Own ρ (findH H), ρ, Fz (findH H)⟩) (hnx : ∀ j, nx ≤ j → ρ j = none) {Rv : SV → St → Prop} {Rp : List PanicEntry → St → Prop}
    (h : exec X c (start args H nx) (Fin X fn.results.toList Rv Rp)) : Calls X.P f vals.toArray w (CEnd X Rv Rp) := by
  refine (callsIn_wide (n := 0)).1 ?_
  have hm := start_mod (X := X) hd hlen hH hG hnx
  have hw := exec_ok hX c _ _ h ρ _ w hm
  rw [hr] at hw
  refine callsIn_of_wp (F := Fence.wide) hf hb trivial (wpIn_mono (by rw [hnt]; exact hw) ?_)
  rintro e a' w' ⟨x, st', ρ', rfl, hm', hk⟩
  cases x with
  | normal =>
    simp only [Fin] at hk
    split at hk
    · rename_i l e1 e2
      rw [fSVL_eq] at hk
      obtain ⟨u, h1, h2⟩ := results_ok hX hm' e1
      exact ⟨DefOk_nil (by rw [← e2]; exact hm'.df), u, h1, .inl ⟨_, st', ρ', u, rfl, h2, hm'.mh, hk⟩⟩
    · exact hk.elim
  | ret =>
    simp only [Fin] at hk
    split at hk
    · rename_i l e1 e2
      rw [fSVL_eq] at hk
      obtain ⟨u, h1, h2⟩ := results_ok hX hm' e1
      exact ⟨DefOk_nil (by rw [← e2]; exact hm'.df), u, h1, .inl ⟨_, st', ρ', u, rfl, h2, hm'.mh, hk⟩⟩
    · exact hk.elim
  | panic ch =>
    simp only [Fin] at hk
    split at hk
    · rename_i e2
      exact ⟨DefOk_nil (by rw [← e2]; exact hm'.df), .inr ⟨ch, st', ρ', rfl, hm'.mh, hk⟩⟩
    · exact hk.elim
  | exit n => exact hk.elim

end
end Go.X
end

section
set_option linter.unusedVariables false
set_option linter.unusedSimpArgs false
set_option linter.unusedSectionVars false
/- A state that says less; loops. -/
set_option linter.unusedVariables false
set_option linter.unusedSimpArgs false
namespace Go.X
open Go

def ltN (a b : Nat) : Bool := Nat.ble (a + 1) b
theorem ltN_iff {a b : Nat} : ltN a b = true ↔ a < b := by
  simp only [ltN, Nat.ble_eq]; omega

mutual
def idsSV (n : Nat) : SV → Bool
  | .sp id _ => ltN id n
  | .se id _ _ => ltN id n
  | .sl id => ltN id n
  | .sm id => ltN id n
  | .fy id => ltN id n
  | .ss id _ _ _ => ltN id n
  | .agg l => idsL n l
  | .tup l => idsL n l
  | .fn _ a b => match idsL n a with
    | true => idsL n b
    | false => false
  | .ifc _ x => idsSV n x
  | _ => true
def idsL (n : Nat) : List SV → Bool
  | [] => true
  | x :: r => match idsSV n x with
    | true => idsL n r
    | false => false
end

def cut (ρ : Env) (n : Nat) : Env := fun j => if j < n then ρ j else none
theorem cut_lt {ρ : Env} {n j : Nat} (h : j < n) : cut ρ n j = ρ j := by simp [cut, h]
theorem cut_some {ρ : Env} {n j : Nat} {nm : Nm} (h : cut ρ n j = some nm) : j < n ∧ ρ j = some nm := by
  unfold cut at h; split at h
  · exact ⟨by assumption, h⟩
  · cases h

mutual
theorem den_cut {ρ : Env} {n : Nat} : ∀ (s : SV), idsSV n s = true → den (cut ρ n) s = den ρ s
  | .sv x, _ => by simp [den]
  | .si k n, _ => by simp [den]
  | .sb p, _ => by simp [den]
  | .sp id off, h => by simp only [idsSV, ltN_iff] at h; simp [den, cut_lt h]
  | .se id i off, h => by simp only [idsSV, ltN_iff] at h; simp [den, cut_lt h]
  | .sl id, h => by simp only [idsSV, ltN_iff] at h; simp [den, cut_lt h]
  | .sm id, h => by simp only [idsSV, ltN_iff] at h; simp [den, cut_lt h]
  | .fy id, h => by simp only [idsSV, ltN_iff] at h; simp [den, cut_lt h]
  | .ss id _ _ _, h => by simp only [idsSV, ltN_iff] at h; simp [den, cut_lt h]
  | .agg l, h => by simp only [idsSV] at h; simp [den, denL_cut l h]
  | .tup l, h => by simp only [idsSV] at h; simp [den, denL_cut l h]
  | .fn f a b, h => by
    simp only [idsSV] at h
    split at h
    · rename_i e; simp [den, denL_cut a e, denL_cut b h]
    · cases h
  | .ifc t x, h => by simp only [idsSV] at h; simp [den, den_cut x h]
theorem denL_cut {ρ : Env} {n : Nat} : ∀ (s : List SV), idsL n s = true → denL (cut ρ n) s = denL ρ s
  | [], _ => by simp [denL]
  | x :: r, h => by
    simp only [idsL] at h
    split at h
    · rename_i e; simp [denL, den_cut x e, denL_cut r h]
    · cases h
end

def idsDf (n : Nat) : List SDef → Bool
  | [] => true
  | (_, l) :: r => match idsL n l with
    | true => idsDf n r
    | false => false
theorem DefOk_cut {ρ : Env} {n : Nat} : ∀ {ds : List Deferred} {D : List SDef}, idsDf n D = true → DefOk ρ ds D → DefOk (cut ρ n) ds D
  | [], [], _, _ => trivial
  | d :: ds, (f, args) :: r, hi, ⟨⟨vals, h1, h2⟩, h3⟩ => by
    simp only [idsDf] at hi
    split at hi
    · rename_i e
      exact ⟨⟨vals, by rw [denL_cut args e]; exact h1, h2⟩, DefOk_cut hi h3⟩
    · cases hi

def idsHB (n : Nat) : HB → Prop
  | .dead => True
  | .cells _ cs => idsL n cs = true
  | .ro _ m get => ∀ i, i < m → idsL n (get i) = true
  | .row _ _ _ xs => idsL n xs = true
  | .map _ _ => True
  | .vec _ _ m get => ∀ i, i < m → idsL n (get i) = true
  | .mp _ => True
  | .it mid _ _ _ => mid < n
  | .loop F _ _ _ _ _ db _ _ => db < n ∧ ∀ t v, findV F t = some v → idsSV n v = true
  | .dfr => True
  | .fam _ _ => True

theorem HBok_cut {ρ : Env} {n : Nat} {w : World} {hb : HB} {nm : Nm} (hi : idsHB n hb) (h : HBok ρ w hb nm) : HBok (cut ρ n) w hb nm := by
  cases hb with
  | dead => trivial
  | cells T cs =>
    cases nm <;> simp only [HBok] at h ⊢
    obtain ⟨vs, h1, h2⟩ := h
    exact ⟨vs, by rw [denL_cut cs hi]; exact h1, h2⟩
  | ro size m get =>
    cases nm <;> simp only [HBok] at h ⊢
    obtain ⟨h1, h2, h0, h3⟩ := h
    refine ⟨h1, h2, h0, fun hm => ?_⟩
    obtain ⟨ad, e, hlt, hc⟩ := h3 hm
    refine ⟨ad, e, hlt, fun i him => ?_⟩
    obtain ⟨vs, d1, d2⟩ := hc i him
    exact ⟨vs, by rw [denL_cut _ (hi i him)]; exact d1, d2⟩
  | row T size m xs =>
    cases nm <;> simp only [HBok] at h ⊢
    obtain ⟨h1, h2, h3, vs, rest, h4, h5⟩ := h
    exact ⟨h1, h2, h3, vs, rest, by rw [denL_cut xs hi]; exact h4, h5⟩
  | vec T size m get =>
    cases nm <;> simp only [HBok] at h ⊢
    · exact h
    obtain ⟨h1, h2, h3, cells, h4, h5, h6⟩ := h
    refine ⟨h1, h2, h3, cells, h4, h5, fun i hi' => ?_⟩
    obtain ⟨vs, d1, d2⟩ := h6 i hi'
    exact ⟨vs, by rw [denL_cut _ (hi i hi')]; exact d1, d2⟩
  | map es c => cases nm <;> exact h
  | mp es => cases nm <;> exact h
  | dfr => cases nm <;> exact h
  | fam _ _ => cases nm <;> exact h
  | it mid since seen last =>
    cases nm <;> simp only [HBok] at h ⊢
    obtain ⟨mb, h1, h2⟩ := h
    exact ⟨mb, by rw [cut_lt hi]; exact h1, h2⟩
  | loop F nt fn ps assign body db s pd =>
    cases nm <;> simp only [HBok] at h ⊢
    obtain ⟨tmps, dnm, h1, h2, h3, h4⟩ := h
    refine ⟨tmps, dnm, by rw [cut_lt hi.1]; exact h1, h2, h3, fun t v hv => ?_⟩
    obtain ⟨u, e1, e2⟩ := h4 t v hv
    exact ⟨u, e1, by rw [den_cut _ (hi.2 t v hv)]; exact e2⟩

theorem HM.cut {ρ : Env} {H H' : LH} {w : World} {n : Nat} (h : HM ρ H w) (hs : ∀ id hb, H' id = some hb → H id = some hb ∧ id < n ∧ idsHB n hb) : HM (cut ρ n) H' w where
  ok id hb hf := by
    obtain ⟨h1, h2, h3⟩ := hs id hb hf
    obtain ⟨nm, h4, h5⟩ := h.ok id hb h1
    exact ⟨nm, by rw [cut_lt h2]; exact h4, HBok_cut h3 h5⟩
  sep i j x y n₁ n₂ b h1 h2 l1 l2 r1 r2 o1 o2 :=
    h.sep i j x y n₁ n₂ b (hs _ _ h1).1 (hs _ _ h2).1 l1 l2 (cut_some r1).2 (cut_some r2).2 o1 o2
  ro j size m get nm b hf hm hr hb ho := by
    refine h.ro j size m get nm b (hs _ _ hf).1 hm (cut_some hr).2 hb ?_
    obtain ⟨id, x, nm', h1, h2, h3, h4⟩ := ho
    exact ⟨id, x, nm', (hs _ _ h1).1, h2, (cut_some h3).2, h4⟩
  fam b hz ho := by
    refine h.fam b (hz.sub fun id size C hf => (hs _ _ hf).1) ?_
    obtain ⟨id, x, nm', h1, h2, h3, h4⟩ := ho
    exact ⟨id, x, nm', (hs _ _ h1).1, h2, (cut_some h3).2, h4⟩

/-! ### Saying less -/

mutual
def SVeq : SV → SV → Prop
  | .si k n, .si k' m => k = k' ∧ n = m
  | .sb p, .sb q => p = q
  | .agg l, .agg m => SVeqL l m
  | .tup l, .tup m => SVeqL l m
  | .sp i o, .sp j q => i = j ∧ o = q
  | .sl i, .sl j => i = j
  | .sm i, .sm j => i = j
  | .fy i, .fy j => i = j
  | x, y => x = y
def SVeqL : List SV → List SV → Prop
  | [], [] => True
  | x :: r, y :: s => SVeq x y ∧ SVeqL r s
  | _, _ => False
end
mutual
theorem SVeq_eq : ∀ (x y : SV), SVeq x y → x = y
  | .si k n, y, h => by cases y <;> simp [SVeq] at h ⊢ <;> exact h
  | .sb p, y, h => by cases y <;> simp [SVeq] at h ⊢ <;> exact h
  | .agg l, y, h => by cases y <;> simp only [SVeq] at h <;> first | (rw [SVeqL_eq _ _ h]) | cases h
  | .tup l, y, h => by cases y <;> simp only [SVeq] at h <;> first | (rw [SVeqL_eq _ _ h]) | cases h
  | .sp i o, y, h => by cases y <;> simp [SVeq] at h ⊢ <;> exact h
  | .sl i, y, h => by cases y <;> simp [SVeq] at h ⊢ <;> exact h
  | .sm i, y, h => by cases y <;> simp [SVeq] at h ⊢ <;> exact h
  | .fy i, y, h => by cases y <;> simp [SVeq] at h ⊢ <;> exact h
  | .sv x, y, h => by cases y <;> simp [SVeq] at h ⊢ <;> exact h
  | .se i n o, y, h => by cases y <;> simp [SVeq] at h ⊢ <;> exact h
  | .fn f a b, y, h => by cases y <;> simp [SVeq] at h ⊢ <;> exact h
  | .ifc t x, y, h => by cases y <;> simp [SVeq] at h ⊢ <;> exact h
  | .ss i o l t, y, h => by cases y <;> simp [SVeq] at h ⊢ <;> exact h
theorem SVeqL_eq : ∀ (x y : List SV), SVeqL x y → x = y
  | [], [], _ => rfl
  | x :: r, y :: s, h => by rw [SVeq_eq x y h.1, SVeqL_eq r s h.2]
  | [], y :: s, h => h.elim
  | x :: r, [], h => h.elim
end

def HBeq : HB → HB → Prop
  | .cells T cs, .cells U ds => T = U ∧ SVeqL cs ds
  | .row T s n xs, .row U t m ys => T = U ∧ s = t ∧ n = m ∧ xs = ys
  | x, y => x = y
theorem HBeq_eq {x y : HB} (h : HBeq x y) : x = y := by
  cases x <;> cases y <;> simp only [HBeq] at h
  case cells.cells => obtain ⟨rfl, h⟩ := h; rw [SVeqL_eq _ _ h]
  case row.row => obtain ⟨rfl, rfl, rfl, rfl⟩ := h; rfl
  all_goals first | rfl | exact h | cases h

def weakF (n : Nat) (F : List (Nat × FE)) : List (Nat × FE) → Prop
  | [] => True
  | (t, ⟨[], v⟩) :: r => (match findF F t with
    | some ⟨[], u⟩ => SVeq u v ∧ idsSV n v = true
    | _ => False) ∧ weakF n F r
  | _ :: _ => False
def weakH (n : Nat) (H : List (Nat × HB)) : List (Nat × HB) → Prop
  | [] => True
  | (t, hb) :: r => (match findH H t with
    | some hc => HBeq hc hb ∧ idsHB n hb ∧ ltN t n = true
    | _ => False) ∧ weakH n H r

theorem weakF_ok {n : Nat} {F : List (Nat × FE)} : ∀ {F' : List (Nat × FE)}, weakF n F F' → ∀ t e, findF F' t = some e → findF F t = some e ∧ e.gp = [] ∧ idsSV n e.v = true
  | [], _, t, e, h => by cases h
  | (s, ⟨[], v⟩) :: r, hw, t, e, h => by
    simp only [weakF] at hw
    by_cases hst : s = t
    · subst hst
      rw [findF_cons_self] at h; cases h
      have h1 := hw.1
      split at h1
      · rename_i u e1
        rw [e1, SVeq_eq _ _ h1.1]
        exact ⟨rfl, rfl, h1.2⟩
      · exact h1.elim
    · rw [findF_cons_ne _ _ hst] at h
      exact weakF_ok hw.2 t e h
  | (s, ⟨x :: y, v⟩) :: r, hw, t, e, h => by simp only [weakF] at hw

theorem weakH_ok {n : Nat} {H : List (Nat × HB)} : ∀ {H' : List (Nat × HB)}, weakH n H H' → ∀ id hb, findH H' id = some hb → findH H id = some hb ∧ id < n ∧ idsHB n hb
  | [], _, t, e, h => by cases h
  | (s, x) :: r, hw, t, e, h => by
    simp only [weakH] at hw
    by_cases hst : s = t
    · subst hst
      rw [findH_cons, updL_self] at h; cases h
      have h1 := hw.1
      split at h1
      · rename_i hc e1
        rw [e1, HBeq_eq h1.1]
        exact ⟨rfl, ltN_iff.1 h1.2.2, h1.2.1⟩
      · exact h1.elim
    · rw [findH_cons, updL_ne _ _ hst] at h
      exact weakH_ok hw.2 t e h

structure Weak (st st' : St) : Prop where
  F : weakF st'.nx st.F st'.F
  H : weakH st'.nx st.H st'.H
  gs : st'.gs = []
  D : st'.D = st.D
  Di : idsDf st'.nx st'.D = true

theorem Mod.weak {X : Cx} {ρ : Env} {st st' : St} {a : Act} {w : World} (hm : Mod X ρ st a w) (h : Weak st st') (hn : ∀ j, st'.nx ≤ j → X.G.ρ j = none) : Mod X (cut ρ st'.nx) st' a w where
  fm t e hf := by
    obtain ⟨h1, h2, h3⟩ := weakF_ok h.F t e hf
    rw [den_cut _ h3]
    exact hm.fm t e h1
  gs t e hf x hx := by
    obtain ⟨_, h2, _⟩ := weakF_ok h.F t e hf
    rw [h2] at hx; cases hx
  df := DefOk_cut h.Di (by rw [h.D]; exact hm.df)
  hm := hm.hm.cut (weakH_ok h.H)
  kp := {
    str := hm.kp.str
    size := hm.kp.size
    same := hm.kp.same
    own := fun b ho => by
      obtain ⟨id, x, nm', h1, h2, h3, h4⟩ := ho
      exact hm.kp.own b ⟨id, x, nm', (weakH_ok h.H _ _ h1).1, h2, (cut_some h3).2, h4⟩
    ext := fun j nm hj => by
      have hlt : j < st'.nx := by
        rcases Nat.lt_or_ge j st'.nx with h | h
        · exact h
        · rw [hn j h] at hj; cases hj
      rw [cut_lt hlt]; exact hm.kp.ext j nm hj
    fz := fun b hz => hm.kp.fz b (hz.sub fun id size C hf => (weakH_ok h.H _ _ hf).1) }
  nx := fun j hj => by unfold Go.X.cut; rw [if_neg (by omega)]
  sz := hm.sz

/-! ### Loops -/

theorem wpIn_loop_rel {F : Fence} {n : Nat} {P : Program} {Q : Exit → Act → World → Prop} {a : Act} {w : World} {c : Code} (I : Nat → Act → World → Prop) {j₀ : Nat} (h₀ : I j₀ a w)
    (round : ∀ j a w, I j a w → c.wpIn F n P (Exit.then (fun a' w' => ∃ j', j' < j ∧ I j' a' w') Q) a w) : (Code.loop c).wpIn F n P Q a w := by
  intro b k cs hro hb hr
  have key : ∀ j a w, I j a w →
      ∃ e a' w', Q e a' w' ∧ ArrivesIn (Machine.fenced P F) P (lone (b.atR a (.code c :: .inLoop c :: k)) cs w) b k cs e a' w' := by
    intro j
    induction j using Nat.strongRecOn with
    | _ j ih =>
      intro a w hI
      obtain ⟨e, a₁, w₁, hq, harr⟩ := round j a w hI b (.inLoop c :: k) cs hro hb hr
      cases e with
      | normal =>
        obtain ⟨j', hlt, hI₁⟩ := hq
        obtain ⟨e₂, a₂, w₂, hq₂, harr₂⟩ := ih j' hlt a₁ w₁ hI₁
        exact ⟨e₂, a₂, w₂, hq₂, .of_steps (StepsIn.trans harr (.one (fenced_calm hb hr rfl) stepR_inLoop)) harr₂⟩
      | exit id => exact ⟨_, a₁, w₁, hq, .pass (x := .inLoop c) rfl (fun _ _ => .inl (by simp)) harr⟩
      | goto l => exact ⟨_, a₁, w₁, hq, .pass (x := .inLoop c) rfl (fun _ _ => .inl (by simp)) harr⟩
      | ret => exact ⟨_, a₁, w₁, hq, .pass (x := .inLoop c) rfl (fun _ _ => .inl (by simp)) harr⟩
      | panic ch => exact ⟨_, a₁, w₁, hq, .pass (x := .inLoop c) rfl (fun _ _ => .inl (by simp)) harr⟩
      | outgrown => exact ⟨_, a₁, w₁, hq, .pass (x := .inLoop c) rfl (fun _ _ => .inl (by simp)) harr⟩
  obtain ⟨e, a', w', hq, harr⟩ := key _ a w h₀
  exact ⟨e, a', w', hq, .of_steps (.one (fenced_calm hb hr rfl) stepR_loop) harr⟩

/-- What a round has to come to. -/
def Round {α : Type} (I : α → St) (μ : α → Nat) (x : α) (K : Ex → St → Prop) : Ex → St → Prop
  | .normal, st => ∃ x', Weak st (I x') ∧ μ x' < μ x
  | e, st => K e st

theorem loop_ok {X : Cx} (hX : X.Ok) {body : Code} {st : St} {K : Ex → St → Prop} {α : Type} (I : α → St) (μ : α → Nat) (hn : ∀ x j, (I x).nx ≤ j → X.G.ρ j = none) (x0 : α)
    (h0 : Weak st (I x0)) (hr : ∀ x, exec X body (I x) (Round I μ x K)) : SemC X (.loop body) st K := by
  intro ρ a w hm
  refine wpIn_loop_rel (fun j a w => ∃ x ρ, μ x = j ∧ Mod X ρ (I x) a w) ⟨x0, _, rfl, hm.weak h0 (hn x0)⟩ ?_
  rintro j a' w' ⟨x, ρ', rfl, hm'⟩
  refine wpIn_mono (exec_ok hX body _ _ (hr x) ρ' a' w' hm') ?_
  rintro e a₂ w₂ ⟨y, st₂, ρ₂, rfl, hm₂, hk⟩
  cases y with
  | normal =>
    obtain ⟨x', h1, h2⟩ := hk
    exact ⟨_, h2, x', _, rfl, hm₂.weak h1 (hn x')⟩
  | ret => exact ⟨.ret, st₂, ρ₂, rfl, hm₂, hk⟩
  | exit n => exact ⟨.exit n, st₂, ρ₂, rfl, hm₂, hk⟩
  | panic ch => exact ⟨.panic ch, st₂, ρ₂, rfl, hm₂, hk⟩

end Go.X
end

section
set_option linter.unusedVariables false
set_option linter.unusedSimpArgs false
set_option linter.unusedSectionVars false
/- The program's own type table; calls that only compute. -/
set_option linter.unusedVariables false
set_option linter.unusedSimpArgs false
namespace Go.X
open Go

def memT : List Nat → Nat → Bool
  | [], _ => false
  | x :: r, t => if Nat.beq x t then true else memT r t
theorem memT_mem : ∀ {l : List Nat} {t : Nat}, memT l t = true → t ∈ l
  | x :: r, t, h => by
    simp only [memT] at h
    split at h
    · rename_i e
      have : x = t := by simpa using e
      subst this; exact List.mem_cons_self
    · exact List.mem_cons_of_mem _ (memT_mem h)

def PlainOk (P : Program) (l : List Nat) : Prop := ∀ t ∈ l, P.stoodInHeld t = false ∧ P.eqGuardType P.depth t = false ∧ ∀ f ∈ (P.fieldsOf t).toList, f.name ≠ "_"

/-- Is the method by this name one of the type's own, on the value? -/
def methB (i : TypeInfo) (d : TypeDesc) (name : String) : Bool :=
  match d with
  | .pointer _ => false
  | _ => (match i.methods.find? (·.name == name) with
    | some m => m.path.isEmpty && (match m.func with
      | some _ => true
      | none => false)
    | none => false)
theorem methB_ok {P : Program} {t : TypeId} {i : TypeInfo} {d : TypeDesc} (hd : P.underlying t = some d) (hi : P.info? t = some i) {name : String} (h : methB i d name = true) (v : Value) (w : World) :
    (Go.nilAhead (P.types.size + Made.depth) t v name).run P w = .ok (some false) w := by
  have hpos : 0 < Made.depth := by decide
  obtain ⟨k, hk⟩ : ∃ k, P.types.size + Made.depth = k + 1 := ⟨P.types.size + Made.depth - 1, by omega⟩
  rw [hk]
  have ht : (typeInfo t).run P w = .ok i w := by simp [typeInfo, hi]
  unfold methB at h
  split at h
  · cases h
  · rename_i hp
    split at h
    · rename_i m e3
      simp only [Bool.and_eq_true] at h
      obtain ⟨h1, h2⟩ := h
      have hemp : m.path.toList = [] := by
        have : m.path = #[] := by simpa using h1
        rw [this]
      split at h2
      · rename_i f e4
        obtain ⟨f, b⟩ := f
        simp only [Go.nilAhead, Sem.run_bind, ht, Result.andThen_ok, e3, hemp, Go.followBlind, Sem.run_pure, e4]
        cases b with
        | true => rfl
        | false =>
          simp only [Sem.run_bind, run_underlying hd, Result.andThen_ok]
          cases d <;> first | (exact absurd rfl (hp _)) | rfl
      · cases h2
    · cases h
/-- The program's own table; pl: the struct types on which '==' is field by field. -/
def tabP (P : Program) (pl : List Nat) : Tab := fun t =>
  match P.underlying t, P.info? t with
  | some d, some i => (match i.zero with
    | some z => some ⟨d, z, i.size, i.bytes, memT pl t, methB i d⟩
    | none => none)
  | _, _ => none

theorem tabP_ok {P : Program} {pl : List Nat} (hpl : PlainOk P pl) : TabOk P (tabP P pl) := by
  intro t ti h
  simp only [tabP] at h
  split at h
  · rename_i d i e1 e2
    split at h
    · rename_i z e3
      cases h
      exact ⟨e1, ⟨i, e2, e3, rfl, rfl⟩, fun h => ⟨(hpl t (memT_mem h)).1, (hpl t (memT_mem h)).2.1, (hpl t (memT_mem h)).2.2⟩, fun name h => methB_ok e1 e2 h⟩
    · cases h
  · cases h

end Go.X
end
