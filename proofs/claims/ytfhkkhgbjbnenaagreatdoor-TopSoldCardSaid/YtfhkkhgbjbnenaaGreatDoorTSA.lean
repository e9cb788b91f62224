/- The symbolic state of the executor: values, heap pieces, and what they say of a frame and a world; What the executor asks is enough. -/
import Derived.WalkKit
import Derived.RangeFuncIn
import Derived.RangeFuncLeaves
import Derived.Laws.StructEq

set_option linter.unusedVariables false
set_option linter.unusedSimpArgs false
set_option linter.unusedSectionVars false
set_option maxRecDepth 100000
set_option maxHeartbeats 4000000
namespace Go.X
theorem Q0 {p : Prop} (h : p := by repeat' (first | exact trivial | exact rfl | (intro i hi; exact rfl) | refine And.intro ?_ ?_)) : p := h
theorem Q1 {p : Prop} (h : p := by repeat' (first | exact trivial | exact rfl | (intro i hi; exact ⟨rfl, rfl⟩) | refine And.intro ?_ ?_)) : p := h
theorem Q2 {p : Prop} (h : p := by repeat' (first | exact trivial | exact rfl | refine And.intro ?_ ?_)) : p := h
theorem Q4 {p : Prop} (h : p := by repeat' (first | exact trivial | exact rfl | exact List.Perm.refl _ | (intro i hi; exact ⟨rfl, rfl⟩) | (intro v m g h; exact h) | refine And.intro ?_ ?_)) : p := h
theorem Q5 {p : Prop} (h : p := by repeat' (first | exact trivial | exact rfl | (intro i hi; exact ⟨rfl, rfl⟩) | (intro v m g h; exact h) | refine And.intro ?_ ?_)) : p := h
theorem Q7 {p : Prop} (h : p := by repeat' (first | exact trivial | exact rfl | (intro v m g h; exact h) | refine And.intro ?_ ?_)) : p := h
end Go.X

namespace Go.X
open Go
inductive SV where
 |sv (x:Value)
 |si (k:IntKind) (n:Int)
 |sb (p:Bool)
 |sp (id off:Nat)
 |se (id:Nat) (i:Int) (off:Nat)
 |sl (id:Nat)
 |sm (id:Nat)
 |fy (id:Nat)
 |agg (l:List SV)
 |bn (l:List SV)
 |fn (f:Fn) (first ja:List SV)
 |cg (t:TypeId) (x:SV)
 |ss (id off len lc:Nat)
inductive Nm where
 |bO (n:Nat)
 |sl (a:Option Addr) (n c size:Nat)
 |row (nm n c size:Nat)
abbrev Env:=Nat→Option Nm
def partOf (off len lc:Nat):Nm→Option Value
 |.sl (some ad) n c s=>if off+len*s≤n*s∧0<s then some (.slice (some (if c-off / s=0 then ad else ad.add off)) len (c-off / s)) else none
 |.row nm n c s=>if off+len*s≤n*s∧0<s then some (.slice (some (if c-off / s=0 then⟨nm,0,none⟩ else⟨nm,off,none⟩)) len (c-off / s)) else none
 |.bO nm=>some (.slice (some ⟨nm,off,none⟩) len lc)
 |_=>none
mutual
def den (ρ:Env):SV→Option Value
 |.sv x=>if x.oneCell' then some x else none
 |.si k n=>some (.int k n)
 |.sb p=>some (.bool p)
 |.sp id off=>match ρ id with
  |some (.bO nm)=>some (.pointer (some ⟨nm,off,none⟩))
  |_=>none
 |.se id i off=>match ρ id with
  |some (.sl (some ad) n _ s)=>if i.toNat<n then some (.pointer (some (ad.add (i.toNat*s+off)))) else none
  |some (.row nm n _ s)=>if i.toNat<n then some (.pointer (some ⟨nm,i.toNat*s+off,none⟩)) else none
  |_=>none
 |.sl id=>match ρ id with
  |some (.sl a n c _)=>some (.slice a n c)
  |some (.row nm n c _)=>some (.slice (some ⟨nm,0,none⟩) n c)
  |_=>none
 |.sm id=>match ρ id with
  |some (.bO nm)=>some (.map (some nm))
  |_=>none
 |.fy id=>match ρ id with
  |some (.bO nm)=>some (.func (.yield nm) #[] #[])
  |_=>none
 |.agg l=>match ai ρ l with
  |some vs=>if vs.all (·.oneCell') then some (.agg vs.toArray) else none
  |none=>none
 |.bn l=>match ai ρ l with
  |some vs=>some (.tuple vs.toArray)
  |none=>none
 |.fn f a b=>match ai ρ a,ai ρ b with
  |some x,some y=>some (.func f x.toArray y.toArray)
  |_,_=>none
 |.cg t x=>match den ρ x with
  |some v=>some (.iface t v)
  |none=>none
 |.ss id off len lc=>match ρ id with
  |some nm=>partOf off len lc nm
  |none=>none
def ai (ρ:Env):List SV→Option (List Value)
 |[]=>some []
 |x::r=>match den ρ x,ai ρ r with
  |some v,some vs=>some (v::vs)
  |_,_=>none
end
def Ext (ρ ρ':Env):Prop:=∀id nm,ρ id=some nm→ρ' id=some nm
theorem Ext.refl (ρ:Env):Ext ρ ρ:=λ_ _ h=>h
theorem Ext.trans {a b c:Env}(h:Ext a b)(k:Ext b c):Ext a c:=λi n x=>k i n (h i n x)
mutual
theorem uj {ρ ρ':Env}(h:Ext ρ ρ'):∀(s:SV) (v:Value),den ρ s=some v→den ρ' s=some v
 |.sv x,v,hv=>by simpa [den] using hv
 |.si k n,v,hv=>by simpa [den] using hv
 |.sb p,v,hv=>by simpa [den] using hv
 |.sp id off,v,hv=>by
  simp only[den] at hv ⊢
  cases e:ρ id with
  |none=>simp[e] at hv
  |some nm=>rw[h _ _ e];simpa [e] using hv
 |.se id i off,v,hv=>by
  simp only[den] at hv ⊢
  cases e:ρ id with
  |none=>simp[e] at hv
  |some nm=>rw[h _ _ e];simpa [e] using hv
 |.sl id,v,hv=>by
  simp only[den] at hv ⊢
  cases e:ρ id with
  |none=>simp[e] at hv
  |some nm=>rw[h _ _ e];simpa [e] using hv
 |.sm id,v,hv=>by
  simp only[den] at hv ⊢
  cases e:ρ id with
  |none=>simp[e] at hv
  |some nm=>rw[h _ _ e];simpa [e] using hv
 |.fy id,v,hv=>by
  simp only[den] at hv ⊢
  cases e:ρ id with
  |none=>simp[e] at hv
  |some nm=>rw[h _ _ e];simpa [e] using hv
 |.agg l,v,hv=>by
  simp only[den] at hv ⊢
  cases e:ai ρ l with
  |none=>simp[e] at hv
  |some vs=>rw[fT h l vs e];simpa [e] using hv
 |.bn l,v,hv=>by
  simp only[den] at hv ⊢
  cases e:ai ρ l with
  |none=>simp[e] at hv
  |some vs=>rw[fT h l vs e];simpa [e] using hv
 |.fn f a b,v,hv=>by
  simp only[den] at hv ⊢
  cases e:ai ρ a with
  |none=>simp[e] at hv
  |some vs =>
   cases e2:ai ρ b with
   |none=>simp[e,e2] at hv
   |some us=>rw[fT h a vs e,fT h b us e2];simpa [e,e2] using hv
 |.cg t x,v,hv=>by
  simp only[den] at hv ⊢
  cases e:den ρ x with
  |none=>simp[e] at hv
  |some u=>rw[uj h x u e];simpa [e] using hv
 |.ss id off len lc,v,hv=>by
  simp only[den] at hv ⊢
  cases e:ρ id with
  |none=>simp[e] at hv
  |some nm=>rw[h _ _ e];simpa [e] using hv
theorem fT {ρ ρ':Env}(h:Ext ρ ρ'):∀(s:List SV) (v:List Value),ai ρ s=some v→ai ρ' s=some v
 |[],v,hv=>by simpa [ai] using hv
 |x::r,v,hv=>by
  simp only[ai] at hv ⊢
  cases e:den ρ x with
  |none=>simp[e] at hv
  |some u =>
   cases e2:ai ρ r with
   |none=>simp[e,e2] at hv
   |some us=>rw[uj h x u e,fT h r us e2];simpa [e,e2] using hv
end
inductive HB where
 |dead
 |cells (T:TypeId) (cs:List SV)
 |ro (size n:Nat) (get:Nat→List SV)
 |row (T size n:Nat) (xs:List SV)
 |vec (T size n:Nat) (get:Nat→List SV)
 |map (es:List (SV × SV × Nat)) (clock:Nat)
 |mp (es:List (SV × SV))
 |it (mid since:Nat) (seen:List Nat) (last:Nat)
 |loop (F:List (Nat × SV)) (nt fn:Nat) (ps:List Nat) (assign body:Code) (db:Nat) (s:LoopState) (pd:Option Code)
 |eh
 |ax (size:Nat) (C:Value→Nat→(Nat→List SV)→Prop)
def zk:Value→Option Nat
 |.slice (some ad) _ _=>some ad.block
 |_=>none
def Nm.owner:Nm→Option Nat
 |.bO n=>some n
 |.row n _ _ _=>some n
 |.sl ..=>none
def D1:List (SV × SV × Nat)→Option (List MapEntry)
 |[]=>some []
 |(k,v,b)::r=>match den (λ_=>none) k,den (λ_=>none) v,D1 r with
  |some k',some v',some l=>some (⟨k',v',b⟩::l)
  |_,_,_=>none
def Ck (w:World)(nm:Nat)(es:List (SV × SV × Nat))(clock:Nat):Prop :=
 ∃ms,D1 es=some ms∧w.heap[nm]?=some (.map ms.toArray clock)∧(ms.map (·.born)).Nodup∧(∀m∈ms,m.born<clock)∧(ms.map (·.key)).Nodup
def gq:List (Nat × SV)→Nat→Option SV
 |[],_=>none
 |(a,x)::r,t=>if Nat.beq a t then some x else gq r t
def vR (w:World)(size:Nat)(v:Value)(n:Nat)(get:Nat→List SV):Prop :=
 ∃a c,v=.slice a n c∧n≤c∧(0<n→∃ad,a=some ad∧ad.block<w.heap.size ∧
  ∀i,i<n→∃vs,ai (λ_=>none) (get i)=some vs∧vs.all (·.oneCell')=true∧vs.length=size∧∀j v,vs[j]?=some v→w.cell? (ad.add (i*size+j))=some v)
def ao (ρ:Env)(w:World):HB→Nm→Prop
 |.dead,_=>True
 |.cells T cs,.bO nm=>∃vs,ai ρ cs=some vs∧vs.all (·.oneCell')=true∧w.heap[nm]?=some (.cells vs.toArray T (0,0))
 |.ro size n get,.sl a n' c s=>n'=n∧s=size∧n≤c∧(0<n→∃ad,a=some ad∧ad.block<w.heap.size ∧
   ∀i,i<n→∃vs,ai ρ (get i)=some vs∧vs.all (·.oneCell')=true∧vs.length=size∧∀j v,vs[j]?=some v→w.cell? (ad.add (i*size+j))=some v)
 |.row T size n xs,.row nm n' c s=>n'=n∧s=size∧(n≤c∧c≤maxLen)∧∃vs rest,ai ρ xs=some vs∧vs.all (·.oneCell')=true∧vs.length=n*size ∧
   rest.length=(c-n)*size∧w.heap[nm]?=some (.cells (vs++rest).toArray T (0,0))
 |.vec T size n get,.sl a n' c s=>a=none∧n'=0∧c=0∧n=0∧s=size
 |.vec T size n get,.row nm n' c s=>n'=n∧s=size∧(n≤c∧c≤maxLen)∧∃cells:List Value,w.heap[nm]?=some (.cells cells.toArray T (0,0))∧cells.length=c*size ∧
   ∀i,i<n→∃vs,ai ρ (get i)=some vs∧vs.all (·.oneCell')=true∧vs.length=size∧∀j v,vs[j]?=some v→cells[i*size+j]?=some v
 |.map es clock,.bO nm=>Ck w nm es clock
 |.mp es,.bO nm=>∃nw clock,Ck w nm nw clock∧(nw.map λe=>(e.1,e.2.1)).Perm es
 |.it mid since seen last,.bO nm=>∃mb,ρ mid=some (.bO mb)∧w.heap[nm]?=some (.mapIter (some mb) since seen.toArray last)
 |.loop F nt fn ps assign body db s pd,.bO nm=>∃(tmps:Array Value) (kQ:Nat),ρ db=some (.bO kQ) ∧
   w.heap[nm]?=some (.loop { state:=s,pending:=pd,fn:=fn,tmps:=tmps,params:=ps.toArray,assign:=assign,body:=body,defers:=kQ }) ∧
   tmps.size=nt∧∀t v,gq F t=some v→∃u,tmps[t]?=some u∧den ρ v=some u
 |.eh,.bO nm=>w.heap[nm]?=some (.deferred (some []))
 |.ax size C,.sl a _ _ _=>a=none∧∀v n get,C v n get→vR w size v n get
 |_,_=>False
def HB.live:HB→Bool
 |.dead=>false
 |_=>true
def ab:List (Nat × HB)→Nat→Option HB
 |[],_=>none
 |(a,x)::r,t=>if Nat.beq a t then some x else ab r t
abbrev LH:=Nat→Option HB
def jI (H:LH)(id:Nat)(hb:HB):LH:=λt=>if Nat.beq id t then some hb else H t
theorem ba (H:List (Nat × HB))(id:Nat)(hb:HB):ab ((id,hb)::H)=jI (ab H) id hb:=rfl
def Own (ρ:Env)(H:LH)(b:Nat):Prop :=
 ∃id hb nm,H id=some hb∧hb.live=true∧ρ id=some nm∧nm.owner=some b
def eX:Nm→Option Nat
 |.sl (some ad) _ _ _=>some ad.block
 |_=>none
def Fz (H:LH)(b:Nat):Prop :=
 ∃id size C v n get,H id=some (.ax size C)∧C v n get∧0<n∧zk v=some b
structure HM (ρ:Env) (H:LH) (w:World):Prop where
 ok:∀id hb,H id=some hb→∃nm,ρ id=some nm∧ao ρ w hb nm
 sep:∀id bM hb hb' nm ak b,H id=some hb→H bM=some hb'→hb.live=true→hb'.live=true →
  ρ id=some nm→ρ bM=some ak→nm.owner=some b→ak.owner=some b→id=bM
 ro:∀id size n get nm b,H id=some (.ro size n get)→0<n→ρ id=some nm→eX nm=some b→¬Own ρ H b
 ax:∀b,Fz H b→¬Own ρ H b
structure cp where
 w0:World
 M:Nat→Prop
 ρ:Env
 Z:Nat→Prop
def dF (w w':World):Prop:=w'.os=w.os∧w'.output=w.output
theorem dF.refl (w:World):dF w w:=⟨rfl,rfl⟩
theorem dF.trans {a b c:World}(h:dF a b)(k:dF b c):dF a c:=⟨k.1.trans h.1,k.2.trans h.2⟩
structure gO (G:cp) (ρ:Env) (H:LH) (w:World):Prop where
 str:dF G.w0 w
 size:G.w0.heap.size≤w.heap.size
 same:∀b,b<G.w0.heap.size→¬G.M b→w.heap[b]?=G.w0.heap[b]?
 own:∀b,Own ρ H b→G.M b∨G.w0.heap.size≤b
 ext:Ext G.ρ ρ
 fz:∀b,Fz H b→G.M b∨G.w0.heap.size≤b∨G.Z b
abbrev GP:=List (Nat × Bool)
structure FE where
 gp:GP
 v:SV
def findF:List (Nat × FE)→Nat→Option FE
 |[],_=>none
 |(a,x)::r,t=>if Nat.beq a t then some x else findF r t
def bu (a:Act)(gp:GP):Prop:=∀x∈gp,a.tmps[x.1]?=some (.bool x.2)
abbrev LF:=Nat→Option FE
def FM (ρ:Env)(F:LF)(a:Act):Prop :=
 ∀t e,F t=some e→(bu a e.gp→∃v,a.tmps[t]?=some v∧den ρ e.v=some v)∧(¬bu a e.gp→a.tmps[t]?=some undef)
theorem cP (H:LH)(id:Nat)(hb:HB):jI H id hb id=some hb:=by simp[jI]
theorem aR (H:LH){id j:Nat}(hb:HB)(h:id≠j):jI H id hb j=H j:=by
 simp[jI,h]
theorem je (F:List (Nat × FE))(t:Nat)(e:FE):findF ((t,e)::F) t=some e:=by simp[findF]
theorem iB (F:List (Nat × FE)){t j:Nat}(e:FE)(h:t≠j):findF ((t,e)::F) j=findF F j:=by
 simp[findF,h]
theorem kK {ρ ρ':Env}(h:Ext ρ ρ'){w:World}{hb:HB}{nm:Nm}(k:ao ρ w hb nm):ao ρ' w hb nm:=by
 cases hb with
 |dead=>trivial
 |cells T cs =>
  cases nm<;>simp only[ao] at k ⊢
  obtain⟨vs,h1,h2,h3⟩:=k
  exact⟨vs,fT h _ _ h1,h2,h3⟩
 |ro size n get =>
  cases nm<;>simp only[ao] at k ⊢
  obtain⟨h1,h2,h0,h3⟩:=k
  refine⟨h1,h2,h0,λhn=>?_⟩
  obtain⟨ad,e,hb,hc⟩:=h3 hn
  refine⟨ad,e,hb,λi hi=>?_⟩
  obtain⟨vs,d1,d2,d3,d4⟩:=hc i hi
  exact⟨vs,fT h _ _ d1,d2,d3,d4⟩
 |row T size n xs =>
  cases nm<;>simp only[ao] at k ⊢
  obtain⟨h1,h2,h3,vs,rest,h4,h5⟩:=k
  exact⟨h1,h2,h3,vs,rest,fT h _ _ h4,h5⟩
 |vec T size n get =>
  cases nm<;>simp only[ao] at k ⊢
  ·exact k
  obtain⟨h1,h2,h3,cells,h4,h5,h6⟩:=k
  refine⟨h1,h2,h3,cells,h4,h5,λi hi=>?_⟩
  obtain⟨vs,d1,d2⟩:=h6 i hi
  exact⟨vs,fT h _ _ d1,d2⟩
 |map es clock=>cases nm<;>exact k
 |mp es=>cases nm<;>exact k
 |eh=>cases nm<;>exact k
 |ax size C=>cases nm<;>exact k
 |it mid since seen last =>
  cases nm<;>simp only[ao] at k ⊢
  obtain⟨mb,h1,h2⟩:=k
  exact⟨mb,h _ _ h1,h2⟩
 |loop F nt fn ps assign body db s pd =>
  cases nm<;>simp only[ao] at k ⊢
  obtain⟨tmps,kQ,h1,h2,h3,h4⟩:=k
  refine⟨tmps,kQ,h _ _ h1,h2,h3,λt v hv=>?_⟩
  obtain⟨u,e1,e2⟩:=h4 t v hv
  exact⟨u,e1,uj h _ _ e2⟩
theorem Nf {w w':World}{a:Addr}(h:w'.heap[a.block]?=w.heap[a.block]?):w'.cell? a=w.cell? a:=by
 simp only[World.cell?,h]
theorem zI (a:Addr)(n:Nat):(a.add n).block=a.block:=by unfold Addr.add;split<;>rfl
theorem add_add (a:Addr)(i j:Nat):(a.add i).add j=a.add (i+j):=by
 unfold Addr.add
 by_cases hi:i=0<;>by_cases hj:j=0<;>simp[hi,hj,Nat.add_assoc]
theorem Rb {w w':World}{nm:Nat}{es:List (SV × SV × Nat)}{clock:Nat}(h:w'.heap[nm]?=w.heap[nm]?)(k:Ck w nm es clock):Ck w' nm es clock:=by
 obtain⟨ms,h1,h2,h3⟩:=k
 exact⟨ms,h1,h.trans h2,h3⟩
theorem vm {ρ:Env}{w w':World}{hb:HB}{nm:Nm}(hs:w.heap.size≤w'.heap.size)
  (ho:hb.live=true→∀b,nm.owner=some b→w'.heap[b]?=w.heap[b]?)
  (hr:∀size n get b,hb=.ro size n get→0<n→eX nm=some b→w'.heap[b]?=w.heap[b]?)
  (ma:∀size C v n get b,hb=.ax size C→C v n get→0<n→zk v=some b→w'.heap[b]?=w.heap[b]?) (k:ao ρ w hb nm):ao ρ w' hb nm:=by
 cases hb with
 |dead=>trivial
 |cells T cs =>
  cases nm<;>simp only[ao] at k ⊢
  obtain⟨vs,h1,h2,h3⟩:=k
  exact⟨vs,h1,h2,(ho rfl _ rfl).trans h3⟩
 |ro size n get =>
  cases nm<;>simp only[ao] at k ⊢
  obtain⟨h1,h2,h0,h3⟩:=k
  refine⟨h1,h2,h0,λhn=>?_⟩
  obtain⟨ad,e,hb,hc⟩:=h3 hn
  subst e
  refine⟨ad,rfl,by omega,λi hi=>?_⟩
  obtain⟨vs,d1,d2,d3,d4⟩:=hc i hi
  refine⟨vs,d1,d2,d3,λj v hv=>?_⟩
  rw[Nf (w:=w) (by rw[zI];exact hr _ _ _ _ rfl hn rfl)]
  exact d4 j v hv
 |row T size n xs =>
  cases nm<;>simp only[ao] at k ⊢
  obtain⟨h1,h2,h3,vs,rest,h4,h5,h6,h7,h8⟩:=k
  exact⟨h1,h2,h3,vs,rest,h4,h5,h6,h7,(ho rfl _ rfl).trans h8⟩
 |vec T size n get =>
  cases nm<;>simp only[ao] at k ⊢
  ·exact k
  obtain⟨h1,h2,h3,cells,h4,h5⟩:=k
  exact⟨h1,h2,h3,cells,(ho rfl _ rfl).trans h4,h5⟩
 |map es clock =>
  cases nm<;>simp only[ao] at k ⊢
  exact Rb (ho rfl _ rfl) k
 |mp es =>
  cases nm<;>simp only[ao] at k ⊢
  obtain⟨nw,clock,h1,h2⟩:=k
  exact⟨nw,clock,Rb (ho rfl _ rfl) h1,h2⟩
 |it mid since seen last =>
  cases nm<;>simp only[ao] at k ⊢
  obtain⟨mb,h1,h2⟩:=k
  exact⟨mb,h1,(ho rfl _ rfl).trans h2⟩
 |loop F nt fn ps assign body db s pd =>
  cases nm<;>simp only[ao] at k ⊢
  obtain⟨tmps,kQ,h1,h2,h3,h4⟩:=k
  exact⟨tmps,kQ,h1,(ho rfl _ rfl).trans h2,h3,h4⟩
 |eh =>
  cases nm<;>simp only[ao] at k ⊢
  exact(ho rfl _ rfl).trans k
 |ax size C =>
  cases nm<;>simp only[ao] at k ⊢
  refine⟨k.1,λv n get hc=>?_⟩
  obtain⟨a,c,e,h1,h2⟩:=k.2 v n get hc
  refine⟨a,c,e,h1,λhn=>?_⟩
  obtain⟨ad,rfl,hb,h3⟩:=h2 hn
  refine⟨ad,rfl,by omega,λi hi=>?_⟩
  obtain⟨vs,d1,d2,d3,d4⟩:=h3 i hi
  refine⟨vs,d1,d2,d3,λj v' hv=>?_⟩
  rw[Nf (w:=w) (by rw[zI];exact ma _ _ _ _ _ _ rfl hc hn (by rw[e];rfl))]
  exact d4 j v' hv
theorem HM.lt {ρ:Env}{H:LH}{w:World}(h:HM ρ H w){b:Nat}(ho:Own ρ H b):b<w.heap.size:=by
 obtain⟨id,hb,nm,h1,h2,h3,h4⟩:=ho
 obtain⟨ak,h5,h6⟩:=h.ok _ _ h1
 rw[h3] at h5;cases h5
 have key:∀o,w.heap[b]?=some o→b<w.heap.size:=λo ho=>by
  rcases Nat.lt_or_ge b w.heap.size with aG|kj
  ·exact aG
  ·rw[Array.getElem?_eq_none kj] at ho;cases ho
 cases hb with
 |dead=>cases h2
 |cells T cs =>
  cases nm<;>simp only[ao] at h6
  simp only[Nm.owner] at h4;cases h4
  obtain⟨vs,_,_,h⟩:=h6
  exact key _ h
 |ro size n get =>
  cases nm<;>simp only[ao] at h6
  simp[Nm.owner] at h4
 |row T size n xs =>
  cases nm<;>simp only[ao] at h6
  simp only[Nm.owner] at h4;cases h4
  obtain⟨_,_,_,vs,rest,_,_,_,_,h⟩:=h6
  exact key _ h
 |vec T size n get =>
  cases nm<;>simp only[ao] at h6
  ·simp[Nm.owner] at h4
  simp only[Nm.owner] at h4;cases h4
  obtain⟨_,_,_,cells,h,_⟩:=h6
  exact key _ h
 |map es clock =>
  cases nm<;>simp only[ao] at h6
  simp only[Nm.owner] at h4;cases h4
  obtain⟨ms,_,h,_⟩:=h6
  exact key _ h
 |mp es =>
  cases nm<;>simp only[ao] at h6
  simp only[Nm.owner] at h4;cases h4
  obtain⟨nw,clock,⟨ms,_,h,_⟩,_⟩:=h6
  exact key _ h
 |it mid since seen last =>
  cases nm<;>simp only[ao] at h6
  simp only[Nm.owner] at h4;cases h4
  obtain⟨mb,_,h⟩:=h6
  exact key _ h
 |loop F nt fn ps assign body db s pd =>
  cases nm<;>simp only[ao] at h6
  simp only[Nm.owner] at h4;cases h4
  obtain⟨tmps,kQ,_,h,_⟩:=h6
  exact key _ h
 |eh =>
  cases nm<;>simp only[ao] at h6
  simp only[Nm.owner] at h4;cases h4
  exact key _ h6
 |ax size C =>
  cases nm<;>simp only[ao] at h6
  simp[Nm.owner] at h4
theorem HM.Ij {ρ:Env}{H:LH}{w:World}(h:HM ρ H w){id size:Nat}{C:Value→Nat→(Nat→List SV)→Prop}{v:Value}{n:Nat}{get:Nat→List SV}{b:Nat}(hf:H id=some (.ax size C))(hc:C v n get)(hn:0<n)(hb:zk v=some b):b<w.heap.size:=by
 obtain⟨nm,h1,h2⟩:=h.ok id _ hf
 cases nm<;>simp only[ao] at h2
 obtain⟨a,c,e,h3,h4⟩:=h2.2 v n get hc
 obtain⟨ad,e2,aG,_⟩:=h4 hn
 subst e2
 rw[e] at hb
 simp only[zk,Option.some.injEq] at hb
 omega
theorem HM.sN {ρ:Env}{H:LH}{w:World}(h:HM ρ H w){b:Nat}(hf:Fz H b):b<w.heap.size:=by
 obtain⟨id,size,C,v,n,get,h1,h2,h3,h4⟩:=hf
 exact h.Ij h1 h2 h3 h4
theorem Fz.mono {H H':LH}{b:Nat}(hs:∀id size C,H' id=some (.ax size C)→∃bM C',H bM=some (.ax size C')∧∀v n get,C v n get→C' v n get)(h:Fz H' b):Fz H b:=by
 obtain⟨id,size,C,v,n,get,h1,h2,h3,h4⟩:=h
 obtain⟨bM,C',h5,h6⟩:=hs _ _ _ h1
 exact⟨bM,size,C',v,n,get,h5,h6 _ _ _ h2,h3,h4⟩
theorem Fz.sub {H H':LH}{b:Nat}(hs:∀id size C,H' id=some (.ax size C)→H id=some (.ax size C))(h:Fz H' b):Fz H b :=
 h.mono λid size C h=>⟨id,C,hs _ _ _ h,λ_ _ _ h=>h⟩
theorem Fz.aq {H:LH}{id:Nat}{hb:HB}{b:Nat}(hb':∀s C,hb≠.ax s C)(h:Fz (jI H id hb) b):Fz H b :=
 h.sub λj size C hj=>by
  by_cases e:id=j
  ·subst e;rw[cP] at hj;cases hj;exact(hb' _ _ rfl).elim
  ·rw[aR _ _ e] at hj;exact hj
theorem HM.world {ρ:Env}{H:LH}{w w':World}(h:HM ρ H w)(hs:w.heap.size≤w'.heap.size)
  (hk:∀b,b<w.heap.size→w'.heap[b]?=w.heap[b]?):HM ρ H w' where
 ok id hb hf:=by
  obtain⟨nm,h1,h2⟩:=h.ok id hb hf
  refine⟨nm,h1,vm hs (λhl b hb'=>hk b (h.lt ⟨id,hb,nm,hf,hl,h1,hb'⟩)) ?_ (λsize C v n get b e hc hn hb'=>hk b (h.Ij (e ▸ hf) hc hn hb')) h2⟩
  intro size n get b e hn hr
  subst e
  cases nm<;>simp only[ao] at h2
  obtain⟨_,_,_,h3⟩:=h2
  obtain⟨ad,e,aG,_⟩:=h3 hn
  subst e
  simp only[eX] at hr;cases hr
  exact hk _ aG
 sep:=h.sep
 ro:=h.ro
 ax:=h.ax
def aq (ρ:Env)(id:Nat)(nm:Nm):Env:=λj=>if j=id then some nm else ρ j
theorem cj (ρ:Env)(id:Nat)(nm:Nm):aq ρ id nm id=some nm:=by simp[aq]
theorem bF (ρ:Env){id j:Nat}(nm:Nm)(h:j≠id):aq ρ id nm j=ρ j:=by simp[aq,h]
theorem Ext.aq {ρ:Env}{id:Nat}(nm:Nm)(h:ρ id=none):Ext ρ (aq ρ id nm):=λj n hj=>by
 rw[bF]
 ·exact hj
 ·rintro rfl;rw[h] at hj;cases hj
theorem Pq (w:World)(o:Obj){b:Nat}(h:b<w.heap.size):(w.alloc o).heap[b]?=w.heap[b]?:=by
 show(w.heap.push o)[b]?=w.heap[b]?
 simp[Array.getElem?_push,Nat.ne_of_lt h]
theorem size_alloc (w:World)(o:Obj):(w.alloc o).heap.size=w.heap.size+1:=by
 show(w.heap.push o).size=w.heap.size+1
 simp
theorem Own.cons {ρ:Env}{H:LH}{id:Nat}{hb:HB}{nm:Nm}{b:Nat}(hf:ρ id=none)(h:Own (aq ρ id nm) (jI H id hb) b) :
  nm.owner=some b∨Own ρ H b:=by
 obtain⟨j,hb',ak,h1,h2,h3,h4⟩:=h
 by_cases e:id=j
 ·subst e
  rw[cj] at h3;cases h3
  exact .inl h4
 ·rw[aR _ _ e] at h1
  rw[bF _ _ (Ne.symm e)] at h3
  exact .inr ⟨j,hb',ak,h1,h2,h3,h4⟩
theorem HM.push {ρ:Env}{H:LH}{w:World}(h:HM ρ H w){id:Nat}{hb:HB}{nm:Nm}(hf:ρ id=none)(o:Obj)
  (ap:ao (aq ρ id nm) (w.alloc o) hb nm) (cM:∀b,nm.owner=some b→b=w.heap.size) (kq:∀b,eX nm=some b→b=w.heap.size) (ma:∀s C,hb≠.ax s C:=by intro s C h;cases h) :
  HM (aq ρ id nm) (jI H id hb) (w.alloc o) where
 ok j hb' hj:=by
  by_cases e:id=j
  ·subst e
   rw[cP] at hj;cases hj
   exact⟨nm,cj _ _ _,ap⟩
  ·rw[aR _ _ e] at hj
   have hw:=h.world (w':=w.alloc o) (by rw[size_alloc];omega) (λb hb=>Pq w o hb)
   obtain⟨ak,h1,h2⟩:=hw.ok j hb' hj
   exact⟨ak,by rw[bF _ _ (Ne.symm e)];exact h1,kK (Ext.aq nm hf) h2⟩
 sep i j wu wv c_ dE b h1 h2 l1 l2 r1 r2 o1 o2:=by
  by_cases e1:id=i<;>by_cases e2:id=j
  ·exact e1.symm.trans e2
  ·subst e1
   rw[cj] at r1;cases r1
   rw[aR _ _ e2] at h2
   rw[bF _ _ (Ne.symm e2)] at r2
   have:=h.lt ⟨j,wv,dE,h2,l2,r2,o2⟩
   have:=cM b o1
   omega
  ·subst e2
   rw[cj] at r2;cases r2
   rw[aR _ _ e1] at h1
   rw[bF _ _ (Ne.symm e1)] at r1
   have:=h.lt ⟨i,wu,c_,h1,l1,r1,o1⟩
   have:=cM b o2
   omega
  ·rw[aR _ _ e1] at h1
   rw[bF _ _ (Ne.symm e1)] at r1
   rw[aR _ _ e2] at h2
   rw[bF _ _ (Ne.symm e2)] at r2
   exact h.sep i j wu wv c_ dE b h1 h2 l1 l2 r1 r2 o1 o2
 ro j size n get ak b hj hn hr hb':=by
  intro ho
  by_cases e:id=j
  ·subst e
   rw[cj] at hr;cases hr
   have e1:=kq b hb'
   rcases Own.cons hf ho with h1|h1
   ·cases nm<;>simp[Nm.owner,eX] at h1 hb'
   ·have:=h.lt h1;omega
  ·rw[aR _ _ e] at hj
   rw[bF _ _ (Ne.symm e)] at hr
   rcases Own.cons hf ho with h1|h1
   ·have e1:=cM b h1
    obtain⟨abk,h5,h6⟩:=h.ok _ _ hj
    rw[hr] at h5;cases h5
    cases ak<;>simp only[ao] at h6
    obtain⟨_,_,_,h7⟩:=h6
    obtain⟨ad,e3,aG,_⟩:=h7 hn
    subst e3
    simp only[eX] at hb';cases hb'
    omega
   ·exact h.ro j size n get ak b hj hn hr hb' h1
 ax b hz:=by
  intro ho
  have hz:=hz.aq ma
  rcases Own.cons hf ho with h1|h1
  ·have e1:=cM b h1
   have:=h.sN hz
   omega
  ·exact h.ax b hz h1
theorem HM.put {ρ:Env}{H:LH}{w w':World}(h:HM ρ H w){id:Nat}{hb hb':HB}{nm:Nm}{b:Nat}(hf:H id=some hb)(hl:hb.live=true)
  (hn:ρ id=some nm) (ho:nm.owner=some b) (hs:w.heap.size≤w'.heap.size) (hk:∀k,k<w.heap.size→k≠b→w'.heap[k]?=w.heap[k]?)
  (ap:ao ρ w' hb' nm) (iF:hb'.live=true) (mj:∀s n g,hb'≠.ro s n g):HM ρ (jI H id hb') w':=by
 have cM:∀c,Own ρ (jI H id hb') c→Own ρ H c:=by
  rintro c ⟨j,x,ak,h1,h2,h3,h4⟩
  by_cases e:id=j
  ·subst e
   rw[hn] at h3;cases h3
   exact⟨id,hb,nm,hf,hl,hn,h4⟩
  ·rw[aR _ _ e] at h1
   exact⟨j,x,ak,h1,h2,h3,h4⟩
 refine⟨?_,?_,?_,?_⟩
 ·intro j x hj
  by_cases e:id=j
  ·subst e
   rw[cP] at hj;cases hj
   exact⟨nm,hn,ap⟩
  ·rw[aR _ _ e] at hj
   obtain⟨ak,h1,h2⟩:=h.ok j x hj
   refine⟨ak,h1,vm hs ?_ ?_ ?_ h2⟩
   ·intro PH c hc
    refine hk c (h.lt ⟨j,x,ak,hj,PH,h1,hc⟩) ?_
    rintro rfl
    exact e (h.sep id j hb x nm ak c hf hj hl PH hn h1 ho hc)
   ·intro size n get c ex fG hr
    subst ex
    cases ak<;>simp only[ao] at h2
    obtain⟨_,_,_,h3⟩:=h2
    obtain⟨ad,vI,aG,_⟩:=h3 fG
    subst vI
    have gW:=hr
    simp only[eX] at hr;cases hr
    refine hk _ aG ?_
    intro e5
    exact h.ro j size n get _ _ hj fG h1 gW (e5 ▸ ⟨id,hb,nm,hf,hl,hn,ho⟩)
   ·intro size C v n get c ex hc fG lq
    subst ex
    refine hk _ (h.Ij hj hc fG lq) ?_
    intro e5
    exact h.ax _ ⟨j,size,C,v,n,get,hj,hc,fG,lq⟩ (e5 ▸ ⟨id,hb,nm,hf,hl,hn,ho⟩)
 ·intro i j x y c_ dE c h1 h2 l1 l2 r1 r2 o1 o2
  by_cases e1:id=i<;>by_cases e2:id=j
  ·exact e1.symm.trans e2
  ·subst e1
   rw[hn] at r1;cases r1
   rw[aR _ _ e2] at h2
   exact h.sep id j hb y nm dE c hf h2 hl l2 hn r2 o1 o2
  ·subst e2
   rw[hn] at r2;cases r2
   rw[aR _ _ e1] at h1
   exact h.sep i id x hb c_ nm c h1 hf l1 hl r1 hn o1 o2
  ·rw[aR _ _ e1] at h1
   rw[aR _ _ e2] at h2
   exact h.sep i j x y c_ dE c h1 h2 l1 l2 r1 r2 o1 o2
 ·intro j size n get ak c hj fG hr lq BD
  by_cases e:id=j
  ·subst e
   rw[cP] at hj;cases hj
   exact mj _ _ _ rfl
  ·rw[aR _ _ e] at hj
   exact h.ro j size n get ak c hj fG hr lq (cM c BD)
 ·intro c hz BD
  refine h.ax c (hz.aq λs C e=>?_) (cM c BD)
  subst e
  cases nm<;>simp only[ao] at ap
  cases ho
theorem Own.put {ρ:Env}{H:LH}{id:Nat}{hb hb':HB}(hf:H id=some hb)(hl:hb.live=true){c:Nat}(h:Own ρ (jI H id hb') c):Own ρ H c:=by
 obtain⟨j,x,ak,h1,h2,h3,h4⟩:=h
 by_cases e:id=j
 ·subst e
  exact⟨id,hb,ak,hf,hl,h3,h4⟩
 ·rw[aR _ _ e] at h1
  exact⟨j,x,ak,h1,h2,h3,h4⟩
theorem gO.push {G:cp}{ρ:Env}{H:LH}{w:World}(k:gO G ρ H w){id:Nat}{hb:HB}{nm:Nm}(hf:ρ id=none)(o:Obj)
  (cM:∀b,nm.owner=some b→b=w.heap.size) (ma:∀s C,hb≠.ax s C:=by intro s C h;cases h):gO G (aq ρ id nm) (jI H id hb) (w.alloc o) where
 str:=k.str.trans ⟨rfl,rfl⟩
 size:=by rw[size_alloc];have:=k.size;omega
 same b hb hm:=(Pq w o (by have:=k.size;omega)).trans (k.same b hb hm)
 own b ho:=by
  rcases Own.cons hf ho with h|h
  ·have:=cM b h;have:=k.size;exact .inr (by omega)
  ·exact k.own b h
 ext:=k.ext.trans (Ext.aq nm hf)
 fz b h:=k.fz b (h.aq ma)
theorem gO.put {G:cp}{ρ:Env}{H:LH}{w w':World}(k:gO G ρ H w){id:Nat}{hb hb':HB}{nm:Nm}{b:Nat}(hf:H id=some hb)(hl:hb.live=true)
  (hn:ρ id=some nm) (ho:nm.owner=some b) (hs:w.heap.size≤w'.heap.size) (hk:∀k,k<w.heap.size→k≠b→w'.heap[k]?=w.heap[k]?) (bD:dF w w':=by exact⟨rfl,rfl⟩) (ma:∀s C,hb'≠.ax s C:=by intro s C h;cases h) :
  gO G ρ (jI H id hb') w' where
 str:=k.str.trans bD
 size:=Nat.le_trans k.size hs
 same c hc hm:=by
  have:c≠b:=by
   rintro rfl
   rcases k.own c ⟨id,hb,nm,hf,hl,hn,ho⟩ with h|h
   ·exact hm h
   ·omega
  exact(hk c (by have:=k.size;omega) this).trans (k.same c hc hm)
 own c h:=k.own c (Own.put hf hl h)
 ext:=k.ext
 fz b h:=k.fz b (h.aq ma)
theorem gO.world {G:cp}{ρ:Env}{H:LH}{w w':World}(k:gO G ρ H w)(hs:w.heap.size≤w'.heap.size)
  (hk:∀b,b<w.heap.size→w'.heap[b]?=w.heap[b]?) (bD:dF w w':=by exact⟨rfl,rfl⟩):gO G ρ H w' where
 str:=k.str.trans bD
 size:=Nat.le_trans k.size hs
 same c hc hm:=(hk c (by have:=k.size;omega)).trans (k.same c hc hm)
 own:=k.own
 ext:=k.ext
 fz:=k.fz
structure TI where
 desc:TypeDesc
 zero:Value
 size:Nat
 bytes:Nat
 plain:Bool
 Rj:String→Bool
abbrev cf:=Nat→Option TI
def dy (P:Program)(T:cf):Prop :=
 ∀t ti,T t=some ti→P.underlying t=some ti.desc∧(∃i,P.info? t=some i∧i.zero=some ti.zero∧i.size=ti.size∧i.bytes=ti.bytes) ∧
  (ti.plain = true → P.stoodInHeld t = false ∧ P.eqGuardType P.depth t = false ∧ ∀ f ∈ (P.fieldsOf t).toList, f.name ≠ "_") ∧ (∀ name, ti.Rj name = true → ∀ v w, (Go.nilAhead (P.types.size + Made.depth) t v name).run P w = .ok (some false) w)
def ig:TypeDesc→Bool
 |.struct _=>true
 |.array _ _=>true
 |_=>false
section
variable {P:Program}{T:cf}(hT:dy P T){t:Nat}{ti:TI}(h:T t=some ti)(w:World)
include hT h
theorem dX:(underlying t).run P w=.ok ti.desc w:=run_underlying (hT t ti h).1 w
theorem acu:∃i,(typeInfo t).run P w=.ok i w∧i.zero=some ti.zero∧i.size=ti.size∧i.bytes=ti.bytes:=by
 obtain⟨_,⟨i,h1,h2,h3,h4⟩,_⟩:=hT t ti h
 exact⟨i,by simp[typeInfo,h1],h2,h3,h4⟩
theorem lL:(sizeOf t).run P w=.ok ti.size w:=by
 obtain⟨_,⟨i,h1,h2,h3,h4⟩,_⟩:=hT t ti h
 simp[sizeOf,typeInfo,h1,h3]
theorem xe:(zeroValue t).run P w=.ok ti.zero w:=by
 obtain⟨_,⟨i,h1,h2,h3,h4⟩,_⟩:=hT t ti h
 simp[zeroValue,typeInfo,h1,h2]
theorem Gh:(isAgg t).run P w=.ok (ig ti.desc) w:=by
 simp only[isAgg,Sem.run_bind,dX hT h,Result.andThen]
 cases ti.desc<;>rfl
end
def ofValue:Value→Option SV
 |.int k n=>some (.si k n)
 |.bool p=>some (.sb p)
 |.agg _=>none
 |.tuple _=>none
 |x=>some (.sv x)
theorem FU (ρ:Env){x:Value}{s:SV}(h:ofValue x=some s):den ρ s=some x:=by
 cases x<;>simp[ofValue] at h<;>subst h<;>simp[den,Value.oneCell']
def D3:Bool→Bool→Bool
 |true,true=>true
 |false,false=>true
 |_,_=>false
def rJ:GP→Nat→Bool→Bool
 |[],_,_=>false
 |(s,p)::r,t,q=>if Nat.beq s t then(if D3 p q then true else rJ r t q) else rJ r t q
def Gz:GP→GP→Bool
 |[],_=>true
 |(s,p)::r,π=>if rJ π s p then Gz r π else false
theorem aa9 {π:GP}{t:Nat}{q:Bool}(h:rJ π t q=true):(t,q)∈π:=by
 induction π with
 |nil=>cases h
 |cons x r ih =>
  obtain⟨s,p⟩:=x
  simp only[rJ] at h
  split at h
  ·rename_i e1
   have vH:s=t:=by simpa using e1
   split at h
   ·rename_i e2
    have:p=q:=by cases p<;>cases q<;>simp[D3] at e2<;>rfl
    subst this;subst vH
    exact List.mem_cons_self
   ·exact List.mem_cons_of_mem _ (ih h)
  ·exact List.mem_cons_of_mem _ (ih h)
theorem adz {σ π:GP}{a:Act}(h:Gz σ π=true)(hs:bu a π):bu a σ:=by
 induction σ with
 |nil=>intro x hx;cases hx
 |cons x r ih =>
  obtain⟨s,p⟩:=x
  simp only[Gz] at h
  split at h
  ·rename_i e
   intro y hy
   rcases List.mem_cons.1 hy with rfl|hy
   ·exact hs _ (aa9 e)
   ·exact ih h y hy
  ·cases h
def ev (F:LF)(π:GP):Operand→Option SV
 |.tmp t=>match F t with
  |some e=>if Gz e.gp π then some e.v else none
  |none=>none
 |.const v=>ofValue v
 |.func f=>some (.fn (.func f) [] [])
 |.global _=>none
theorem aQ {ρ:Env}{F:LF}{a:Act}(h:FM ρ F a){π:GP}(hs:bu a π){x:Operand}{s:SV}(he:ev F π x=some s) :
  den ρ s=some (a.eval x):=by
 cases x with
 |tmp t =>
  simp only[ev] at he
  cases hf:F t with
  |none=>simp[hf] at he
  |some e =>
   simp only[hf] at he
   split at he
   ·rename_i hg
    cases he
    obtain⟨v,h1,h2⟩:=(h t e hf).1 (adz hg hs)
    simp[Act.eval,Array.getD_eq_getD_getElem?,h1,h2]
   ·cases he
 |const v=>exact FU ρ he
 |func f=>simp only[ev] at he;cases he;simp[den,ai,Act.eval]
 |global g=>simp[ev] at he
inductive zz where
 |no
 |st (id off:Nat) (cs:List SV)
 |new (hb:HB)
structure Out where
 pre:Option Prop
 v:SV
 bT:zz
def fc:Option Prop→Prop
 |none=>True
 |some p=>p
def nth {α:Type}:List α→Nat→Option α
 |[],_=>none
 |x::_,0=>some x
 |_::r,n+1=>nth r n
def pT {α:Type}:Nat→List α→List α
 |0,_=>[]
 |_,[]=>[]
 |n+1,x::r=>x::pT n r
def nY {α:Type}:Nat→List α→List α
 |0,l=>l
 |_,[]=>[]
 |n+1,_::r=>nY n r
def gv {α:Type}:List α→Nat
 |[]=>0
 |_::r=>gv r+1
def iZ {α:Type}:List α→Nat→List α→List α
 |l,_,[]=>l
 |[],_,_=>[]
 |_::r,0,y::n=>y::iZ r 0 n
 |x::r,i+1,y::n=>x::iZ r i (y::n)
theorem jA {α:Type}(l:List α)(n:Nat):nth l n=l[n]?:=by
 induction l generalizing n with
 |nil=>simp[nth]
 |cons x r ih=>cases n<;>simp[nth,ih]
theorem GD {α:Type}(l:List α)(n:Nat):pT n l=l.take n:=by
 induction l generalizing n with
 |nil=>cases n<;>simp[pT]
 |cons x r ih=>cases n<;>simp[pT,ih]
theorem As {α:Type}(l:List α)(n:Nat):nY n l=l.drop n:=by
 induction l generalizing n with
 |nil=>cases n<;>simp[nY]
 |cons x r ih=>cases n<;>simp[nY,ih]
theorem ng {α:Type}(l:List α):gv l=l.length:=by
 induction l with
 |nil=>rfl
 |cons x r ih=>simp[gv,ih]
theorem SD {α:Type}(l:List α)(i:Nat)(n:List α)(h:i+n.length≤l.length):iZ l i n=l.take i++n++l.drop (i+n.length):=by
 induction l generalizing i n with
 |nil=>cases n with
  |nil=>simp[iZ]
  |cons y n=>simp at h
 |cons x r ih =>
  cases n with
  |nil=>simp[iZ]
  |cons y n =>
   cases i with
   |zero=>simp[iZ];simp at h;rw[ih 0 n (by omega)];simp
   |succ i =>
    simp at h
    simp only[iZ]
    rw[ih i (y::n) (by simp;omega)]
    have e:i+1+(n.length+1)=(i+(n.length+1))+1:=by omega
    simp[e]
theorem j8 {ρ:Env}{l:List SV}{vs:List Value}(h:ai ρ l=some vs):vs.length=l.length:=by
 induction l generalizing vs with
 |nil=>simp[ai] at h;simp[h]
 |cons x r ih =>
  simp only[ai] at h
  cases e:den ρ x with
  |none=>simp[e] at h
  |some u =>
   cases e2:ai ρ r with
   |none=>simp[e,e2] at h
   |some us=>simp[e,e2] at h;subst h;simp[ih e2]
theorem jP {ρ:Env}{x:SV}{r:List SV}{vs:List Value}(h:ai ρ (x::r)=some vs):∃u us,den ρ x=some u∧ai ρ r=some us∧vs=u::us:=by
 simp only[ai] at h
 cases e:den ρ x with
 |none=>simp[e] at h
 |some u =>
  cases e2:ai ρ r with
  |none=>simp[e,e2] at h
  |some us=>simp[e,e2] at h;exact⟨u,us,rfl,rfl,h.symm⟩
theorem oW {ρ:Env}{x:SV}{r:List SV}{u:Value}{us:List Value}(h:den ρ x=some u)(k:ai ρ r=some us):ai ρ (x::r)=some (u::us):=by
 simp[ai,h,k]
theorem HL {ρ:Env}{l:List SV}{vs:List Value}(h:ai ρ l=some vs){i:Nat}{s:SV}(hs:l[i]?=some s):∃v,vs[i]?=some v∧den ρ s=some v:=by
 induction l generalizing vs i with
 |nil=>simp at hs
 |cons x r ih =>
  obtain⟨u,us,h1,h2,rfl⟩:=jP h
  cases i with
  |zero=>simp at hs;subst hs;exact⟨u,by simp,h1⟩
  |succ i=>simp at hs;obtain⟨v,h3,h4⟩:=ih h2 hs;exact⟨v,by simpa using h3,h4⟩
theorem sE {ρ:Env}{l m:List SV}{vs us:List Value}(h:ai ρ l=some vs)(k:ai ρ m=some us):ai ρ (l++m)=some (vs++us):=by
 induction l generalizing vs with
 |nil=>simp[ai] at h;subst h;simpa using k
 |cons x r ih =>
  obtain⟨u,xr,h1,h2,rfl⟩:=jP h
  exact oW h1 (ih h2)
theorem Ap {ρ:Env}{l:List SV}{vs:List Value}(h:ai ρ l=some vs)(n:Nat):ai ρ (l.take n)=some (vs.take n):=by
 induction l generalizing vs n with
 |nil=>simp[ai] at h;subst h;simp[ai]
 |cons x r ih =>
  obtain⟨u,us,h1,h2,rfl⟩:=jP h
  cases n with
  |zero=>simp[ai]
  |succ n=>exact oW h1 (ih h2 n)
theorem Am {ρ:Env}{l:List SV}{vs:List Value}(h:ai ρ l=some vs)(n:Nat):ai ρ (l.drop n)=some (vs.drop n):=by
 induction l generalizing vs n with
 |nil=>simp[ai] at h;subst h;simp[ai]
 |cons x r ih =>
  obtain⟨u,us,h1,h2,rfl⟩:=jP h
  cases n with
  |zero=>simpa using h
  |succ n=>simpa using ih h2 n
theorem Ao {ρ:Env}{l m:List SV}{vs us:List Value}(h:ai ρ l=some vs)(k:ai ρ m=some us)(i:Nat)(hi:i+m.length≤l.length) :
  ai ρ (iZ l i m)=some (vs.take i++us++vs.drop (i+us.length)):=by
 rw[SD _ _ _ hi]
 have:=sE (sE (Ap h i) k) (Am h (i+m.length))
 rw[j8 k]
 exact this
def jb:SV→Option (List SV)
 |.agg l=>some l
 |.bn _=>none
 |x=>some [x]
theorem VI {v:Value}(h:v.oneCell'=true):v.cells=#[v]:=by
 cases v<;>first|rfl|(simp[Value.oneCell'] at h)
theorem VY {ρ:Env}{x:SV}{l:List SV}{v:Value}(h:jb x=some l)(hl:∀m,x≠.agg m)(hd:den ρ x=some v):l=[x]∧v.oneCell'=true:=by
 cases x with
 |ss id off len lc =>
  simp only[jb] at h;cases h
  simp only[den] at hd
  split at hd
  ·rename_i nm _
   cases nm with
   |bO b=>simp only[partOf] at hd;cases hd;exact⟨rfl,rfl⟩
   |sl a n c s =>
    cases a with
    |none=>simp only[partOf] at hd;cases hd
    |some ad =>
     simp only[partOf] at hd
     split at hd
     ·cases hd;exact⟨rfl,rfl⟩
     ·cases hd
   |row b n c s =>
    simp only[partOf] at hd
    split at hd
    ·cases hd;exact⟨rfl,rfl⟩
    ·cases hd
  ·cases hd
 |agg m=>exact absurd rfl (hl m)
 |bn m=>cases h
 |sv y =>
  simp only[jb] at h;cases h
  simp only[den] at hd
  split at hd
  ·rename_i ho;cases hd;exact⟨rfl,ho⟩
  ·cases hd
 |si k n=>simp only[jb] at h;cases h;simp only[den] at hd;cases hd;exact⟨rfl,rfl⟩
 |sb p=>simp only[jb] at h;cases h;simp only[den] at hd;cases hd;exact⟨rfl,rfl⟩
 |sp id off =>
  simp only[jb] at h;cases h
  simp only[den] at hd
  split at hd<;>cases hd
  exact⟨rfl,rfl⟩
 |se id i off =>
  simp only[jb] at h;cases h
  simp only[den] at hd
  split at hd
  ·split at hd<;>cases hd
   exact⟨rfl,rfl⟩
  ·split at hd<;>cases hd
   exact⟨rfl,rfl⟩
  ·cases hd
 |sl id =>
  simp only[jb] at h;cases h
  simp only[den] at hd
  split at hd<;>cases hd<;>exact⟨rfl,rfl⟩
 |sm id =>
  simp only[jb] at h;cases h
  simp only[den] at hd
  split at hd<;>cases hd
  exact⟨rfl,rfl⟩
 |fy id =>
  simp only[jb] at h;cases h
  simp only[den] at hd
  split at hd<;>cases hd
  exact⟨rfl,rfl⟩
 |fn f a b =>
  simp only[jb] at h;cases h
  simp only[den] at hd
  split at hd<;>cases hd
  exact⟨rfl,rfl⟩
 |cg t y =>
  simp only[jb] at h;cases h
  simp only[den] at hd
  split at hd<;>cases hd
  exact⟨rfl,rfl⟩
theorem Ag {ρ:Env}{x:SV}{l:List SV}{v:Value}(h:jb x=some l)(hd:den ρ x=some v) :
  ∃vs,ai ρ l=some vs∧vs.all (·.oneCell')=true∧v.cells=vs.toArray:=by
 by_cases hx:∃m,x=.agg m
 ·obtain⟨m,rfl⟩:=hx
  simp only[jb,Option.some.injEq] at h
  subst h
  simp only[den] at hd
  cases e:ai ρ m with
  |none=>simp[e] at hd
  |some vs =>
   simp only[e] at hd
   split at hd
   ·rename_i ha
    cases hd
    exact⟨vs,rfl,ha,rfl⟩
   ·cases hd
 ·obtain⟨rfl,h1⟩:=VY h (λm e=>hx ⟨m,e⟩) hd
  exact⟨[v],oW hd rfl,by simp[h1],by simp[VI h1]⟩
def hU (agg:Bool)(size off:Nat)(cs:List SV):Option SV :=
 match agg with
 |true=>if Nat.beq (gv (pT size (nY off cs))) size then some (.agg (pT size (nY off cs))) else none
 |false=>nth cs off
theorem QZ {ρ:Env}{ag:Bool}{size off:Nat}{cs:List SV}{vs:List Value}{s:SV}(h:hU ag size off cs=some s)(hd:ai ρ cs=some vs)(ha:vs.all (·.oneCell')=true) :
  (ag=true→((vs.drop off).take size).length=size∧den ρ s=some (.agg ((vs.drop off).take size).toArray))∧(ag=false→∃v,vs[off]?=some v∧den ρ s=some v):=by
 constructor
 ·rintro rfl
  simp only[hU] at h
  split at h
  ·rename_i hl
   cases h
   rw[GD,As] at hl ⊢
   have eu:=Ap (Am hd off) size
   rw[ng] at hl
   have iF:((cs.drop off).take size).length=size:=by simpa using hl
   refine⟨by rw[j8 eu,iF],?_⟩
   simp only[den,eu]
   rw[if_pos]
   rw[List.all_eq_true] at ha ⊢
   intro x hx
   exact ha x (List.mem_of_mem_drop (List.mem_of_mem_take hx))
  ·cases h
 ·rintro rfl
  simp only[hU,jA] at h
  exact HL hd h
variable {P:Program}{T:cf}
theorem Ch (hT:dy P T){t:Nat}{ti:TI}(h:T t=some ti){w:World}{ad:Addr}{ρ:Env}{cs:List SV}{vs:List Value}{off:Nat}{s:SV}
  (hl:hU (ig ti.desc) ti.size off cs=some s) (hd:ai ρ cs=some vs) (ha:vs.all (·.oneCell')=true)
  (hc:∀j v,vs[off+j]?=some v→w.cell? (ad.add j)=some v):∃v,(loadVar t ad).run P w=.ok v w∧den ρ s=some v:=by
 obtain⟨h1,h2⟩:=QZ hl hd ha
 cases sQ:ig ti.desc with
 |true =>
  obtain⟨hlen,uw⟩:=h1 sQ
  refine⟨_,?_,uw⟩
  have hr:=run_loadCells_list (P:=P) w ad ((vs.drop off).take ti.size) (λj v hj=>by
   rw[List.getElem?_take] at hj
   split at hj
   ·rw[List.getElem?_drop] at hj;exact hc j v hj
   ·cases hj)
  rw[hlen] at hr
  simp[loadVar,Gh hT h,sQ,lL hT h,hr,Result.andThen]
 |false =>
  obtain⟨v,hv,uw⟩:=h2 sQ
  refine⟨v,?_,uw⟩
  have:=hc 0 v (by simpa using hv)
  have e:ad.add 0=ad:=by simp[Addr.add]
  rw[e] at this
  simp[loadVar,Gh hT h,sQ,Result.andThen,this]
theorem SU (hT:dy P T){t:Nat}{ti:TI}(h:T t=some ti){w:World}{nm off TT:Nat}{v:Value}{us vs:List Value}
  (hv:v.cells=us.toArray) (hlen:us.length=ti.size) (ha:us.all (·.oneCell')=true)
  (hg:w.heap[nm]?=some (.cells vs.toArray TT (0,0))) (dI:off+us.length≤vs.length) :
  (storeVar t ⟨nm,off,none⟩ v).run P w=.ok () (w.setRow nm (vs.take off++us++vs.drop (off+us.length)).toArray):=by
 have hs:=run_storeCells_at P nm off TT us 0 vs.toArray w hg (by simpa using dI) (by rw[List.all_eq_true] at ha;exact ha)
 simp only[Nat.add_zero,List.size_toArray] at hs
 simp[storeVar,hv,lL hT h,hlen,Result.andThen,hs]
theorem I9 (w:World)(g:Nat)(cs:Array Value)(k:Nat)(h:k≠g):(w.setRow g cs).heap[k]?=w.heap[k]?:=by
 show(w.heap.modify g _)[k]?=_
 rw[Array.getElem?_modify]
 simp[Ne.symm h]
theorem size_setRow (w:World)(g:Nat)(cs:Array Value):(w.setRow g cs).heap.size=w.heap.size:=by
 show(w.heap.modify g _).size=_
 simp
theorem WK (hT:dy P T){f:Field}{ti:TI}(h:T f.type=some ti)(hs:ti.size≠0)(ad:Addr)(w:World) :
  (fieldPlace ad f).run P w=.ok (ad.add f.offset) w:=by
 simp[fieldPlace,lL hT h,hs,Result.andThen]
theorem KT (hT:dy P T){t:Nat}{ti:TI}(h:T t=some ti){ρ:Env}{cs:List SV}{vs:List Value}{off:Nat}{s:SV}
  (hl:hU (ig ti.desc) ti.size off cs=some s) (hd:ai ρ cs=some vs) (ha:vs.all (·.oneCell')=true) (w:World) :
  ∃v,(part t vs.toArray off).run P w=.ok v w∧den ρ s=some v:=by
 obtain⟨h1,h2⟩:=QZ hl hd ha
 cases sQ:ig ti.desc with
 |true =>
  obtain⟨hlen,uw⟩:=h1 sQ
  refine⟨_,?_,uw⟩
  simp[part,Gh hT h,sQ,lL hT h,Result.andThen]
  done
 |false =>
  obtain⟨v,hv,uw⟩:=h2 sQ
  exact⟨v,by simp[part,Gh hT h,sQ,Result.andThen,hv],uw⟩
def ae:IntKind→Int→Prop
 |.i64,n=>-9223372036854775808≤n∧n≤9223372036854775807
 |.u64,n=>0≤n∧n≤18446744073709551615
 |.i32,n=>-2147483648≤n∧n≤2147483647
 |.u32,n=>0≤n∧n≤4294967295
 |.i16,n=>-32768≤n∧n≤32767
 |.u16,n=>0≤n∧n≤65535
 |.i8,n=>-128≤n∧n≤127
 |.u8,n=>0≤n∧n≤255
theorem qS {k:IntKind}{n:Int}(h:ae k n):k.wrap n=n:=by
 cases k<;>simp only[ae] at h<;>simp[IntKind.wrap,IntKind.bits,IntKind.signed]<;>omega
def arith (op:BinOp)(k:IntKind)(a b:Int):Option (Option Prop × SV) :=
 match op with
 |.add=>some (some (ae k (a+b)),.si k (a+b))
 |.sub=>some (some (ae k (a-b)),.si k (a-b))
 |.mul=>some (some (ae k (a*b)),.si k (a*b))
 |.quo=>some (some (b≠0∧ae k (a.tdiv b)),.si k (a.tdiv b))
 |.rem=>some (some (b≠0),.si k (a.tmod b))
 |.eql=>some (none,.sb (decide (a=b)))
 |.neq=>some (none,.sb (!decide (a=b)))
 |.lss=>some (none,.sb (decide (a<b)))
 |.leq=>some (none,.sb (decide (a≤b)))
 |.gtr=>some (none,.sb (decide (b<a)))
 |.geq=>some (none,.sb (decide (b≤a)))
 |.and=>some (some (0≤a∧0≤b∧ae k a∧ae k b),.si k ((a.toNat &&& b.toNat:Nat):Int))
 |.or=>some (some (0≤a∧0≤b∧ae k a∧ae k b),.si k ((a.toNat ||| b.toNat:Nat):Int))
 |.andNot=>some (some (0≤a∧0≤b∧ae k a∧ae k b),.si k ((a.toNat-(a.toNat &&& b.toNat):Nat):Int))
 |_=>none
theorem xQ {n:Nat}{a:Int}(h0:0≤a)(h:a<2 ^ n):(BitVec.ofInt n a).toNat=a.toNat:=by
 rw[BitVec.toNat_ofInt]
 have e:a % ((2 ^ n:Nat):Int)=a:=Int.emod_eq_of_lt h0 (by push_cast;exact h)
 rw[e]
theorem yL {k:IntKind}{a:Int}(h:ae k a):a<2 ^ k.bits:=by
 cases k<;>simp only[ae] at h<;>simp[IntKind.bits]<;>omega
theorem Qk {k:IntKind}{a b:Int}(h:ae k a)(h0:0≤b)(hb:b≤a):ae k b:=by
 cases k<;>simp only[ae] at h ⊢<;>omega
theorem abM {k:IntKind}{a b:Int}(ha:ae k a)(hb:ae k b)(h0:0≤a)(h1:0≤b):ae k ((a.toNat ||| b.toNat:Nat):Int):=by
 cases k<;>simp only[ae] at ha hb ⊢
 case i64=>have:=Nat.or_lt_two_pow (n:=63) (x:=a.toNat) (y:=b.toNat) (by omega) (by omega);omega
 case u64=>have:=Nat.or_lt_two_pow (n:=64) (x:=a.toNat) (y:=b.toNat) (by omega) (by omega);omega
 case i32=>have:=Nat.or_lt_two_pow (n:=31) (x:=a.toNat) (y:=b.toNat) (by omega) (by omega);omega
 case u32=>have:=Nat.or_lt_two_pow (n:=32) (x:=a.toNat) (y:=b.toNat) (by omega) (by omega);omega
 case i16=>have:=Nat.or_lt_two_pow (n:=15) (x:=a.toNat) (y:=b.toNat) (by omega) (by omega);omega
 case u16=>have:=Nat.or_lt_two_pow (n:=16) (x:=a.toNat) (y:=b.toNat) (by omega) (by omega);omega
 case i8=>have:=Nat.or_lt_two_pow (n:=7) (x:=a.toNat) (y:=b.toNat) (by omega) (by omega);omega
 case u8=>have:=Nat.or_lt_two_pow (n:=8) (x:=a.toNat) (y:=b.toNat) (by omega) (by omega);omega
theorem Ue {n:Nat}(x y:BitVec n):(x &&& ~~~y).toNat=x.toNat-(x.toNat &&& y.toNat):=by
 have e:(x &&& ~~~y)+(x &&& y)=x:=by
  rw[BitVec.add_eq_or_of_and_eq_zero]
  ·ext i hi
   simp only[BitVec.getElem_or,BitVec.getElem_and,BitVec.getElem_not]
   cases x[i]<;>cases y[i]<;>rfl
  ·ext i hi
   simp only[BitVec.getElem_and,BitVec.getElem_not,BitVec.getElem_zero]
   cases x[i]<;>cases y[i]<;>rfl
 have h2:(x &&& ~~~y)=x-(x &&& y):=by rw[←BitVec.add_sub_cancel (x &&& ~~~y) (x &&& y),e]
 rw[h2,BitVec.toNat_sub_of_le (by rw[BitVec.le_def,BitVec.toNat_and];exact Nat.and_le_left),BitVec.toNat_and]
theorem Up (op:BinOp)(t:Nat)(k:IntKind)(a b:Int){p:Option Prop}{s:SV}(h:arith op k a b=some (p,s))(hp:fc p)(ρ:Env)(w:World) :
  ∃v,(binOp op t (.int k a) (.int k b)).run P w=.ok v w∧den ρ s=some v:=by
 cases op<;>simp only[arith,Option.some.injEq,Prod.mk.injEq,reduceCtorEq] at h<;>obtain⟨rfl,rfl⟩:=h<;>simp only[fc] at hp
 case add=>exact⟨_,by simp[binOp,Op.intArith,qS hp],rfl⟩
 case sub=>exact⟨_,by simp[binOp,Op.intArith,qS hp],rfl⟩
 case mul=>exact⟨_,by simp[binOp,Op.intArith,qS hp],rfl⟩
 case quo=>exact⟨_,by simp[binOp,Op.intDiv,qS hp.2,hp.1],rfl⟩
 case rem=>exact⟨_,by simp[binOp,Op.intDiv,hp],rfl⟩
 case eql=>exact⟨_,by simp[binOp,Op.intCmp];rfl,by simp[den];rfl⟩
 case neq=>exact⟨_,by simp[binOp,Op.intCmp];rfl,by simp[den,bne];rfl⟩
 case lss=>exact⟨_,by simp[binOp,Op.intCmp],rfl⟩
 case leq=>exact⟨_,by simp[binOp,Op.intCmp],rfl⟩
 case gtr=>exact⟨_,by simp[binOp,Op.intCmp],rfl⟩
 case geq=>exact⟨_,by simp[binOp,Op.intCmp],rfl⟩
 case and =>
  obtain⟨h0,h1,h2,h3⟩:=hp
  refine⟨_,?_,rfl⟩
  have e:(BitVec.ofInt k.bits a &&& BitVec.ofInt k.bits b).toNat=a.toNat &&& b.toNat:=by
   rw[BitVec.toNat_and,xQ h0 (yL h2),xQ h1 (yL h3)]
  have hle:a.toNat &&& b.toNat≤a.toNat:=Nat.and_le_left
  simp only[binOp,Op.intBits,if_neg (show ¬k≠k from λh=>h rfl),e]
  rw[qS (Qk h2 (by omega) (by omega))]
  rfl
 case andNot =>
  obtain⟨h0,h1,h2,h3⟩:=hp
  refine⟨_,?_,rfl⟩
  have e:(BitVec.ofInt k.bits a &&& ~~~ BitVec.ofInt k.bits b).toNat=a.toNat-(a.toNat &&& b.toNat):=by
   rw[Ue,xQ h0 (yL h2),xQ h1 (yL h3)]
  simp only[binOp,Op.intBits,if_neg (show ¬k≠k from λh=>h rfl),e]
  rw[qS (Qk h2 (by omega) (by omega))]
  rfl
 case or =>
  obtain⟨h0,h1,h2,h3⟩:=hp
  refine⟨_,?_,rfl⟩
  have e:(BitVec.ofInt k.bits a ||| BitVec.ofInt k.bits b).toNat=a.toNat ||| b.toNat:=by
   rw[BitVec.toNat_or,xQ h0 (yL h2),xQ h1 (yL h3)]
  simp only[binOp,Op.intBits,if_neg (show ¬k≠k from λh=>h rfl),e]
  rw[qS (abM h2 h3 h0 h1)]
  rfl
def shift (op:BinOp)(k:IntKind)(a b:Int):Option (Option Prop × SV) :=
 match op with
 |.shl=>some (some (0≤b∧b.toNat≤k.bits∧ae k (a*2 ^ b.toNat)),.si k (a*2 ^ b.toNat))
 |.shr=>some (some (0≤b∧b.toNat≤k.bits),.si k (a.fdiv (2 ^ b.toNat)))
 |_=>none
theorem SF (op:BinOp)(t:Nat)(k k':IntKind)(a b:Int){p:Option Prop}{s:SV}(h:shift op k a b=some (p,s))(hp:fc p)(ρ:Env)(w:World) :
  ∃v,(binOp op t (.int k a) (.int k' b)).run P w=.ok v w∧den ρ s=some v:=by
 cases op<;>simp only[shift,Option.some.injEq,Prod.mk.injEq,reduceCtorEq] at h<;>obtain⟨rfl,rfl⟩:=h<;>simp only[fc] at hp
 case shl =>
  obtain⟨h0,h1,h2⟩:=hp
  have hm:min b.toNat k.bits=b.toNat:=Nat.min_eq_left h1
  have hn:¬b<0:=by omega
  refine⟨_,?_,rfl⟩
  simp only[binOp,Op.shift,hn,if_false,hm]
  rw[qS h2]
  rfl
 case shr =>
  obtain⟨h0,h1⟩:=hp
  have hm:min b.toNat k.bits=b.toNat:=Nat.min_eq_left h1
  have hn:¬b<0:=by omega
  refine⟨_,?_,rfl⟩
  simp only[binOp,Op.shift,hn,if_false,hm]
  rfl
theorem Wl (op:BinOp)(t:Nat)(x y:Operand)(k k':IntKind)(a b:Int)(w:World):(eqGuard op t x y (.int k a) (.int k' b)).run P w=.ok () w:=by
 cases op<;>simp[eqGuard]<;>rfl
theorem Wk (op:BinOp)(t:Nat)(x y:Operand)(a b:Bool)(w:World):(eqGuard op t x y (.bool a) (.bool b)).run P w=.ok () w:=by
 cases op<;>simp[eqGuard]<;>rfl
def La:IntKind→IntKind→Bool
 |.i64,.i64=>true
 |.u64,.u64=>true
 |.i32,.i32=>true
 |.u32,.u32=>true
 |.i16,.i16=>true
 |.u16,.u16=>true
 |.i8,.i8=>true
 |.u8,.u8=>true
 |_,_=>false
theorem Ss {a b:IntKind}(h:La a b=true):a=b:=by cases a<;>cases b<;>first|rfl|cases h
def ofValues:List Value→Option (List SV)
 |[]=>some []
 |x::r=>match ofValue x,ofValues r with
  |some s,some l=>some (s::l)
  |_,_=>none
theorem yW (ρ:Env){l:List Value}{s:List SV}(h:ofValues l=some s):ai ρ s=some l∧l.all (·.oneCell')=true:=by
 induction l generalizing s with
 |nil=>simp[ofValues] at h;subst h;exact⟨rfl,rfl⟩
 |cons x r ih =>
  simp only[ofValues] at h
  cases e:ofValue x with
  |none=>simp[e] at h
  |some u =>
   cases e2:ofValues r with
   |none=>simp[e,e2] at h
   |some us =>
    simp[e,e2] at h;subst h
    obtain⟨h1,h2⟩:=ih e2
    refine⟨oW (FU ρ e) h1,?_⟩
    simp only[List.all_cons,h2,Bool.and_true]
    cases x<;>first|rfl|(simp[ofValue] at e)
def yj (T:cf)(fs:List Field)(F:LF)(π:GP):List (Nat × Operand)→List SV→Option (List SV)
 |[],z=>some z
 |(i,x)::r,z=>match nth fs i,ev F π x with
  |some f,some v=>(match T f.type,jb v with
   |some ti,some cs=>(match Nat.beq (gv cs) ti.size,Nat.ble (f.offset+gv cs) (gv z) with
    |true,true=>yj T fs F π r (iZ z f.offset cs)
    |_,_=>none)
   |_,_=>none)
  |_,_=>none
def uk (size:Nat)(F:LF)(π:GP):List (Nat × Operand)→List SV→Option (List SV)
 |[],z=>some z
 |(i,x)::r,z=>match ev F π x with
  |some v=>(match jb v with
   |some cs=>(match Nat.beq (gv cs) size,Nat.ble (i*size+gv cs) (gv z) with
    |true,true=>uk size F π r (iZ z (i*size) cs)
    |_,_=>none)
   |_=>none)
  |_=>none
def hasAll (T:cf):List Field→Bool
 |[]=>true
 |f::r=>match T f.type with
  |some _=>hasAll T r
  |none=>false
def la:Nat→List SV→List SV
 |0,_=>[]
 |n+1,z=>z++la n z
def isFalse:Operand→Bool
 |.const (.bool false)=>true
 |_=>false
def isTrue:Operand→Bool
 |.const (.bool true)=>true
 |_=>false
def KW (F:LF)(π:GP)(c x y:Operand):Option Out :=
 match c with
 |.tmp s=>(match ev F π c,isFalse y,isTrue x with
  |some (.sb p),true,_=>(match ev F ((s,true)::π) x with
   |some (.sb q)=>some ⟨none,.sb (p&&q),.no⟩
   |_=>none)
  |some (.sb p),false,true=>(match ev F ((s,false)::π) y with
   |some (.sb q)=>some ⟨none,.sb (p||q),.no⟩
   |_=>none)
  |_,_,_=>none)
 |_=>none
def nJ (F:LF)(π:GP):List Operand→Option (List SV)
 |[]=>some []
 |x::r=>match ev F π x,nJ F π r with
  |some v,some l=>some (v::l)
  |_,_=>none
def TA (k:IntKind)(n:Int):Int:=k.wrap n
def SH:IntKind→Bool
 |.i64=>true
 |.i32=>true
 |.i16=>true
 |.i8=>true
 |_=>false
def Az (T:cf)(g:TypeId→SV→SV→Option Bool):List Field→List SV→List SV→Option Bool
 |[],_,_=>some true
 |f::fs,xs,ys=>match T f.type with
  |some tf=>(match hU (ig tf.desc) tf.size f.offset xs,hU (ig tf.desc) tf.size f.offset ys with
   |some a,some b=>(match g f.type a b,Az T g fs xs ys with
    |some p,some q=>some (p&&q)
    |_,_=>none)
   |_,_=>none)
  |none=>none
def l5 (T:cf):Nat→TypeId→SV→SV→Option Bool
 |0,_,_,_=>none
 |d+1,t,x,y=>match T t with
  |some ti=>(match ti.desc,x,y with
   |.int _,.si k a,.si k' b=>(match La k k' with
    |true=>some (decide (a=b))
    |false=>none)
   |.bool,.sb p,.sb q=>some (p == q)
   |.struct fs,.agg xs,.agg ys=>(match ti.plain with
    |true=>Az T (l5 T d) fs.toList xs ys
    |false=>none)
   |_,_,_=>none)
  |none=>none
def yc (F:LF)(π:GP)(d:Int):Option Operand→Option Int
 |none=>some d
 |some x=>match ev F π x with
  |some (.si _ i)=>some i
  |_=>none
def KX (H:LH)(id:Nat):Option (Nat × Nat) :=
 match H id with
 |some (.ro s n _)=>some (s,n)
 |some (.row _ s n _)=>some (s,n)
 |some (.vec _ s n _)=>some (s,n)
 |_=>none
def core (T:cf)(F:LF)(π:GP)(H:LH)(fr:Nat)(op:Op):Option Out :=
 match op with
 |.move x=>(match ev F π x with
  |some v=>some ⟨none,v,.no⟩
  |none=>none)
 |.assign x=>(match ev F π x with
  |some v=>some ⟨none,v,.no⟩
  |none=>none)
 |.pick c x y=>KW F π c x y
 |.alloc t=>(match T t with
  |some ti=>(match ofValues ti.zero.cells.toList with
   |some z=>some ⟨none,.sp fr 0,.new (.cells t z)⟩
   |none=>none)
  |none=>none)
 |.box t x=>(match ev F π x with
  |some v=>(match jb v with
   |some cs=>some ⟨none,.sp fr 0,.new (.cells t cs)⟩
   |none=>none)
  |none=>none)
 |.build t ps=>(match T t with
  |some ti=>(match ti.desc,ofValues ti.zero.cells.toList with
   |.struct fs,some z=>(match hasAll T fs.toList with
    |true=>(match yj T fs.toList F π ps.toList z with
     |some l=>some ⟨none,.agg l,.no⟩
     |none=>none)
    |false=>none)
   |.array _ e,some z=>(match T e with
    |some te=>(match uk te.size F π ps.toList z with
     |some l=>some ⟨none,.agg l,.no⟩
     |none=>none)
    |none=>none)
   |_,_=>none)
  |none=>none)
 |.buildSlice t len ps=>(match T t with
  |some ti=>(match ti.desc with
   |.slice e=>(match T e with
    |some te=>(match ofValues te.zero.cells.toList,Nat.ble (len*te.size+len) 1000 with
     |some z,true=>(match Nat.beq (gv z) te.size,uk te.size F π ps.toList (la len z) with
      |true,some l=>some ⟨none,.sl fr,.new (.row e te.size len l)⟩
      |_,_=>none)
     |_,_=>none)
    |none=>none)
   |_=>none)
  |none=>none)
 |.load t x=>(match T t,ev F π x with
  |some ti,some (.sp id off)=>(match H id with
   |some (.cells _ cs)=>(match hU (ig ti.desc) ti.size off cs with
    |some s=>some ⟨none,s,.no⟩
    |none=>none)
   |_=>none)
  |some ti,some (.se id i off)=>(match H id with
   |some (.ro _ _ get)=>(match hU (ig ti.desc) ti.size off (get i.toNat) with
    |some s=>some ⟨none,s,.no⟩
    |none=>none)
   |some (.row _ size _ xs)=>(match hU (ig ti.desc) ti.size off (pT size (nY (i.toNat*size) xs)) with
    |some s=>some ⟨none,s,.no⟩
    |none=>none)
   |some (.vec _ _ _ get)=>(match hU (ig ti.desc) ti.size off (get i.toNat) with
    |some s=>some ⟨none,s,.no⟩
    |none=>none)
   |_=>none)
  |_,_=>none)
 |.store t x y=>(match T t,ev F π x,ev F π y with
  |some ti,some (.sp id off),some v=>(match H id,jb v with
   |some (.cells _ cw),some cs=>(match Nat.beq (gv cs) ti.size,Nat.ble (off+gv cs) (gv cw) with
    |true,true=>some ⟨none,.bn [],.st id off cs⟩
    |_,_=>none)
   |_,_=>none)
  |_,_,_=>none)
 |.fieldAddr t x f=>(match T t,ev F π x with
  |some ti,some (.sp id off)=>(match ti.desc with
   |.struct fs=>(match nth fs.toList f with
    |some fd=>(match T fd.type with
     |some tf=>(match tf.size with
      |0=>none
      |_+1=>some ⟨none,.sp id (off+fd.offset),.no⟩)
     |none=>none)
    |none=>none)
   |_=>none)
  |some ti,some (.se id i off)=>(match ti.desc with
   |.struct fs=>(match nth fs.toList f with
    |some fd=>(match T fd.type with
     |some tf=>(match tf.size with
      |0=>none
      |_+1=>some ⟨none,.se id i (off+fd.offset),.no⟩)
     |none=>none)
    |none=>none)
   |_=>none)
  |_,_=>none)
 |.field t x f=>(match T t,ev F π x with
  |some ti,some (.agg l)=>(match ti.desc with
   |.struct fs=>(match nth fs.toList f with
    |some fd=>(match T fd.type with
     |some tf=>(match hU (ig tf.desc) tf.size fd.offset l with
      |some s=>some ⟨none,s,.no⟩
      |none=>none)
     |none=>none)
    |none=>none)
   |_=>none)
  |_,_=>none)
 |.indexAddr t x y=>(match T t,ev F π x,ev F π y with
  |some ti,some (.sl id),some (.si _ i)=>(match ti.desc,H id with
   |.slice e,some (.ro size n _)=>(match T e with
    |some te=>(match Nat.beq te.size size with
     |true=>some ⟨some (0≤i∧i<(n:Int)),.se id i 0,.no⟩
     |false=>none)
    |none=>none)
   |.slice e,some (.row _ size n _)=>(match T e with
    |some te=>(match Nat.beq te.size size with
     |true=>some ⟨some (0≤i∧i<(n:Int)),.se id i 0,.no⟩
     |false=>none)
    |none=>none)
   |.slice e,some (.vec _ size n _)=>(match T e with
    |some te=>(match Nat.beq te.size size with
     |true=>some ⟨some (0≤i∧i<(n:Int)),.se id i 0,.no⟩
     |false=>none)
    |none=>none)
   |_,_=>none)
  |some ti,some (.sp id off),some (.si _ i)=>(match ti.desc with
   |.array len e=>(match T e with
    |some te=>some ⟨some (0≤i∧i<(len:Int)),.sp id (off+i.toNat*te.size),.no⟩
    |none=>none)
   |_=>none)
  |some ti,some (.ss id off m _),some (.si _ i)=>(match ti.desc,H id with
   |.slice e,some (.cells _ _)=>(match T e with
    |some te=>some ⟨some (0≤i∧i<(m:Int)),.sp id (off+i.toNat*te.size),.no⟩
    |none=>none)
   |_,_=>none)
  |_,_,_=>none)
 |.index t x y=>(match T t,ev F π x,ev F π y with
  |some ti,some (.agg l),some (.si _ i)=>(match ti.desc with
   |.array len e=>(match T e with
    |some te=>(match hU (ig te.desc) te.size (i.toNat*te.size) l with
     |some s=>some ⟨some (0≤i∧i<(len:Int)),s,.no⟩
     |none=>none)
    |none=>none)
   |_=>none)
  |_,_,_=>none)
 |.extract x i=>(match ev F π x with
  |some (.bn l)=>(match nth l i with
   |some s=>some ⟨none,s,.no⟩
   |none=>none)
  |_=>none)
 |.binOp op t x y _=>(match ev F π x,ev F π y with
  |some (.si k a),some (.si k' b)=>(match op with
   |.shl=>(match shift .shl k a b with
    |some (p,s)=>some ⟨p,s,.no⟩
    |none=>none)
   |.shr=>(match shift .shr k a b with
    |some (p,s)=>some ⟨p,s,.no⟩
    |none=>none)
   |op=>(match La k k',arith op k a b with
    |true,some (p,s)=>some ⟨p,s,.no⟩
    |_,_=>none))
  |some (.sb p),some (.sb q)=>(match T t with
   |some ti=>(match ti.desc,op with
    |.bool,.eql=>some ⟨none,.sb (p == q),.no⟩
    |.bool,.neq=>some ⟨none,.sb (!(p == q)),.no⟩
    |_,_=>none)
   |none=>none)
  |some (.agg l),some (.agg m)=>(match op,l5 T 9 t (.agg l) (.agg m),T t with
   |.eql,some p,some ti=>(match ti.plain with
    |true=>some ⟨none,.sb p,.no⟩
    |false=>none)
   |.neq,some p,some ti=>(match ti.plain with
    |true=>some ⟨none,.sb (!p),.no⟩
    |false=>none)
   |_,_,_=>none)
  |some (.cg _ _),some (.sv .nilIface)=>(match T t with
   |some ti=>(match ti.desc,op with
    |.interface _,.eql=>some ⟨none,.sb false,.no⟩
    |.interface _,.neq=>some ⟨none,.sb true,.no⟩
    |_,_=>none)
   |none=>none)
  |some (.sv .nilIface),some (.sv .nilIface)=>(match T t,y with
   |some ti,.const _=>(match ti.desc,op with
    |.interface _,.eql=>some ⟨none,.sb true,.no⟩
    |.interface _,.neq=>some ⟨none,.sb false,.no⟩
    |_,_=>none)
   |_,_=>none)
  |_,_=>none)
 |.typeAssert x _ asserted ok=>(match T asserted,ev F π x with
  |some ti,some (.cg t v)=>(match ti.desc with
   |.interface _=>none
   |_=>(match Nat.beq t asserted,ok with
    |true,true=>some ⟨none,.bn [v,.sb true],.no⟩
    |true,false=>some ⟨none,v,.no⟩
    |false,true=>(match ofValue ti.zero with
     |some z=>some ⟨none,.bn [z,.sb false],.no⟩
     |none=>none)
    |false,false=>none))
  |_,_=>none)
 |.unOp op _ x=>(match op,ev F π x with
  |.not,some (.sb p)=>some ⟨none,.sb (!p),.no⟩
  |.neg,some (.si k n)=>some ⟨some (ae k (0-n)),.si k (0-n),.no⟩
  |_,_=>none)
 |.convert s d x=>(match T s,T d,ev F π x with
  |some _,some td,some (.si k' n)=>(match td.desc with
   |.int k=>(match SH k',SH k with
    |true,false=>some ⟨none,.si k (TA k n),.no⟩
    |_,_=>some ⟨some (ae k n),.si k n,.no⟩)
   |_=>none)
  |_,_,_=>none)
 |.makeFunc f first ja=>(match nJ F π first.toList,nJ F π ja.toList with
  |some l,some m=>some ⟨none,.fn f l m,.no⟩
  |_,_=>none)
 |.makeInterface t x=>(match T t,ev F π x with
  |some ti,some v=>(match ti.desc with
   |.interface _=>none
   |_=>some ⟨none,.cg t v,.no⟩)
  |_,_=>none)
 |.nilCheck x=>(match ev F π x with
  |some (.sp id off)=>some ⟨none,.sp id off,.no⟩
  |some (.se id i off)=>some ⟨none,.se id i off,.no⟩
  |some (.fn (.method name) [.cg t v] ja)=>(match T t with
   |some ti=>some ⟨some (ti.Rj name=true),.fn (.method name) [.cg t v] ja,.no⟩
   |none=>none)
  |some (.fn (.func n) l m)=>some ⟨none,.fn (.func n) l m,.no⟩
  |_=>none)
 |.slice t x lo hi none=>(match T t,ev F π x,yc F π 0 lo with
  |some ti,some (.sl id),some i=>(match ti.desc,KX H id with
   |.slice e,some (size,n)=>(match T e,yc F π n hi with
    |some te,some j=>(match Nat.beq te.size size with
     |true=>some ⟨some (0≤i∧i≤j∧j≤(n:Int)∧0<n∧0<size),.ss id (i.toNat*size) (j-i).toNat 0,.no⟩
     |false=>none)
    |_,_=>none)
   |_,_=>none)
  |some ti,some (.sp id off),some i=>(match ti.desc with
   |.array len e=>(match T e,yc F π len hi with
    |some te,some j=>some ⟨some (0≤i∧i≤j∧j≤(len:Int)∧i<(len:Int)),.ss id (off+i.toNat*te.size) (j-i).toNat (len-i.toNat),.no⟩
    |_,_=>none)
   |_=>none)
  |_,_,_=>none)
 |.call c=>(match c.callee,c.args.toList,c.argTypes.toList with
  |.builtin .len,[x],[t]=>(match T t,ev F π x with
   |some ti,some (.sl id)=>(match ti.desc,H id with
    |.slice _,some (.ro _ n _)=>some ⟨none,.si .i64 n,.no⟩
    |.slice _,some (.row _ _ n _)=>some ⟨none,.si .i64 n,.no⟩
    |.slice _,some (.vec _ _ n _)=>some ⟨none,.si .i64 n,.no⟩
    |_,_=>none)
   |some ti,some (.sv (.slice none 0 0))=>(match ti.desc with
    |.slice _=>some ⟨none,.si .i64 0,.no⟩
    |_=>none)
   |some ti,some (.ss _ _ m _)=>(match ti.desc with
    |.slice _=>some ⟨none,.si .i64 m,.no⟩
    |_=>none)
   |_,_=>none)
  |.builtin .max,[x,y],_=>(match ev F π x,ev F π y with
   |some (.si k a),some (.si _ b)=>some ⟨none,.si k (max a b),.no⟩
   |_,_=>none)
  |.builtin .min,[x,y],_=>(match ev F π x,ev F π y with
   |some (.si k a),some (.si _ b)=>some ⟨none,.si k (min a b),.no⟩
   |_,_=>none)
  |.builtin .min,[x,y,z,u],_=>(match ev F π x,ev F π y,ev F π z,ev F π u with
   |some (.si k a),some (.si _ b),some (.si _ c),some (.si _ d)=>some ⟨none,.si k (min (min (min a b) c) d),.no⟩
   |_,_,_,_=>none)
  |_,_,_=>none)
 |_=>none
def sd (ρ:Env)(H:LH)(fr:Nat)(w:World)(nv:Result Next)(out:Out):Prop :=
 match out.bT with
 |.no=>∃v,nv=.ok (.value v) w∧den ρ out.v=some v
 |.new hb=>∃v nm o,nv=.ok (.value v) (w.alloc o)∧den (aq ρ fr nm) out.v=some v∧ao (aq ρ fr nm) (w.alloc o) hb nm ∧
   (∀b,nm.owner=some b→b=w.heap.size)∧(∀b,eX nm=some b→b=w.heap.size)∧∀s C,hb≠.ax s C
 |.st id off cs=>∃TT cw b w' us,H id=some (.cells TT cw)∧ρ id=some (.bO b)∧ai ρ cs=some us∧us.all (·.oneCell')=true∧off+cs.length≤cw.length ∧
   nv=.ok .skip w'∧w'.heap.size=w.heap.size∧(∀k,k≠b→w'.heap[k]?=w.heap[k]?) ∧
   (∀vs,ai ρ cw=some vs→w'.heap[b]?=some (.cells (vs.take off++us++vs.drop (off+us.length)).toArray TT (0,0)))∧dF w w'
section
variable {P:Program}{T:cf}{ρ:Env}{F:LF}{a:Act}{π:GP}{H:LH}{w:World}{fr:Nat}{o:Oper}{out:Out}
theorem gA {H:LH}{fr:Nat}{s:SV}{p:Option Prop}{v:Value}{nv:Result Next}(h:nv=.ok (.value v) w)(hd:den ρ s=some v) :
  sd ρ H fr w nv ⟨p,s,.no⟩:=⟨v,h,hd⟩
theorem Mp (ad:Addr):ad.add 0=ad:=by simp[Addr.add]
theorem nX {id off:Nat}{v:Value}(h:den ρ (.sp id off)=some v):∃nm,ρ id=some (.bO nm)∧v=.pointer (some ⟨nm,off,none⟩):=by
 simp only[den] at h
 split at h
 ·rename_i nm e;cases h;exact⟨nm,e,rfl⟩
 ·cases h
theorem yR (hT:dy P T)(hH:HM ρ H w){t:Nat}{ti:TI}(ht:T t=some ti){x:SV}{v:Value}(hd:den ρ x=some v){s:SV}
  (h:(match x with
   |.sp id off=>(match H id with
    |some (.cells _ cs)=>hU (ig ti.desc) ti.size off cs
    |_=>none)
   |.se id i off=>(match H id with
    |some (.ro _ _ get)=>hU (ig ti.desc) ti.size off (get i.toNat)
    |some (.row _ size _ xs)=>hU (ig ti.desc) ti.size off (pT size (nY (i.toNat*size) xs))
    |some (.vec _ _ _ get)=>hU (ig ti.desc) ti.size off (get i.toNat)
    |_=>none)
   |_=>none)=some s) :
  ∃u,(Instr.loadAt t v).run P w=.ok u w∧den ρ s=some u:=by
 cases x with
 |sp id off =>
  dsimp only at h
  split at h
  ·rename_i T' cs hf
   obtain⟨nm,hn,ap⟩:=hH.ok _ _ hf
   cases nm<;>simp only[ao] at ap
   rename_i nm
   obtain⟨vs,h1,h2,h3⟩:=ap
   obtain⟨ak,e,rfl⟩:=nX hd
   rw[hn] at e;cases e
   obtain⟨u,hu,hs⟩:=Ch hT ht (w:=w) (ad:=⟨nm,off,none⟩) h h1 h2 (λj v hj=>by
    simp only[World.cell?,zI]
    have e2:((⟨nm,off,none⟩:Addr).add j)=⟨nm,off+j,none⟩:=by unfold Addr.add;split<;>simp_all
    rw[e2,h3]
    simpa using hj)
   exact⟨u,by simpa [Instr.loadAt,Instr.sureAddr,Result.andThen] using hu,hs⟩
  ·cases h
 |se id i off =>
  dsimp only at h
  split at h
  ·rename_i sz n get hf
   obtain⟨nm,hn,ap⟩:=hH.ok _ _ hf
   cases nm<;>simp only[ao] at ap
   rename_i A n' c' s'
   obtain⟨rfl,rfl,_,h3⟩:=ap
   simp only[den,hn] at hd
   cases A with
   |none=>cases hd
   |some ad =>
    dsimp only at hd
    split at hd
    ·rename_i aG
     cases hd
     obtain⟨Dl,e,_,hc⟩:=h3 (by omega)
     cases e
     obtain⟨vs,h1,h2,h4,h5⟩:=hc i.toNat aG
     obtain⟨u,hu,hs⟩:=Ch hT ht (w:=w) (ad:=ad.add (i.toNat*s'+off)) h h1 h2 (λj v hj=>by
      rw[add_add,Nat.add_assoc]
      exact h5 _ v hj)
     exact⟨u,by simpa [Instr.loadAt,Instr.sureAddr,Result.andThen] using hu,hs⟩
    ·cases hd
  ·rename_i T' sz n xs hf
   obtain⟨nm,hn,ap⟩:=hH.ok _ _ hf
   cases nm<;>simp only[ao] at ap
   rename_i nm n' c' s'
   obtain⟨rfl,rfl,h3,vs,rest,h4,h5,h6,h7,h8⟩:=ap
   simp only[den,hn] at hd
   split at hd
   ·rename_i aG
    cases hd
    have uu:=Ap (Am h4 (i.toNat*s')) s'
    rw[GD,As] at h
    have cq:(((vs.drop (i.toNat*s')).take s').all (·.oneCell'))=true:=by
     rw[List.all_eq_true] at h5 ⊢
     exact λx hx=>h5 x (List.mem_of_mem_drop (List.mem_of_mem_take hx))
    obtain⟨u,hu,hs⟩:=Ch hT ht (w:=w) (ad:=⟨nm,i.toNat*s'+off,none⟩) h uu cq (λj v hj=>by
     have e2:((⟨nm,i.toNat*s'+off,none⟩:Addr).add j)=⟨nm,i.toNat*s'+off+j,none⟩:=by unfold Addr.add;split<;>simp_all
     simp only[World.cell?,zI]
     rw[e2,h8]
     rw[List.getElem?_take] at hj
     split at hj
     ·rw[List.getElem?_drop] at hj
      have hl:i.toNat*s'+(off+j)<vs.length:=by
       rcases Nat.lt_or_ge (i.toNat*s'+(off+j)) vs.length with h|h
       ·exact h
       ·rw[List.getElem?_eq_none h] at hj;cases hj
      simp only[List.getElem?_toArray,Option.isSome_none,Bool.false_eq_true,if_false]
      rw[List.getElem?_append_left (by omega),Nat.add_assoc]
      exact hj
     ·cases hj)
    exact⟨u,by simpa [Instr.loadAt,Instr.sureAddr,Result.andThen] using hu,hs⟩
   ·cases hd
  ·rename_i T' sz n get hf
   obtain⟨nm,hn,ap⟩:=hH.ok _ _ hf
   cases nm<;>simp only[ao] at ap
   ·obtain⟨rfl,rfl,rfl,rfl,rfl⟩:=ap
    simp only[den,hn] at hd
    cases hd
   rename_i nm n' c' s'
   obtain⟨rfl,rfl,h3,cells,h4,h5,h6⟩:=ap
   simp only[den,hn] at hd
   split at hd
   ·rename_i aG
    cases hd
    obtain⟨vs,h1,h2,h7,h8⟩:=h6 i.toNat aG
    obtain⟨u,hu,hs⟩:=Ch hT ht (w:=w) (ad:=⟨nm,i.toNat*s'+off,none⟩) h h1 h2 (λj v hj=>by
     have e2:((⟨nm,i.toNat*s'+off,none⟩:Addr).add j)=⟨nm,i.toNat*s'+off+j,none⟩:=by unfold Addr.add;split<;>simp_all
     simp only[World.cell?,zI]
     rw[e2,h4]
     have:=h8 _ _ hj
     simpa [Nat.add_assoc] using this)
    exact⟨u,by simpa [Instr.loadAt,Instr.sureAddr,Result.andThen] using hu,hs⟩
   ·cases hd
  ·cases h
 |_=>cases h
end
section
variable {P:Program}{T:cf}{ρ:Env}{F:LF}{a:Act}{π:GP}{H:LH}{w:World}{fr:Nat}{o:Oper}{out:Out}
theorem Ro {t:Nat}{v:Value}{l:List SV}{vs:List Value}(hl:ai ρ l=some vs)(ha:vs.all (·.oneCell')=true)(hv:v.cells=vs.toArray)(hf:ρ fr=none) :
  sd ρ H fr w (.ok (.value (.pointer (some ⟨w.heap.size,0,none⟩))) (w.alloc (.cells v.cells t))) ⟨none,.sp fr 0,.new (.cells t l)⟩:=by
 refine⟨_,.bO w.heap.size,_,rfl,?_,?_,?_,?_⟩
 ·simp[den,cj]
 ·refine⟨vs,fT (Ext.aq _ hf) _ _ hl,ha,?_⟩
  rw[hv];exact heap_alloc_new w _
 ·intro b hb;simp[Nm.owner] at hb;exact hb.symm
 ·exact⟨λb hb=>(by cases hb),λs C h=>(by cases h)⟩
theorem Sj (t:Nat)(v:Value)(w:World):(newVar t v).run P w=.ok ⟨w.heap.size,0,none⟩ (w.alloc (.cells v.cells t)):=by
 simp[newVar,newRow,Result.andThen]
theorem WY (us:List Value):∀(vz:List Value) (off k:Nat),off+k+us.length≤vz.length →
  (us.zipIdx k).foldl (λ(cs:Array Value) (x:Value × Nat)=>cs.setIfInBounds (off+x.2) x.1) vz.toArray=(vz.take (off+k)++us++vz.drop (off+k+us.length)).toArray:=by
 induction us with
 |nil=>intro vz off k h;simp
 |cons u us ih =>
  intro vz off k h
  simp only[List.length_cons] at h
  simp only[List.zipIdx_cons,List.foldl_cons,List.setIfInBounds_toArray]
  rw[ih _ off (k+1) (by simp;omega)]
  congr 1
  apply List.ext_getElem?
  intro j
  simp only[List.getElem?_append,List.length_append,List.length_take,List.length_set,List.getElem?_take,List.getElem?_set,List.getElem?_drop,List.length_cons]
  by_cases h1:j<off+k
  ·have e1:j<min (off+(k+1)) vz.length+us.length:=by omega
   have e2:j<min (off+(k+1)) vz.length:=by omega
   have e3:j<min (off+k) vz.length+(us.length+1):=by omega
   have e4:j<min (off+k) vz.length:=by omega
   have e5:j<off+(k+1):=by omega
   have e6:¬off+k=j:=by omega
   simp[e1,e2,e3,e4,e5,e6,h1]
  ·by_cases h2:j=off+k
   ·subst h2
    have e1:off+k<min (off+(k+1)) vz.length+us.length:=by omega
    have e2:off+k<min (off+(k+1)) vz.length:=by omega
    have e3:off+k<min (off+k) vz.length+(us.length+1):=by omega
    have e4:¬off+k<min (off+k) vz.length:=by omega
    have e5:off+k<vz.length:=by omega
    have e6:off+k<off+(k+1):=by omega
    have e7:off+k-min (off+k) vz.length=0:=by omega
    simp[e1,e2,e3,e4,e5,e6,e7]
   ·by_cases h3:j<off+k+us.length+1
    ·have e1:j<min (off+(k+1)) vz.length+us.length:=by omega
     have e2:¬j<min (off+(k+1)) vz.length:=by omega
     have e3:j<min (off+k) vz.length+(us.length+1):=by omega
     have e4:¬j<min (off+k) vz.length:=by omega
     have e5:j-min (off+k) vz.length=(j-min (off+(k+1)) vz.length)+1:=by omega
     simp[e1,e2,e3,e4,e5]
    ·have e1:¬j<min (off+(k+1)) vz.length+us.length:=by omega
     have e3:¬j<min (off+k) vz.length+(us.length+1):=by omega
     have e4:¬off+k=off+(k+1)+us.length+(j-(min (off+(k+1)) vz.length+us.length)):=by omega
     have e5:off+(k+1)+us.length+(j-(min (off+(k+1)) vz.length+us.length))=off+k+(us.length+1)+(j-(min (off+k) vz.length+(us.length+1))):=by omega
     simp[e1,e3,e4,e5]
     intro e6;omega
theorem Oz (vz us:List Value)(off:Nat)(h:off+us.length≤vz.length) :
  us.toArray.zipIdx.foldl (λcs (x:Value × Nat)=>cs.setIfInBounds (off+x.2) x.1) vz.toArray=(vz.take off++us++vz.drop (off+us.length)).toArray:=by
 have:=WY us vz off 0 (by omega)
 simpa using this
theorem WM {fs:List Field}(hF:FM ρ F a)(aW:bu a π)(pl:Nat→Option (Nat × Nat))(ta:∀(i:Nat)(f:Field),fs[i]?=some f→∀ti,T f.type=some ti→pl i=some (f.offset,ti.size)) :
  ∀(ps:List (Nat × Operand)) (z l:List SV) (vz:List Value),yj T fs F π ps z=some l→ai ρ z=some vz→vz.all (·.oneCell')=true →
   ∃vl,ai ρ l=some vl∧vl.all (·.oneCell')=true∧vl.length=vz.length ∧
    Instr.fill pl vz.toArray (ps.map λ(i,x)=>(i,a.eval x))=some vl.toArray:=by
 intro ps
 induction ps with
 |nil =>
  intro z l vz h hz ha
  simp only[yj,Option.some.injEq] at h
  subst h
  exact⟨vz,hz,ha,rfl,rfl⟩
 |cons q r ih =>
  intro z l vz h hz ha
  obtain⟨i,x⟩:=q
  simp only[yj] at h
  split at h
  ·rename_i f v e1 e2
   split at h
   ·rename_i ti cs e3 e4
    split at h
    ·rename_i e5 e6
     have hlen:gv cs=ti.size:=by simpa using e5
     have dI:f.offset+gv cs≤gv z:=by simpa using e6
     rw[ng] at hlen
     rw[ng,ng] at dI
     rw[jA] at e1
     have hv:=aQ hF aW e2
     obtain⟨us,hu,BQ,BR⟩:=Ag e4 hv
     have JU:=j8 hu
     have gY:=j8 hz
     have BV:=Ao hz hu f.offset dI
     obtain⟨vl,h1,h2,h3,h4⟩:=ih _ _ _ h BV (by
      rw[List.all_eq_true] at ha BQ ⊢
      intro y hy
      simp only[List.mem_append] at hy
      rcases hy with(hy|hy)|hy
      ·exact ha y (List.mem_of_mem_take hy)
      ·exact BQ y hy
      ·exact ha y (List.mem_of_mem_drop hy))
     refine⟨vl,h1,h2,by rw[h3];simp;omega,?_⟩
     simp only[List.map_cons,Instr.fill,ta i f e1 ti e3]
     have hc:¬((a.eval x).cells.size≠ti.size||decide (f.offset+(a.eval x).cells.size>vz.toArray.size))=true:=by
      rw[BR];simp;omega
     rw[if_neg (by simpa using hc)]
     rw[←h4]
     congr 1
     rw[BR]
     exact Oz vz us f.offset (by omega)
    ·cases h
   ·cases h
  ·cases h
theorem N_ {size:Nat}(hF:FM ρ F a)(aW:bu a π) :
  ∀(ps:List (Nat × Operand)) (z l:List SV) (vz:List Value),uk size F π ps z=some l→ai ρ z=some vz→vz.all (·.oneCell')=true →
   ∃vl,ai ρ l=some vl∧vl.all (·.oneCell')=true∧vl.length=vz.length ∧
    Instr.fill (λi=>some (i*size,size)) vz.toArray (ps.map λ(i,x)=>(i,a.eval x))=some vl.toArray:=by
 intro ps
 induction ps with
 |nil =>
  intro z l vz h hz ha
  simp only[uk,Option.some.injEq] at h
  subst h
  exact⟨vz,hz,ha,rfl,rfl⟩
 |cons q r ih =>
  intro z l vz h hz ha
  obtain⟨i,x⟩:=q
  simp only[uk] at h
  split at h
  ·rename_i v e2
   split at h
   ·rename_i cs e4
    split at h
    ·rename_i e5 e6
     have hlen:gv cs=size:=by simpa using e5
     have dI:i*size+gv cs≤gv z:=by simpa using e6
     rw[ng] at hlen
     rw[ng,ng] at dI
     have hv:=aQ hF aW e2
     obtain⟨us,hu,BQ,BR⟩:=Ag e4 hv
     have JU:=j8 hu
     have gY:=j8 hz
     have BV:=Ao hz hu (i*size) dI
     obtain⟨vl,h1,h2,h3,h4⟩:=ih _ _ _ h BV (by
      rw[List.all_eq_true] at ha BQ ⊢
      intro y hy
      simp only[List.mem_append] at hy
      rcases hy with(hy|hy)|hy
      ·exact ha y (List.mem_of_mem_take hy)
      ·exact BQ y hy
      ·exact ha y (List.mem_of_mem_drop hy))
     refine⟨vl,h1,h2,by rw[h3];simp;omega,?_⟩
     simp only[List.map_cons,Instr.fill]
     have hc:¬((a.eval x).cells.size≠size||decide (i*size+(a.eval x).cells.size>vz.toArray.size))=true:=by
      rw[BR];simp;omega
     rw[if_neg (by simpa using hc)]
     rw[←h4]
     congr 1
     rw[BR]
     exact Oz vz us (i*size) (by omega)
    ·cases h
   ·cases h
  ·cases h
def CC (T:cf)(f:Field):Nat × Nat:=(f.offset,match T f.type with|some ti=>ti.size|none=>0)
theorem acv {fs:List Field}(hT:dy P T)(h:hasAll T fs=true)(w:World) :
  (fs.mapM λ(f:Field)=>Functor.map (Prod.mk f.offset) (sizeOf f.type)).run P w=.ok (fs.map (CC T)) w:=by
 induction fs with
 |nil=>simp
 |cons f r ih =>
  simp only[hasAll] at h
  split at h
  ·rename_i ti e
   simp[List.mapM_cons,lL hT e,Result.andThen,ih h,e,CC]
  ·cases h
theorem UU (hT:dy P T)(hF:FM ρ F a)(aW:bu a π){t:Nat}{ti:TI}(ht:T t=some ti){fs:Array Field}(hd:ti.desc=.struct fs)
  {z l:List SV} (hz:ofValues ti.zero.cells.toList=some z) (uo:hasAll T fs.toList=true) {ps:Array (Nat × Operand)} (Bj:yj T fs.toList F π ps.toList z=some l) :
  ∃v,(Instr.build t (ps.map λ(i,x)=>(i,a.eval x))).run P w=.ok v w∧den ρ (.agg l)=some v:=by
 obtain⟨rF,lE⟩:=yW ρ hz
 obtain⟨vl,h1,h2,h3,h4⟩:=WM hF aW (λi=>((fs.toList.map (CC T)).toArray)[i]?)
  (λi f hi ti' ZP=>by simp[hi,ZP,CC]) ps.toList z l _ Bj rF lE
 refine⟨.agg vl.toArray,?_,by simp only[den,h1,h2,if_true]⟩
 have JZ:ti.zero.cells=(ti.zero.cells.toList).toArray:=by simp
 have Zl:=acv hT uo w
 have key:(Instr.build t (ps.map λ(i,x)=>(i,a.eval x))).run P w=match Instr.fill (((fs.toList.map (CC T)).toArray)[·]?) ti.zero.cells (ps.map λ(i,x)=>(i,a.eval x)).toList with
   |some cs=>.ok (.agg cs) w
   | none => .halt (.stuck "build: no such field, or a part of the wrong size") w := by
  simp only[Instr.build,Sem.run_bind,xe hT ht,Result.andThen,dX hT ht,hd,Array.mapM_eq_mapM_toList,Sem.run_map,bind_pure_comp,Zl]
  generalize Instr.fill _ _ _=q
  cases q<;>rfl
 rw[key,JZ,Array.toList_map,h4]
theorem UT (hT:dy P T)(hF:FM ρ F a)(aW:bu a π){t n e:Nat}{ti te:TI}(ht:T t=some ti)(hd:ti.desc=.array n e)(ff:T e=some te)
  {z l:List SV} (hz:ofValues ti.zero.cells.toList=some z) {ps:Array (Nat × Operand)} (Bj:uk te.size F π ps.toList z=some l) :
  ∃v,(Instr.build t (ps.map λ(i,x)=>(i,a.eval x))).run P w=.ok v w∧den ρ (.agg l)=some v:=by
 obtain⟨rF,lE⟩:=yW ρ hz
 obtain⟨vl,h1,h2,h3,h4⟩:=N_ hF aW ps.toList z l _ Bj rF lE
 refine⟨.agg vl.toArray,?_,by simp only[den,h1,h2,if_true]⟩
 have JZ:ti.zero.cells=(ti.zero.cells.toList).toArray:=by simp
 simp only[Instr.build,Sem.run_bind,xe hT ht,Result.andThen,dX hT ht,hd,lL hT ff,Array.toList_map]
 rw[JZ,h4]
 rfl
end
section
variable {P:Program}{T:cf}{ρ:Env}{F:LF}{a:Act}{π:GP}{H:LH}{w:World}{fr:Nat}{o:Oper}{out:Out}
theorem Gd (n:Nat)(z:List SV):(la n z).length=n*z.length:=by
 induction n with
 |zero=>simp[la]
 |succ n ih=>simp[la,ih,Nat.succ_mul,Nat.add_comm]
theorem ab2 (vz:List Value)(n:Nat)(cR:0<vz.length) :
  (List.range ((n+1)*vz.length)).map (λi=>vz.getD (i % vz.length) undef)=vz++(List.range (n*vz.length)).map (λi=>vz.getD (i % vz.length) undef):=by
 apply List.ext_getElem?
 intro j
 rw[List.getElem?_append]
 by_cases h1:j<vz.length
 ·have e1:j<(n+1)*vz.length:=by rw[Nat.succ_mul];omega
  rw[if_pos h1,List.getElem?_map,List.getElem?_range e1,Option.map_some,Nat.mod_eq_of_lt h1,List.getD_eq_getElem?_getD,List.getElem?_eq_getElem h1]
  rfl
 ·rw[if_neg h1]
  by_cases h2:j-vz.length<n*vz.length
  ·have e1:j<(n+1)*vz.length:=by rw[Nat.succ_mul];omega
   have e:j % vz.length=(j-vz.length) % vz.length:=Nat.mod_eq_sub_mod (by omega)
   rw[List.getElem?_map,List.getElem?_map,List.getElem?_range h2,List.getElem?_range e1,Option.map_some,Option.map_some,e]
  ·have e1:¬j<(n+1)*vz.length:=by rw[Nat.succ_mul];omega
   rw[List.getElem?_eq_none (by simpa using e1),List.getElem?_eq_none (by simpa using h2)]
theorem Sa {z:List SV}{vz:List Value}(hz:ai ρ z=some vz)(cR:0<vz.length)(n:Nat) :
  ai ρ (la n z)=some ((List.range (n*vz.length)).map λi=>vz.getD (i % vz.length) undef):=by
 induction n with
 |zero=>simp[la,ai]
 |succ n ih=>rw[ab2 vz n cR,la];exact sE hz ih
theorem cy {s:Sem Value}{x:Value}{w':World}(h:s.run P w=.ok x w'):(do pure (Next.value (←s)):Sem Next).run P w=.ok (.value x) w':=by
 rw[Sem.run_bind,h];rfl
theorem K_ {s:Sem Unit}{w':World}(h:s.run P w=.ok () w'):(do s;pure Next.skip:Sem Next).run P w=.ok .skip w':=by
 rw[Sem.run_bind,h];rfl
theorem R_ (zs:Array Value)(n:Nat):((Array.range n).map (zs[· % zs.size]!))=((List.range n).map λi=>zs.toList.getD (i % zs.toList.length) default).toArray:=by
 apply Array.ext'
 simp[List.getD_eq_getElem?_getD,Array.getElem!_eq_getD,Array.getD_eq_getD_getElem?]
theorem US (hT:dy P T)(hF:FM ρ F a)(aW:bu a π)(hf:ρ fr=none){t e len:Nat}{ti te:TI}(ht:T t=some ti)(hd:ti.desc=.slice e)(ff:T e=some te)
  {z l:List SV} (hz:ofValues te.zero.cells.toList=some z) (hb:len*te.size+len≤1000) (gY:gv z=te.size)
  {ps:Array (Nat × Operand)} (Bj:uk te.size F π ps.toList (la len z)=some l) :
  sd ρ H fr w ((do pure (Next.value (←Instr.buildSlice t len (ps.map λ(i,x)=>(i,a.eval x)))):Sem Next).run P w) ⟨none,.sl fr,.new (.row e te.size len l)⟩:=by
 obtain⟨rF,lE⟩:=yW ρ hz
 have hlen:=j8 rF
 rw[ng] at gY
 obtain⟨vz,uK,E8,pE⟩:∃vz,ai ρ (la len z)=some vz∧vz.all (·.oneCell')=true ∧
   (Array.range (len*te.size)).map ((if len*te.size=0 then #[] else te.zero.cells)[· % (if len*te.size=0 then #[] else te.zero.cells).size]!)=vz.toArray:=by
  by_cases h0:len*te.size=0
  ·refine⟨[],?_,rfl,by simp[h0]⟩
   have hr:(la len z).length=0:=by rw[Gd,gY];exact h0
   rw[List.eq_nil_of_length_eq_zero hr];rfl
  ·have cR:0<te.zero.cells.toList.length:=by
    rw[hlen,gY]
    rcases Nat.eq_zero_or_pos te.size with h|h
    ·rw[h] at h0;simp at h0
    ·exact h
   refine⟨_,Sa rF cR len,?_,?_⟩
   ·rw[List.all_eq_true] at lE ⊢
    intro x hx
    obtain⟨i,hi,rfl⟩:=List.mem_map.1 hx
    have aG:i % te.zero.cells.toList.length<te.zero.cells.toList.length:=Nat.mod_lt _ cR
    rw[List.getD_eq_getElem?_getD,List.getElem?_eq_getElem aG]
    exact lE _ (List.getElem_mem aG)
   ·rw[if_neg h0,R_,hlen,gY]
    congr 1
    apply List.map_congr_left
    intro i hi
    have aG:i % te.size<te.zero.cells.toList.length:=by
     rw[hlen,gY];exact Nat.mod_lt _ (by rw[hlen,gY] at cR;exact cR)
    rw[List.getD_eq_getElem?_getD,List.getD_eq_getElem?_getD,List.getElem?_eq_getElem aG]
    rfl
 obtain⟨vl,h1,h2,h3,h4⟩:=N_ hF aW ps.toList _ l _ Bj uK E8
 have BS:vl.length=len*te.size:=by rw[h3,j8 uK,Gd,gY]
 refine⟨.slice (some ⟨w.heap.size,0,none⟩) len len,.row w.heap.size len len te.size,.cells vl.toArray e,?_,?_,?_,?_,?_⟩
 ·refine cy ?_
  have Pj:¬len*te.size>2 ^ 24:=by omega
  by_cases h0:len*te.size=0
  ·rw[if_pos h0] at pE
   simp only[Instr.buildSlice,Sem.run_bind,dX hT ht,Result.andThen,hd,lL hT ff,if_neg Pj,if_pos h0,Sem.run_pure,pE,Array.toList_map,h4]
   rfl
  ·rw[if_neg h0] at pE
   simp only[Instr.buildSlice,Sem.run_bind,dX hT ht,Result.andThen,hd,lL hT ff,if_neg Pj,if_neg h0,Sem.run_pure,xe hT ff,pE,Array.toList_map,h4]
   rfl
 ·simp[den,cj]
 ·refine⟨rfl,rfl,⟨Nat.le_refl _,by unfold maxLen;omega⟩,vl,[],fT (Ext.aq _ hf) _ _ h1,h2,BS,by simp,?_⟩
  rw[List.append_nil]
  exact heap_alloc_new w _
 ·intro b hb;simp[Nm.owner] at hb;exact hb.symm
 ·exact⟨λb hb=>(by cases hb),λs C h=>(by cases h)⟩
end
section
variable {P:Program}{T:cf}{ρ:Env}{F:LF}{a:Act}{π:GP}{H:LH}{w:World}{fr:Nat}{o:Oper}{out:Out}
theorem NH {id off:Nat}{i:Int}{v:Value}(h:den ρ (.se id i off)=some v) :
  (∃ad n c s,ρ id=some (.sl (some ad) n c s)∧i.toNat<n∧v=.pointer (some (ad.add (i.toNat*s+off)))) ∨
  (∃nm n c s,ρ id=some (.row nm n c s)∧i.toNat<n∧v=.pointer (some ⟨nm,i.toNat*s+off,none⟩)):=by
 simp only[den] at h
 split at h
 ·rename_i ad n c s e
  split at h
  ·cases h;exact .inl ⟨ad,n,c,s,e,by assumption,rfl⟩
  ·cases h
 ·rename_i nm n c s e
  split at h
  ·cases h;exact .inr ⟨nm,n,c,s,e,by assumption,rfl⟩
  ·cases h
 ·cases h
theorem oM (b o n:Nat):(⟨b,o,none⟩:Addr).add n=⟨b,o+n,none⟩:=by
 unfold Addr.add;split<;>simp_all
theorem Il (hT:dy P T){t f:Nat}{ti tf:TI}(ht:T t=some ti){fs:Array Field}(hd:ti.desc=.struct fs){fd:Field}(hf:fs.toList[f]?=some fd)
  (JT:T fd.type=some tf) (hs:tf.size≠0) (ad:Addr) (w:World):(Instr.fieldAt t (.pointer (some ad)) f).run P w=.ok (.pointer (some (ad.add fd.offset))) w:=by
 have fu:fs[f]?=some fd:=by simpa using hf
 simp[Instr.fieldAt,dX hT ht,Result.andThen,hd,fu,Instr.sureAddr,WK hT JT hs]
theorem WL (hT:dy P T){t f:Nat}{ti tf:TI}(ht:T t=some ti){fs:Array Field}(hd:ti.desc=.struct fs){fd:Field}(hf:fs.toList[f]?=some fd)
  (JT:T fd.type=some tf) {l:List SV} {s:SV} {v:Value} (hv:den ρ (.agg l)=some v) (hl:hU (ig tf.desc) tf.size fd.offset l=some s) (w:World) :
  ∃u,(Instr.field t v f).run P w=.ok u w∧den ρ s=some u:=by
 have fu:fs[f]?=some fd:=by simpa using hf
 simp only[den] at hv
 cases e:ai ρ l with
 |none=>simp[e] at hv
 |some vs =>
  simp only[e] at hv
  split at hv
  ·rename_i ha
   cases hv
   obtain⟨u,h1,h2⟩:=KT hT JT hl e ha w
   exact⟨u,by simp[Instr.field,dX hT ht,Result.andThen,hd,fu,asAgg,h1],h2⟩
  ·cases hv
theorem aab (hT:dy P T){t len e:Nat}{ti te:TI}(ht:T t=some ti)(hd:ti.desc=.array len e)(ff:T e=some te){k:IntKind}{i:Int}(hi:0≤i∧i<(len:Int))
  {l:List SV} {s:SV} {v:Value} (hv:den ρ (.agg l)=some v) (hl:hU (ig te.desc) te.size (i.toNat*te.size) l=some s) (w:World) :
  ∃u,(Instr.index t v (.int k i)).run P w=.ok u w∧den ρ s=some u:=by
 simp only[den] at hv
 cases e:ai ρ l with
 |none=>simp[e] at hv
 |some vs =>
  simp only[e] at hv
  split at hv
  ·rename_i ha
   cases hv
   obtain⟨u,h1,h2⟩:=KT hT ff hl e ha w
   exact⟨u,by simp[Instr.index,dX hT ht,Result.andThen,hd,asIntOf,hi,lL hT ff,h1],h2⟩
  ·cases hv
theorem B1 (hT:dy P T){t e:Nat}{ti te:TI}(ht:T t=some ti)(hd:ti.desc=.slice e)(ff:T e=some te){k:IntKind}{i:Int}{n c:Nat}(hi:0≤i∧i<(n:Int))
  (ad:Addr) (w:World):(Instr.indexAt t (.slice (some ad) n c) (.int k i)).run P w=.ok (.pointer (some (ad.add (i.toNat*te.size)))) w:=by
 simp[Instr.indexAt,dX hT ht,Result.andThen,hd,asIntOf,hi,lL hT ff]
theorem J5 (hT:dy P T){t len e:Nat}{ti te:TI}(ht:T t=some ti)(hd:ti.desc=.array len e)(ff:T e=some te){k:IntKind}{i:Int}(hi:0≤i∧i<(len:Int))
  (ad:Addr) (w:World):(Instr.indexAt t (.pointer (some ad)) (.int k i)).run P w=.ok (.pointer (some (ad.add (i.toNat*te.size)))) w:=by
 simp[Instr.indexAt,dX hT ht,Result.andThen,hd,asIntOf,hi,lL hT ff,Instr.sureAddr]
theorem zm (hH:HM ρ H w){id:Nat}{v:Value}(hv:den ρ (.sl id)=some v){n:Nat}{hb:HB}(hf:H id=some hb)
  (hn:(∃s g,hb=.ro s n g)∨(∃t s xs,hb=.row t s n xs)∨(∃t s g,hb=.vec t s n g)) :
  ∃A c,v=.slice A n c∧(0<n→∃ad,A=some ad) ∧
   ((∃s g,hb=.ro s n g∧ρ id=some (.sl A n c s))∨(∃t s xs nm,hb=.row t s n xs∧ρ id=some (.row nm n c s)∧A=some ⟨nm,0,none⟩) ∨
    (∃t s g nm,hb=.vec t s n g∧(0<n→ρ id=some (.row nm n c s)∧A=some ⟨nm,0,none⟩))):=by
 obtain⟨nm,hr,ap⟩:=hH.ok _ _ hf
 rcases hn with⟨s,g,rfl⟩|⟨t,s,xs,rfl⟩|⟨t,s,g,rfl⟩
 ·cases nm<;>simp only[ao] at ap
  obtain⟨rfl,rfl,_,h3⟩:=ap
  simp only[den,hr] at hv
  cases hv
  exact⟨_,_,rfl,λh=>let ⟨ad,e,_⟩:=h3 h;⟨ad,e⟩,.inl ⟨_,_,rfl,hr⟩⟩
 ·cases nm<;>simp only[ao] at ap
  obtain⟨rfl,rfl,_⟩:=ap
  simp only[den,hr] at hv
  cases hv
  exact⟨_,_,rfl,λ_=>⟨_,rfl⟩,.inr (.inl ⟨_,_,_,_,rfl,hr,rfl⟩)⟩
 ·cases nm<;>simp only[ao] at ap
  ·obtain⟨rfl,rfl,rfl,rfl,rfl⟩:=ap
   simp only[den,hr] at hv
   cases hv
   exact⟨_,_,rfl,λh=>by omega,.inr (.inr ⟨_,_,_,0,rfl,λh=>by omega⟩)⟩
  obtain⟨rfl,rfl,_⟩:=ap
  simp only[den,hr] at hv
  cases hv
  exact⟨_,_,rfl,λ_=>⟨_,rfl⟩,.inr (.inr ⟨_,_,_,_,rfl,λ_=>⟨hr,rfl⟩⟩)⟩
theorem ac4 (hH:HM ρ H w){id:Nat}{v:Value}(hv:den ρ (.sl id)=some v){s n:Nat}(hf:KX H id=some (s,n))(hn:0<n) :
  ∃ad c,v=.slice (some ad) n c∧n≤c∧(ρ id=some (.sl (some ad) n c s)∨∃k:Nat,ad=⟨k,0,none⟩∧ρ id=some (.row k n c s)):=by
 unfold KX at hf
 split at hf
 ·rename_i s' n' g e
  cases hf
  obtain⟨nm,hr,ap⟩:=hH.ok _ _ e
  cases nm<;>simp only[ao] at ap
  obtain⟨rfl,rfl,hc,h3⟩:=ap
  obtain⟨ad,rfl,_⟩:=h3 hn
  simp only[den,hr] at hv
  cases hv
  exact⟨ad,_,rfl,hc,.inl hr⟩
 ·rename_i t s' n' xs e
  cases hf
  obtain⟨nm,hr,ap⟩:=hH.ok _ _ e
  cases nm<;>simp only[ao] at ap
  obtain⟨rfl,rfl,⟨hc,_⟩,_⟩:=ap
  simp only[den,hr] at hv
  cases hv
  exact⟨_,_,rfl,hc,.inr ⟨_,rfl,hr⟩⟩
 ·rename_i t s' n' g e
  cases hf
  obtain⟨nm,hr,ap⟩:=hH.ok _ _ e
  cases nm<;>simp only[ao] at ap
  ·obtain⟨_,_,_,h,_⟩:=ap;omega
  obtain⟨rfl,rfl,⟨hc,_⟩,_⟩:=ap
  simp only[den,hr] at hv
  cases hv
  exact⟨_,_,rfl,hc,.inr ⟨_,rfl,hr⟩⟩
 ·cases hf
theorem TW (k o:Nat):(⟨k,0,none⟩:Addr).add o=⟨k,o,none⟩:=by rw[oM];simp
theorem DZ (hF:FM ρ F a)(aW:bu a π){d i:Int}{x:Option Operand}(h:yc F π d x=some i) :
  (∃k,x.map a.eval=some (.int k i))∨(x.map a.eval=none∧i=d):=by
 cases x with
 |none=>simp only[yc] at h;cases h;exact .inr ⟨rfl,rfl⟩
 |some x =>
  simp only[yc] at h
  split at h
  ·rename_i k i' e
   cases h
   have:=aQ hF aW e
   simp only[den,Option.some.injEq] at this
   exact .inl ⟨k,by rw[Option.map_some,←this]⟩
  ·cases h
theorem MY (b:Bool){lo hi:Option Value}{len cap:Nat}{i j:Int}(k7:(∃k,lo=some (.int k i))∨(lo=none∧i=0))(wB:(∃k,hi=some (.int k j))∨(hi=none∧j=(len:Int)))
  (h0:0≤i) (h1:i≤j) (h2:j≤(cap:Int)):(Instr.sliceBounds b len cap lo hi none).run P w=.ok (i.toNat,j.toNat,cap) w:=by
 have c1:0≤j∧j≤(cap:Int):=⟨by omega,h2⟩
 have c2:0≤i∧i≤(j.toNat:Int):=⟨h0,by omega⟩
 rcases k7 with⟨k,rfl⟩|⟨rfl,rfl⟩<;>rcases wB with⟨k',rfl⟩|⟨rfl,rfl⟩
 ·simp only[Instr.sliceBounds,Instr.sliceBound,asIntOf,Sem.run_bind,Sem.run_pure,Result.andThen_ok,if_pos c1,if_pos c2]
 ·have c3:0≤i∧i≤(len:Int):=⟨h0,h1⟩
  simp only[Instr.sliceBounds,Instr.sliceBound,asIntOf,Sem.run_bind,Sem.run_pure,Result.andThen_ok,if_pos c3,Int.toNat_natCast]
 ·simp only[Instr.sliceBounds,Instr.sliceBound,asIntOf,Sem.run_bind,Sem.run_pure,Result.andThen_ok,if_pos c1]
  rfl
 ·simp only[Instr.sliceBounds,Instr.sliceBound,asIntOf,Sem.run_bind,Sem.run_pure,Result.andThen_ok,Int.toNat_natCast]
  rfl
theorem VZ {id off m lc:Nat}{v:Value}(h:den ρ (.ss id off m lc)=some v):∃A c,v=.slice A m c:=by
 simp only[den] at h
 split at h
 ·rename_i nm _
  cases nm with
  |bO b=>simp only[partOf] at h;cases h;exact⟨_,_,rfl⟩
  |sl a n c s =>
   cases a with
   |none=>simp only[partOf] at h;cases h
   |some ad =>
    simp only[partOf] at h
    split at h
    ·cases h;exact⟨_,_,rfl⟩
    ·cases h
  |row b n c s =>
   simp only[partOf] at h
   split at h
   ·cases h;exact⟨_,_,rfl⟩
   ·cases h
 ·cases h
theorem aac (k:IntKind)(x y:Int):Value.int k (if y>x then y else x)=.int k (max x y):=by
 congr 1;split<;>omega
theorem aad (k:IntKind)(x y:Int):Value.int k (if y<x then y else x)=.int k (min x y):=by
 congr 1;split<;>omega
theorem SW (hT:dy P T)(hH:HM ρ H w){t:Nat}{ti:TI}(ht:T t=some ti){id off:Nat}{x v:Value}(hx:den ρ (.sp id off)=some x){y:SV}(hy:den ρ y=some v)
  {TT:Nat} {cw cs:List SV} (hf:H id=some (.cells TT cw)) (hc:jb y=some cs) (hl:cs.length=ti.size) (dI:off+cs.length≤cw.length) :
  sd ρ H fr w ((do Instr.storeAt t x v;pure Next.skip:Sem Next).run P w) ⟨none,.bn [],.st id off cs⟩:=by
 obtain⟨nm,hn,rfl⟩:=nX hx
 obtain⟨ak,eN,ap⟩:=hH.ok _ _ hf
 rw[hn] at eN;cases eN
 obtain⟨vs,h1,h2,h3⟩:=ap
 obtain⟨us,h4,h5,h6⟩:=Ag hc hy
 have JU:=j8 h4
 have BS:=j8 h1
 have hs:=SU hT ht (w:=w) (nm:=nm) (off:=off) h6 (by omega) h5 h3 (by omega)
 have uJ:(Instr.storeAt t (.pointer (some ⟨nm,off,none⟩)) v).run P w=.ok () (w.setRow nm (vs.take off++us++vs.drop (off+us.length)).toArray):=by
  simp only[Instr.storeAt,Instr.sureAddr,Sem.run_bind,Sem.run_pure,Result.andThen];exact hs
 refine⟨TT,cw,nm,_,us,hf,hn,h4,h5,dI,K_ uJ,size_setRow _ _ _,λk hk=>I9 _ _ _ _ hk,?_,⟨rfl,rfl⟩⟩
 intro GH P8
 rw[h1] at P8;cases P8
 exact setRow_heap w nm vs.toArray _ TT (0,0) h3
theorem NU (hT:dy P T){t:Nat}{ti:TI}(ht:T t=some ti)(hd:ti.desc=.bool)(p q:Bool)(w:World)(d:Nat) :
  (Op.equalIn (d+1) t (.bool p) (.bool q)).run P w=.ok (p == q) w:=by
 simp only[Op.equalIn,Sem.run_bind,dX hT ht,Result.andThen,hd]
 rfl
theorem Wj (hT:dy P T){t:Nat}{ti:TI}(ht:T t=some ti)(hd:ti.desc=.bool)(p q:Bool)(w:World) :
  (Result.ok () w).andThen (λ_ w'=>(binOp .eql t (.bool p) (.bool q)).run P w')=.ok (.bool (p == q)) w:=by
 have h:=NU hT ht hd p q w 9999
 show(do pure (Value.bool (←Op.equalIn 10000 t (.bool p) (.bool q))):Sem Value).run P w=_
 rw[Sem.run_bind,h];rfl
theorem abf (hT:dy P T){t:Nat}{ti:TI}(ht:T t=some ti)(hd:ti.desc=.bool)(p q:Bool)(w:World) :
  (Result.ok () w).andThen (λ_ w'=>(binOp .neq t (.bool p) (.bool q)).run P w')=.ok (.bool (!(p == q))) w:=by
 have h:=NU hT ht hd p q w 9999
 show(do pure (Value.bool (!(←Op.equalIn 10000 t (.bool p) (.bool q)))):Sem Value).run P w=_
 rw[Sem.run_bind,h];rfl
theorem aai {y:Operand}(h:isFalse y=true):y=.const (.bool false):=by
 unfold isFalse at h;split at h
 ·rfl
 ·cases h
theorem aan {y:Operand}(h:isTrue y=true):y=.const (.bool true):=by
 unfold isTrue at h;split at h
 ·rfl
 ·cases h
theorem Sv {s:Nat}{p:Bool}(aW:bu a π)(h:Value.bool p=a.eval (.tmp s)):bu a ((s,p)::π):=by
 intro y hy
 rcases List.mem_cons.1 hy with rfl|hy
 ·simp only[Act.eval,Array.getD_eq_getD_getElem?] at h
  cases e:a.tmps[s]? with
  |none=>rw[e] at h;cases h
  |some z=>rw[e] at h;simp only[Option.getD_some] at h;rw[h]
 ·exact aW y hy
theorem abT (hF:FM ρ F a)(aW:bu a π){c x y:Operand}(h:KW F π c x y=some out) :
  sd ρ H fr w ((do pure (Next.value (if ←asBool (a.eval c) then a.eval x else a.eval y)):Sem Next).run P w) out:=by
 unfold KW at h
 split at h
 ·rename_i s
  split at h
  ·rename_i p e1 e2
   split at h
   ·rename_i q e3
    cases h
    have h1:=aQ hF aW e1
    simp only[den,Option.some.injEq] at h1
    rw[aai e2,←h1]
    cases p with
    |true=>exact⟨_,rfl,by simpa using aQ hF (Sv aW h1) e3⟩
    |false=>exact⟨_,rfl,by simp[den,Act.eval]⟩
   ·cases h
  ·rename_i p e1 e2 At
   split at h
   ·rename_i q e3
    cases h
    have h1:=aQ hF aW e1
    simp only[den,Option.some.injEq] at h1
    rw[aan At,←h1]
    cases p with
    |false=>exact⟨_,rfl,by simpa using aQ hF (Sv aW h1) e3⟩
    |true=>exact⟨_,rfl,by simp[den,Act.eval]⟩
   ·cases h
  ·cases h
 ·cases h
set_option maxHeartbeats 1000000 in
theorem q7 (hF:FM ρ F a)(aW:bu a π):∀{l:List Operand} {s:List SV},nJ F π l=some s→ai ρ s=some (l.map a.eval)
 |[],s,h=>by simp only[nJ,Option.some.injEq] at h;subst h;rfl
 |x::r,s,h=>by
  simp only[nJ] at h
  split at h
  ·rename_i v l e1 e2
   cases h
   exact oW (aQ hF aW e1) (q7 hF aW e2)
  ·cases h
theorem K8 (hT:dy P T){t:Nat}{tf:TI}(ht:T t=some tf){l:List SV}{vs:List Value}{off:Nat}{s:SV}(hl:hU (ig tf.desc) tf.size off l=some s)(hd:ai ρ l=some vs)(ha:vs.all (·.oneCell')=true)(w:World) :
  ∃u,(part t vs.toArray off).run P w=.ok u w∧den ρ s=some u:=KT hT ht hl hd ha w
theorem NT (hT:dy P T)(d e:Nat)(ih:∀(t:Nat)(x y:SV)(p:Bool)(u v:Value),l5 T d t x y=some p→den ρ x=some u→den ρ y=some v→∀w:World,(Op.equalIn e t u v).run P w=.ok p w) :
  ∀ (fs : List Field) (xs ys : List SV) (us vs : List Value) (p : Bool), (∀ f ∈ fs, f.name ≠ "_") → ai ρ xs = some us → ai ρ ys = some vs → us.all (·.oneCell') = true → vs.all (·.oneCell') = true →
   Az T (l5 T d) fs xs ys=some p→∀w:World,(Op.eqFields e us.toArray vs.toArray fs).run P w=.ok p w
 |[],xs,ys,us,vs,p,hn,h1,h2,h3,h4,h,w=>by
  simp only[Az] at h;cases h
  simp[Op.eqFields]
 |f::fs,xs,ys,us,vs,p,hn,h1,h2,h3,h4,h,w=>by
  simp only[Az] at h
  split at h
  ·rename_i tf e1
   split at h
   ·rename_i a b e2 e3
    split at h
    ·rename_i p' q e4 e5
     cases h
     obtain⟨u,r1,d1⟩:=K8 hT e1 e2 h1 h3 w
     obtain⟨v,r2,d2⟩:=K8 hT e1 e3 h2 h4 w
     have r3:=ih _ _ _ _ _ _ e4 d1 d2 w
     have r4:=NT hT d e ih fs xs ys us vs q (λg hg=>hn g (List.mem_cons_of_mem _ hg)) h1 h2 h3 h4 e5 w
     simp only[Op.eqFields,if_pos (hn f List.mem_cons_self),Sem.run_bind,r1,r2,r3,Result.andThen_ok,Sem.run_ite,r4]
     cases p'<;>simp
    ·cases h
   ·cases h
  ·cases h
theorem HY (hT:dy P T):∀(d e:Nat),d≤e→∀(t:Nat) (x y:SV) (p:Bool) (u v:Value),l5 T d t x y=some p→den ρ x=some u→den ρ y=some v→∀w:World,(Op.equalIn e t u v).run P w=.ok p w:=by
 intro d
 induction d using Nat.strongRecOn with
 |_ d ih =>
  intro e hde t x y p u v h hx hy w
  cases d with
  |zero=>simp only[l5] at h;cases h
  |succ d =>
  obtain⟨e,rfl⟩:∃e',e=e'+1:=⟨e-1,by omega⟩
  simp only[l5] at h
  split at h
  ·rename_i ti e1
   have hu:=(hT _ _ e1).1
   split at h
   ·rename_i k0 k a k' b e2
    split at h
    ·rename_i e3
     have:=Ss e3
     subst this
     cases h
     simp only[den,Option.some.injEq] at hx hy
     subst hx;subst hy
     simp only[Op.equalIn,Sem.run_bind,dX hT e1,Result.andThen_ok,e2]
     simp only[if_true,Sem.run_pure]
     congr 1
    ·cases h
   ·rename_i p q e2
    cases h
    simp only[den,Option.some.injEq] at hx hy
    subst hx;subst hy
    simp only[Op.equalIn,Sem.run_bind,dX hT e1,Result.andThen_ok,e2,Sem.run_pure]
   ·rename_i fs xs ys e2
    split at h
    ·rename_i hp
     obtain⟨py,_,JG⟩:=(hT _ _ e1).2.2.1 hp
     have Bk:P.fieldsOf t=fs:=by simp[Program.fieldsOf,hu,e2]
     have key:∀{l:List SV} {z:Value},den ρ (.agg l)=some z→∃vs,ai ρ l=some vs∧vs.all (·.oneCell')=true∧z=.agg vs.toArray:=by
      intro l z hz
      simp only[den] at hz
      split at hz
      ·rename_i vs e4
       split at hz
       ·rename_i ha;cases hz;exact⟨vs,e4,ha,rfl⟩
       ·cases hz
      ·cases hz
     obtain⟨us,d1,a1,rfl⟩:=key hx
     obtain⟨vs,d2,a2,rfl⟩:=key hy
     rw[run_equalIn_struct w e t _ _ (by rw[Bk,hu,e2]) py,Bk]
     exact NT hT d e (λt x y p u v h hx hy w=>ih d (by omega) e (by omega) t x y p u v h hx hy w) fs.toList xs ys us vs p (λf hf=>JG f (by rw[Bk];exact hf)) d1 d2 a1 a2 h w
    ·cases h
   ·cases h
  ·cases h
theorem vE (hT:dy P T)(hF:FM ρ F a)(aW:bu a π)(hH:HM ρ H w)(mc:ρ fr=none)(h:core T F π H fr o.op=some out)(hp:fc out.pre) :
  sd ρ H fr w ((execOp a.eval o).run P w) out:=by
 unfold execOp
 cases km:o.op<;>rw[km] at h<;>dsimp only
 case move x =>
  simp only[core] at h
  split at h
  ·rename_i v e;cases h
   exact⟨_,rfl,aQ hF aW e⟩
  ·cases h
 case assign x =>
  simp only[core] at h
  split at h
  ·rename_i v e;cases h
   exact⟨_,rfl,aQ hF aW e⟩
  ·cases h
 case pick c x y =>
  simp only[core] at h
  exact abT hF aW h
 case alloc t =>
  simp only[core] at h
  split at h
  ·rename_i ti e1
   split at h
   ·rename_i z e2
    cases h
    obtain⟨h1,h2⟩:=yW ρ e2
    have hr:(Instr.alloc t true (.tuple #[])).run P w=.ok (.pointer (some ⟨w.heap.size,0,none⟩)) (w.alloc (.cells ti.zero.cells t)):=by
     simp only[Instr.alloc,Sem.run_bind,xe hT e1,Result.andThen,Sj]
     rfl
    rw[cy hr]
    exact Ro h1 h2 (by simp) mc
   ·cases h
  ·cases h
 case box t x =>
  simp only[core] at h
  split at h
  ·rename_i v e1
   split at h
   ·rename_i cs e2
    cases h
    obtain⟨vs,h1,h2,h3⟩:=Ag e2 (aQ hF aW e1)
    have hr:(Instr.box t (a.eval x)).run P w=.ok (.pointer (some ⟨w.heap.size,0,none⟩)) (w.alloc (.cells (a.eval x).cells t)):=by
     simp only[Instr.box,Sem.run_bind,Sj,Result.andThen]
     rfl
    rw[cy hr]
    exact Ro h1 h2 h3 mc
   ·cases h
  ·cases h
 case build t ps =>
  simp only[core] at h
  split at h
  ·rename_i ti e1
   split at h
   ·rename_i fs z e2 e3
    split at h
    ·rename_i e4
     split at h
     ·rename_i l e5
      cases h
      obtain⟨v,h1,h2⟩:=UU hT hF aW e1 e2 e3 e4 e5 (w:=w)
      exact gA (cy h1) h2
     ·cases h
    ·cases h
   ·rename_i n e z e2 e3
    split at h
    ·rename_i te e4
     split at h
     ·rename_i l e5
      cases h
      obtain⟨v,h1,h2⟩:=UT hT hF aW e1 e2 e4 e3 e5 (w:=w)
      exact gA (cy h1) h2
     ·cases h
    ·cases h
   ·cases h
  ·cases h
 case buildSlice t len ps =>
  simp only[core] at h
  split at h
  ·rename_i ti e1
   split at h
   ·rename_i e e2
    split at h
    ·rename_i te e3
     split at h
     ·rename_i z e4 e5
      split at h
      ·rename_i l e6 e7
       cases h
       exact US hT hF aW mc e1 e2 e3 e4 (by simpa using e5) (by simpa using e6) e7
      ·cases h
     ·cases h
    ·cases h
   ·cases h
  ·cases h
 case load t x =>
  simp only[core] at h
  split at h
  ·rename_i ti id off e1 e2
   split at h
   ·rename_i T' cs e3
    split at h
    ·rename_i s e4
     cases h
     obtain⟨u,h1,h2⟩:=yR hT hH e1 (aQ hF aW e2) (s:=s) (by simp only[e3];exact e4)
     exact gA (cy h1) h2
    ·cases h
   ·cases h
  ·rename_i ti id i off e1 e2
   split at h
   ·rename_i sz n get e3
    split at h
    ·rename_i s e4
     cases h
     obtain⟨u,h1,h2⟩:=yR hT hH e1 (aQ hF aW e2) (s:=s) (by simp only[e3];exact e4)
     exact gA (cy h1) h2
    ·cases h
   ·rename_i T' sz n xs e3
    split at h
    ·rename_i s e4
     cases h
     obtain⟨u,h1,h2⟩:=yR hT hH e1 (aQ hF aW e2) (s:=s) (by simp only[e3];exact e4)
     exact gA (cy h1) h2
    ·cases h
   ·rename_i T' sz n xs e3
    split at h
    ·rename_i s e4
     cases h
     obtain⟨u,h1,h2⟩:=yR hT hH e1 (aQ hF aW e2) (s:=s) (by simp only[e3];exact e4)
     exact gA (cy h1) h2
    ·cases h
   ·cases h
  ·cases h
 case store t x y =>
  simp only[core] at h
  split at h
  ·rename_i ti id off v e1 e2 e3
   split at h
   ·rename_i T' cw cs e4 e5
    split at h
    ·rename_i e6 e7
     cases h
     have Au:gv cs=ti.size:=by simpa using e6
     have qi:off+gv cs≤gv cw:=by simpa using e7
     rw[ng] at Au
     rw[ng,ng] at qi
     exact SW hT hH e1 (aQ hF aW e2) (aQ hF aW e3) e4 e5 Au qi
    ·cases h
   ·cases h
  ·cases h
 case nilCheck x =>
  simp only[core] at h
  split at h
  ·rename_i id off e
   cases h
   have h1:=aQ hF aW e
   obtain⟨nm,hn,hv⟩:=nX h1
   refine⟨_,?_,h1⟩
   rw[hv];rfl
  ·rename_i id i off e
   cases h
   have h1:=aQ hF aW e
   refine⟨_,?_,h1⟩
   rcases NH h1 with⟨ad,n,c,s,_,_,hv⟩|⟨nm,n,c,s,_,_,hv⟩<;>· rw[hv];rfl
  ·rename_i name t v ja e
   split at h
   ·rename_i ti e1
    cases h
    have h1:=aQ hF aW e
    refine⟨_,?_,h1⟩
    have hn:=(hT t ti e1).2.2.2 name hp
    simp only[den,ai] at h1
    split at h1
    ·rename_i vs us e2 e3
     split at e2
     ·rename_i u xr e4 e5
      cases e2;cases e5
      split at e4
      ·rename_i u' e6
       cases e4
       have h1:=Option.some.inj h1
       rw[←h1]
       have BG:(program).run P w=.ok P w:=rfl
       simp only[List.getElem?_toArray,List.getElem?_cons_zero,Sem.run_bind,BG,Result.andThen_ok,hn]
       rfl
      ·cases e4
     ·cases e2
    ·cases h1
   ·cases h
  ·rename_i n l m e
   cases h
   have h1:=aQ hF aW e
   refine⟨_,?_,h1⟩
   simp only[den] at h1
   split at h1
   ·have h1:=Option.some.inj h1
    rw[←h1];rfl
   ·cases h1
  ·cases h
 case slice t x lo hi mx =>
  cases mx with
  |some _=>simp only[core] at h;cases h
  |none =>
  simp only[core] at h
  split at h
  ·rename_i ti id i e1 e2 e3
   have hv:=aQ hF aW e2
   split at h
   ·rename_i el size n e4 e5
    split at h
    ·rename_i te j e6 e7
     split at h
     ·rename_i e8
      cases h
      have e8:te.size=size:=by simpa using e8
      obtain⟨h1,h2,h3,h4,h5⟩:=hp
      obtain⟨ad,c,hA,s7,hr⟩:=ac4 hH hv e5 h4
      have hb:=MY (P:=P) (w:=w) true (cap:=c) (DZ hF aW e3) (DZ hF aW e7) h1 h2 (by omega)
      refine gA (v:=.slice (some (if c=i.toNat then ad else ad.add (i.toNat*size))) (j-i).toNat (c-i.toNat)) (cy ?_) ?_
      ·rw[hA]
       simp only[Option.map_none,Instr.sliceAt,Instr.slice,Sem.run_bind,dX hT e1,e4,Result.andThen_ok,hb,lL hT e6,e8,Sem.run_pure,Option.map_some]
       have BO:j.toNat-i.toNat=(j-i).toNat:=by omega
       rw[BO]
       split<;>rfl
      ·simp only[den]
       have hd:i.toNat*size / size=i.toNat:=Nat.mul_div_cancel _ h5
       have dI:i.toNat*size+(j-i).toNat*size≤n*size:=by rw[←Nat.add_mul];exact Nat.mul_le_mul_right _ (by omega)
       have ph:(c-i.toNat=0)↔(c=i.toNat):=by omega
       rcases hr with hr|⟨k,rfl,hr⟩
       ·simp only[hr,partOf,hd,dI,h5,and_self,if_true,ph]
       ·simp only[hr,partOf,hd,dI,h5,and_self,if_true,ph,TW]
     ·cases h
    ·cases h
   ·cases h
  ·rename_i ti id off i e1 e2 e3
   have hv:=aQ hF aW e2
   obtain⟨nm,hn,hv⟩:=nX hv
   split at h
   ·rename_i len el e4
    split at h
    ·rename_i te j e6 e7
     cases h
     obtain⟨h1,h2,h3,h4⟩:=hp
     have hb:=MY (P:=P) (w:=w) false (cap:=len) (DZ hF aW e3) (DZ hF aW e7) h1 h2 (by omega)
     refine gA (v:=.slice (some ⟨nm,off+i.toNat*te.size,none⟩) (j-i).toNat (len-i.toNat)) (cy ?_) ?_
     ·rw[hv]
      have aV:¬len=i.toNat:=by omega
      simp only[Option.map_none,Instr.sliceAt,Instr.sureAddr,Sem.run_bind,dX hT e1,e4,Result.andThen_ok,hb,lL hT e6,Sem.run_pure,aV,if_false,oM]
      have BO:j.toNat-i.toNat=(j-i).toNat:=by omega
      rw[BO]
     ·simp only[den,hn,partOf]
    ·cases h
   ·cases h
  ·cases h
 case binOp op t x y t' =>
  simp only[core] at h
  split at h
  ·rename_i k p k' q e1 e2
   have h1:=aQ hF aW e1
   have h2:=aQ hF aW e2
   simp only[den,Option.some.injEq] at h1 h2
   have hg:=Wl (P:=P) op t x y k k' p q w
   have key:∀{s:SV} {pr:Option Prop},(∃v,(binOp op t (.int k p) (.int k' q)).run P w=.ok v w∧den ρ s=some v) →
     sd ρ H fr w ((do pure (Next.value (←(do eqGuard op t x y (a.eval x) (a.eval y);binOp op t (a.eval x) (a.eval y)))):Sem Next).run P w) ⟨pr,s,.no⟩:=by
    rintro s pr ⟨v,hv,hs⟩
    refine⟨v,cy ?_,hs⟩
    rw[←h1,←h2,Sem.run_bind,hg]
    exact hv
   split at h
   ·split at h
    ·rename_i pr s e3
     cases h
     exact key (SF _ t k k' p q e3 hp ρ w)
    ·cases h
   ·split at h
    ·rename_i pr s e3
     cases h
     exact key (SF _ t k k' p q e3 hp ρ w)
    ·cases h
   ·split at h
    ·rename_i pr s e3 e4
     cases h
     have:=Ss e3
     subst this
     exact key (Up _ t k p q e4 hp ρ w)
    ·cases h
  ·rename_i p q e1 e2
   have h1:=aQ hF aW e1
   have h2:=aQ hF aW e2
   simp only[den,Option.some.injEq] at h1 h2
   have hg:=Wk (P:=P) op t x y p q w
   split at h
   ·rename_i ti e3
    split at h
    ·rename_i e4
     cases h
     refine⟨_,cy ?_,rfl⟩
     rw[←h1,←h2,Sem.run_bind,hg]
     exact Wj hT e3 e4 p q w
    ·rename_i e4
     cases h
     refine⟨_,cy ?_,rfl⟩
     rw[←h1,←h2,Sem.run_bind,hg]
     exact abf hT e3 e4 p q w
    ·cases h
   ·cases h
  ·rename_i l m e1 e2
   have h1:=aQ hF aW e1
   have h2:=aQ hF aW e2
   split at h
   ·rename_i p ti e3 e4
    split at h
    ·rename_i ta
     cases h
     obtain⟨_,hg,_⟩:=(hT _ _ e4).2.2.1 ta
     have hq:=HY hT 9 10000 (by omega) _ _ _ _ _ _ e3 h1 h2 w
     have Bb:∀{l:List SV} {z:Value},den ρ (.agg l)=some z→∃vs,z=.agg vs:=by
      intro l z hz
      simp only[den] at hz
      split at hz
      ·split at hz
       ·cases hz;exact⟨_,rfl⟩
       ·cases hz
      ·cases hz
     obtain⟨us,hu⟩:=Bb h1
     obtain⟨vs,hv⟩:=Bb h2
     rw[hu,hv] at hq
     refine⟨_,cy ?_,rfl⟩
     rw[hu,hv,Sem.run_bind,run_eqGuard_agg w _ _ _ _ _ _ hg]
     simp only[Result.andThen_ok,run_eql_struct,hq]
    ·cases h
   ·rename_i p ti e3 e4
    split at h
    ·rename_i ta
     cases h
     obtain⟨_,hg,_⟩:=(hT _ _ e4).2.2.1 ta
     have hq:=HY hT 9 10000 (by omega) _ _ _ _ _ _ e3 h1 h2 w
     have Bb:∀{l:List SV} {z:Value},den ρ (.agg l)=some z→∃vs,z=.agg vs:=by
      intro l z hz
      simp only[den] at hz
      split at hz
      ·split at hz
       ·cases hz;exact⟨_,rfl⟩
       ·cases hz
      ·cases hz
     obtain⟨us,hu⟩:=Bb h1
     obtain⟨vs,hv⟩:=Bb h2
     rw[hu,hv] at hq
     refine⟨_,cy ?_,rfl⟩
     rw[hu,hv,Sem.run_bind,run_eqGuard_agg w _ _ _ _ _ _ hg]
     simp only[Result.andThen_ok,run_neq_struct,hq]
    ·cases h
   ·cases h
  ·rename_i t0 v0 e1 e2
   have h1:=aQ hF aW e1
   have h2:=aQ hF aW e2
   have h2:a.eval y=.nilIface:=by simpa [den,Value.oneCell'] using h2.symm
   obtain⟨u,h1⟩:∃u,a.eval x=.iface t0 u:=by
    simp only[den] at h1
    split at h1
    ·exact⟨_,(Option.some.inj h1).symm⟩
    ·cases h1
   split at h
   ·rename_i ti e3
    have hq:∀w:World,(Op.equalIn 10000 t (.iface t0 u) .nilIface).run P w=(match ti.desc with
     |.interface _=>.ok false w
     |_=>(Op.equalIn 10000 t (.iface t0 u) .nilIface).run P w):=by
     intro w
     split
     ·rename_i d hd
      rw[show(10000:Nat)=9999+1 from rfl,Op.equalIn]
      simp only[Sem.run_bind,dX hT e3,Result.andThen_ok,hd,Sem.run_pure]
     ·rfl
    split at h
    ·rename_i e4
     cases h
     rw[e4] at hq
     refine⟨_,cy ?_,rfl⟩
     rw[h1,h2,Sem.run_bind]
     simp[eqGuard,binOp,Op.equal,Op.maxDepth,hq,Result.andThen]
    ·rename_i e4
     cases h
     rw[e4] at hq
     refine⟨_,cy ?_,rfl⟩
     rw[h1,h2,Sem.run_bind]
     simp[eqGuard,binOp,Op.equal,Op.maxDepth,hq,Result.andThen]
    ·cases h
   ·cases h
  ·rename_i e1 e2
   have h1:=aQ hF aW e1
   have h2:=aQ hF aW e2
   have h2:a.eval y=.nilIface:=by simpa [den,Value.oneCell'] using h2.symm
   have h1:a.eval x=.nilIface:=by simpa [den,Value.oneCell'] using h1.symm
   split at h
   ·rename_i ti cv e3 _
    have hq:∀w:World,(Op.equalIn 10000 t .nilIface .nilIface).run P w=(match ti.desc with
     |.interface _=>.ok true w
     |_=>(Op.equalIn 10000 t .nilIface .nilIface).run P w):=by
     intro w
     split
     ·rename_i d hd
      rw[show(10000:Nat)=9999+1 from rfl,Op.equalIn]
      simp only[Sem.run_bind,dX hT e3,Result.andThen_ok,hd,Sem.run_pure]
     ·rfl
    split at h
    ·rename_i e4
     cases h
     rw[e4] at hq
     refine⟨_,cy ?_,rfl⟩
     rw[h1,h2,Sem.run_bind]
     simp[eqGuard,binOp,Op.equal,Op.maxDepth,hq,Result.andThen]
    ·rename_i e4
     cases h
     rw[e4] at hq
     refine⟨_,cy ?_,rfl⟩
     rw[h1,h2,Sem.run_bind]
     simp[eqGuard,binOp,Op.equal,Op.maxDepth,hq,Result.andThen]
    ·cases h
   ·cases h
  ·cases h
 case typeAssert x xt asserted ok =>
  simp only[core] at h
  split at h
  ·rename_i ti t v e1 e2
   have h1:=aQ hF aW e2
   obtain⟨u,hu,h1⟩:∃u,den ρ v=some u∧a.eval x=.iface t u:=by
    simp only[den] at h1
    split at h1
    ·rename_i u hu;exact⟨u,hu,(Option.some.inj h1).symm⟩
    ·cases h1
   split at h
   ·cases h
   ·rename_i BB
    have cr : ∀ (K : Sem Value), (∀ w, (Instr.typeAssert (a.eval x) xt asserted ok).run P w = (if t = asserted then (pure (if ok then .tuple #[u, .bool true] else u) : Sem Value) else (if ok then (do pure (.tuple #[← zeroValue asserted, .bool false])) else Go.runtimePanic (.typeAssertion (some xt) (some t) asserted ""))).run P w) := by
     intro _ w
     rw[h1]
     simp only[Instr.typeAssert,Sem.run_bind,dX hT e1,Result.andThen_ok]
    have cr:=cr (pure undef)
    split at h
    ·rename_i e3 _
     cases h
     have e3:t=asserted:=by simpa using e3
     refine⟨.tuple #[u,.bool true],cy ?_,by simp[den,ai,hu]⟩
     rw[cr,if_pos e3]
     rfl
    ·rename_i e3 _
     cases h
     have e3:t=asserted:=by simpa using e3
     refine⟨u,cy ?_,hu⟩
     rw[cr,if_pos e3]
     rfl
    ·rename_i e3 _
     have e3:¬t=asserted:=λhe=>by rw[he] at e3;simp at e3
     split at h
     ·rename_i z hz
      cases h
      refine⟨.tuple #[ti.zero,.bool false],cy ?_,by simp[den,ai,FU ρ hz]⟩
      rw[cr,if_neg e3]
      simp[xe hT e1,Result.andThen]
     ·cases h
    ·cases h
  ·cases h
 case unOp op t x =>
  simp only[core] at h
  split at h
  ·rename_i p e
   cases h
   have h1:=aQ hF aW e
   simp only[den,Option.some.injEq] at h1
   refine⟨_,cy ?_,rfl⟩
   rw[←h1];rfl
  ·rename_i k n e
   cases h
   have h1:=aQ hF aW e
   simp only[den,Option.some.injEq] at h1
   refine⟨_,cy ?_,rfl⟩
   rw[←h1]
   simp only[Op.unary,Op.intArith,qS hp]
   rfl
  ·cases h
 case convert s d x =>
  simp only[core] at h
  split at h
  ·rename_i ts td k n e1 e2 e3
   split at h
   ·rename_i k' e4
    have h1:=aQ hF aW e3
    simp only[den,Option.some.injEq] at h1
    split at h
    ·cases h
     refine⟨_,cy ?_,rfl⟩
     rw[←h1]
     simp[convert,dX hT e1,dX hT e2,e4,Result.andThen,Conv.intToInt,TA]
    ·cases h
     refine⟨_,cy ?_,rfl⟩
     rw[←h1]
     simp[convert,dX hT e1,dX hT e2,e4,Result.andThen,Conv.intToInt,qS hp]
   ·cases h
  ·cases h
 case makeFunc f first ja =>
  simp only[core] at h
  split at h
  ·rename_i l m e1 e2
   cases h
   have h1:=q7 hF aW e1
   have h2:=q7 hF aW e2
   refine⟨.func f (first.map a.eval) (ja.map a.eval),rfl,?_⟩
   simp only[den,h1,h2]
   congr 2<;>(apply Array.ext';simp)
  ·cases h
 case makeInterface t x =>
  simp only[core] at h
  split at h
  ·rename_i ti v e1 e2
   split at h
   ·cases h
   ·rename_i BB
    cases h
    have h1:=aQ hF aW e2
    refine⟨.iface t (a.eval x),cy ?_,by simp only[den,h1]⟩
    simp only[Instr.makeInterface,Sem.run_bind,dX hT e1,Result.andThen]
    cases Yw:ti.desc<;>first|rfl|exact absurd Yw (BB _)
  ·cases h
 case fieldAddr t x f =>
  simp only[core] at h
  split at h
  ·rename_i ti id off e1 e2
   split at h
   ·rename_i fs e3
    split at h
    ·rename_i fd e4
     split at h
     ·rename_i tf e5
      split at h
      ·cases h
      ·rename_i n e6
       cases h
       rw[jA] at e4
       have h1:=aQ hF aW e2
       obtain⟨nm,hn,hv⟩:=nX h1
       refine gA (v:=.pointer (some ⟨nm,off+fd.offset,none⟩)) (cy ?_) (by simp only[den,hn])
       rw[hv,Il hT e1 e3 e4 e5 (by omega),oM]
     ·cases h
    ·cases h
   ·cases h
  ·rename_i ti id i off e1 e2
   split at h
   ·rename_i fs e3
    split at h
    ·rename_i fd e4
     split at h
     ·rename_i tf e5
      split at h
      ·cases h
      ·rename_i n e6
       cases h
       rw[jA] at e4
       have h1:=aQ hF aW e2
       rcases NH h1 with⟨ad,n',c,s,hr,aG,hv⟩|⟨nm,n',c,s,hr,aG,hv⟩
       ·refine gA (v:=.pointer (some (ad.add (i.toNat*s+(off+fd.offset))))) (cy ?_) (by simp only[den,hr,aG,if_true])
        rw[hv,Il hT e1 e3 e4 e5 (by omega),add_add,Nat.add_assoc]
       ·refine gA (v:=.pointer (some ⟨nm,i.toNat*s+(off+fd.offset),none⟩)) (cy ?_) (by simp only[den,hr,aG,if_true])
        rw[hv,Il hT e1 e3 e4 e5 (by omega),oM,Nat.add_assoc]
     ·cases h
    ·cases h
   ·cases h
  ·cases h
 case field t x f =>
  simp only[core] at h
  split at h
  ·rename_i ti l e1 e2
   split at h
   ·rename_i fs e3
    split at h
    ·rename_i fd e4
     split at h
     ·rename_i tf e5
      split at h
      ·rename_i s e6
       cases h
       rw[jA] at e4
       obtain⟨u,h1,h2⟩:=WL hT e1 e3 e4 e5 (aQ hF aW e2) e6 w
       exact gA (cy h1) h2
      ·cases h
     ·cases h
    ·cases h
   ·cases h
  ·cases h
 case indexAddr t x y =>
  simp only[core] at h
  split at h
  ·rename_i ti id k i e1 e2 e3
   have hv:=aQ hF aW e2
   have hi:=aQ hF aW e3
   simp only[den,Option.some.injEq] at hi
   split at h
   ·rename_i e size n g e4 e5
    split at h
    ·rename_i te e6
     split at h
     ·rename_i e7
      cases h
      obtain⟨A,c,hA,gS,jf⟩:=zm hH hv e5 (.inl ⟨_,_,rfl⟩)
      have hn:0<n:=by have:=hp.1;have:=hp.2;omega
      obtain⟨ad,rfl⟩:=gS hn
      have aG:i.toNat<n:=by have:=hp.1;have:=hp.2;omega
      rcases jf with⟨s,g',hg,hr⟩|⟨t',s,xs,nm,hg,_⟩|⟨t',s,xs,nm,hg,_⟩
      ·cases hg
       have qi:te.size=size:=by simpa using e7
       refine gA (v:=.pointer (some (ad.add (i.toNat*size+0)))) (cy ?_) (by simp only[den,hr,aG,if_true])
       rw[hA,←hi,B1 hT e1 e4 e6 hp,qi,Nat.add_zero]
      ·cases hg
      ·cases hg
     ·cases h
    ·cases h
   ·rename_i e T' size n xs e4 e5
    split at h
    ·rename_i te e6
     split at h
     ·rename_i e7
      cases h
      obtain⟨A,c,hA,gS,jf⟩:=zm hH hv e5 (.inr (.inl ⟨_,_,_,rfl⟩))
      have aG:i.toNat<n:=by have:=hp.1;have:=hp.2;omega
      rcases jf with⟨s,g',hg,hr⟩|⟨t',s,C8,nm,hg,hr,Ev⟩|⟨t',s,C8,nm,hg,_⟩
      ·cases hg
      ·cases hg
       subst Ev
       have qi:te.size=size:=by simpa using e7
       refine gA (v:=.pointer (some ⟨nm,i.toNat*size+0,none⟩)) (cy ?_) (by simp only[den,hr,aG,if_true])
       rw[hA,←hi,B1 hT e1 e4 e6 hp,qi,oM,Nat.add_zero,Nat.zero_add]
      ·cases hg
     ·cases h
    ·cases h
   ·rename_i e T' size n xs e4 e5
    split at h
    ·rename_i te e6
     split at h
     ·rename_i e7
      cases h
      obtain⟨A,c,hA,gS,jf⟩:=zm hH hv e5 (.inr (.inr ⟨_,_,_,rfl⟩))
      have aG:i.toNat<n:=by have:=hp.1;have:=hp.2;omega
      rcases jf with⟨s,g',hg,hr⟩|⟨t',s,C8,nm,hg,hr,Ev⟩|⟨t',s,C8,nm,hg,Zt⟩
      ·cases hg
      ·cases hg
      ·cases hg
       obtain⟨hr,Ev⟩:=Zt (by have:=hp.1;have:=hp.2;omega)
       subst Ev
       have qi:te.size=size:=by simpa using e7
       refine gA (v:=.pointer (some ⟨nm,i.toNat*size+0,none⟩)) (cy ?_) (by simp only[den,hr,aG,if_true])
       rw[hA,←hi,B1 hT e1 e4 e6 hp,qi,oM,Nat.add_zero,Nat.zero_add]
     ·cases h
    ·cases h
   ·cases h
  ·rename_i ti id off k i e1 e2 e3
   have hv:=aQ hF aW e2
   have hi:=aQ hF aW e3
   simp only[den,Option.some.injEq] at hi
   split at h
   ·rename_i len e e4
    split at h
    ·rename_i te e5
     cases h
     obtain⟨nm,hn,dU⟩:=nX hv
     refine gA (v:=.pointer (some ⟨nm,off+i.toNat*te.size,none⟩)) (cy ?_) (by simp only[den,hn])
     rw[dU,←hi,J5 hT e1 e4 e5 hp,oM]
    ·cases h
   ·cases h
  ·rename_i ti id off m lc k i e1 e2 e3
   have hv:=aQ hF aW e2
   have hi:=aQ hF aW e3
   simp only[den,Option.some.injEq] at hi
   split at h
   ·rename_i e Tc cs e4 e5
    split at h
    ·rename_i te e6
     cases h
     obtain⟨nm,hr,ap⟩:=hH.ok _ _ e5
     cases nm<;>simp only[ao] at ap
     rename_i nm
     simp only[den,hr,partOf,Option.some.injEq] at hv
     refine gA (v:=.pointer (some ⟨nm,off+i.toNat*te.size,none⟩)) (cy ?_) (by simp only[den,hr])
     rw[←hv,←hi,B1 hT e1 e4 e6 hp,oM]
    ·cases h
   ·cases h
  ·cases h
 case index t x y =>
  simp only[core] at h
  split at h
  ·rename_i ti l k i e1 e2 e3
   have hi:=aQ hF aW e3
   simp only[den,Option.some.injEq] at hi
   split at h
   ·rename_i len e e4
    split at h
    ·rename_i te e5
     split at h
     ·rename_i s e6
      cases h
      obtain⟨u,h1,h2⟩:=aab hT e1 e4 e5 (k:=k) hp (aQ hF aW e2) e6 w
      rw[hi] at h1
      exact gA (cy h1) h2
     ·cases h
    ·cases h
   ·cases h
  ·cases h
 case extract x i =>
  simp only[core] at h
  split at h
  ·rename_i l e1
   split at h
   ·rename_i s e2
    cases h
    have h1:=aQ hF aW e1
    simp only[den] at h1
    cases e:ai ρ l with
    |none=>simp[e] at h1
    |some vs =>
     simp only[e,Option.some.injEq] at h1
     rw[jA] at e2
     obtain⟨v,h2,h3⟩:=HL e e2
     refine gA (cy ?_) h3
     rw[←h1]
     simp[Instr.extract,h2]
   ·cases h
  ·cases h
 case call c =>
  simp only[core] at h
  split at h
  ·rename_i x t e1 e2 e3
   have ju:c.args.map a.eval=#[a.eval x]:=by
    apply Array.ext';simp[e2]
   have mn:c.argTypes=#[t]:=by apply Array.ext';simp[e3]
   obtain⟨cs,fI⟩:∃cs:Array Bool,∀w,(resolve a.eval c o.type).run P w=.ok { target:=.builtin .len #[t] o.type cs,args:=#[a.eval x] } w :=
    ⟨_,λw=>by simp only[resolve,e1,ju,mn];rfl⟩
   have key:∀{v:Value},(Builtin.len_ #[t] o.type #[a.eval x]).run P w=.ok v w →
     (do let d ←resolve a.eval c o.type;invoke d.target d.args:Sem Next).run P w=.ok (.value v) w:=by
    intro v hv
    rw[Sem.run_bind,fI]
    simp only[Result.andThen,invoke,builtin]
    exact cy hv
   split at h
   ·rename_i ti id e4 e5
    have hv:=aQ hF aW e5
    split at h
    ·rename_i el s n g e6 e7
     cases h
     obtain⟨A,cc,hA,_⟩:=zm hH hv e7 (.inl ⟨_,_,rfl⟩)
     refine gA (key ?_) rfl
     rw[hA]
     simp[Builtin.len_,dX hT e4,e6,Result.andThen,goInt]
    ·rename_i el T' s n xs e6 e7
     cases h
     obtain⟨A,cc,hA,_⟩:=zm hH hv e7 (.inr (.inl ⟨_,_,_,rfl⟩))
     refine gA (key ?_) rfl
     rw[hA]
     simp[Builtin.len_,dX hT e4,e6,Result.andThen,goInt]
    ·rename_i el T' s n xs e6 e7
     cases h
     obtain⟨A,cc,hA,_⟩:=zm hH hv e7 (.inr (.inr ⟨_,_,_,rfl⟩))
     refine gA (key ?_) rfl
     rw[hA]
     simp[Builtin.len_,dX hT e4,e6,Result.andThen,goInt]
    ·cases h
   ·rename_i ti e4 e5
    have hv:=aQ hF aW e5
    split at h
    ·rename_i el e6
     cases h
     refine gA (key ?_) rfl
     simp only[den,Value.oneCell',if_true,Option.some.injEq] at hv
     rw[←hv]
     simp[Builtin.len_,dX hT e4,e6,Result.andThen,goInt]
    ·cases h
   ·rename_i ti id off m lc e4 e5
    have hv:=aQ hF aW e5
    split at h
    ·rename_i el e6
     cases h
     refine gA (key ?_) rfl
     obtain⟨A,cc,hA⟩:=VZ hv
     rw[hA]
     simp[Builtin.len_,dX hT e4,e6,Result.andThen,goInt]
    ·cases h
   ·cases h
  ·rename_i x y e1 e2
   have ju:c.args.map a.eval=#[a.eval x,a.eval y]:=by
    apply Array.ext';simp[e2]
   obtain⟨cs,fI⟩:∃cs:Array Bool,∀w,(resolve a.eval c o.type).run P w=.ok { target:=.builtin .max c.argTypes o.type cs,args:=#[a.eval x,a.eval y] } w :=
    ⟨_,λw=>by simp only[resolve,e1,ju];rfl⟩
   split at h
   ·rename_i k p k' q e4 e5
    cases h
    have h1:=aQ hF aW e4
    have h2:=aQ hF aW e5
    simp only[den,Option.some.injEq] at h1 h2
    refine gA ?_ rfl
    rw[Sem.run_bind,fI]
    simp only[Result.andThen,invoke,builtin]
    refine cy ?_
    rw[←h1,←h2,←aac]
    rfl
   ·cases h
  ·rename_i x y e1 e2
   have ju:c.args.map a.eval=#[a.eval x,a.eval y]:=by
    apply Array.ext';simp[e2]
   obtain⟨cs,fI⟩:∃cs:Array Bool,∀w,(resolve a.eval c o.type).run P w=.ok { target:=.builtin .min c.argTypes o.type cs,args:=#[a.eval x,a.eval y] } w :=
    ⟨_,λw=>by simp only[resolve,e1,ju];rfl⟩
   split at h
   ·rename_i k p k' q e4 e5
    cases h
    have h1:=aQ hF aW e4
    have h2:=aQ hF aW e5
    simp only[den,Option.some.injEq] at h1 h2
    refine gA ?_ rfl
    rw[Sem.run_bind,fI]
    simp only[Result.andThen,invoke,builtin]
    refine cy ?_
    rw[←h1,←h2,←aad]
    rfl
   ·cases h
  ·rename_i x y z u e1 e2
   have ju:c.args.map a.eval=#[a.eval x,a.eval y,a.eval z,a.eval u]:=by
    apply Array.ext';simp[e2]
   obtain⟨cs,fI⟩:∃cs:Array Bool,∀w,(resolve a.eval c o.type).run P w=.ok { target:=.builtin .min c.argTypes o.type cs,args:=#[a.eval x,a.eval y,a.eval z,a.eval u] } w :=
    ⟨_,λw=>by simp only[resolve,e1,ju];rfl⟩
   split at h
   ·rename_i k p _ q _ p' _ q' e4 e5 e6 e7
    cases h
    have h1:=aQ hF aW e4
    have h2:=aQ hF aW e5
    have h3:=aQ hF aW e6
    have h4:=aQ hF aW e7
    simp only[den,Option.some.injEq] at h1 h2 h3 h4
    refine gA ?_ rfl
    rw[Sem.run_bind,fI]
    simp only[Result.andThen,invoke,builtin]
    refine cy ?_
    have m2:∀a b:Int,min a b=if b<a then b else a:=λa b=>by split<;>omega
    rw[←h1,←h2,←h3,←h4,m2 (min (min p q) p') q',m2 (min p q) p',m2 p q]
    rfl
   ·cases h
  ·cases h
 all_goals (simp only[core] at h;cases h)
end
structure cJ where
 pre:Option Prop
 bL:Option (Bool × List PanicEntry)
 v:SV
 news:List (Nat × HB)
abbrev Ct:=Nat→List SV→(Nat→Option HB)→Option cJ
def rK:List (Nat × HB)→LH→LH
 |[],H=>H
 |(id,hb)::r,H=>jI (rK r H) id hb
theorem w4 (l:List (Nat × HB))(H:List (Nat × HB)):ab (l++H)=rK l (ab H):=by
 induction l with
 |nil=>rfl
 |cons x r ih=>obtain⟨id,hb⟩:=x;rw[rK,←ih];rfl
structure pX (ρ:Env) (H:LH) (fr:Nat) (w:World) (out:cJ) (v:Value) (w':World) (ρ':Env):Prop where
 str:dF w w'
 ext:Ext ρ ρ'
 fresh:∀j,ρ' j≠ρ j→fr≤j∧j<fr+4∧∃hb,(j,hb)∈out.news
 den:den ρ' out.v=some v
 hm:HM ρ' (rK out.news H) w'
 own:∀b,Own ρ' (rK out.news H) b→Own ρ H b∨w.heap.size≤b
 size:w.heap.size≤w'.heap.size
 same:∀b,b<w.heap.size→w'.heap[b]?=w.heap[b]?
 fz:∀b,Fz (rK out.news H) b→Fz H b
def xw (ρ:Env)(H:LH)(fr:Nat)(w:World)(out:cJ):Ending→World→Prop:=λe w' =>
 match out.bL with
 |none=>∃ρ' v,e=.returned v∧pX ρ H fr w out v w' ρ'
 |some (c,ch)=>(c=true∧e=.panicked ch∧w.heap.size≤w'.heap.size∧(∀b,b<w.heap.size→w'.heap[b]?=w.heap[b]?)∧dF w w') ∨
   (c=false∧∃ρ' v,e=.returned v∧pX ρ H fr w out v w' ρ')
def aP (P:Program)(f:Nat)(ct:Ct):Prop :=
 ∀ρ H w fr args aM out,HM ρ H w→(∀j,fr≤j→j<fr+4→ρ j=none)→ai ρ args=some aM→ct fr args H=some out→fc out.pre →
  Calls P f aM.toArray w (xw ρ H fr w out)
structure Cx where
 P:Program
 T:cf
 C:Nat→Option Ct
 G:cp
 r:Option Nat
 nt:Nat
def cY (ct:Ct):Prop:=∀fr args H H' out,(∀id hb,H id=some hb→H' id=some hb)→ct fr args H=some out→ct fr args H'=some out
structure Cx.Ok (X:Cx):Prop where
 dx:dy X.P X.T
 mono:∀f ct,X.C f=some ct→cY ct
 calls:∀f ct,X.C f=some ct→aP X.P f ct
 MV:∀f ct,X.C f=some ct→∀args w,(callFunc f args).run X.P w=.ok (.enter f args) w
abbrev fE:=Nat × List SV
def uU (f:Nat)(aM:List Value):Deferred :=
 match Nat.beq f 1000000 with
 |true=>(match aM with
   |[.int _ m,v]=>{ target:=.fn (.func m.toNat) #[v],args:=#[] }
   |[.pointer (some a)]=>{ target:=.collected a.block,args:=#[] }
   |_=>{ target:=.collected 0,args:=#[] })
 |false=>{ target:=.fn (.func f) #[],args:=aM.toArray }
def nD (ρ:Env):List Deferred→List fE→Prop
 |[],[]=>True
 |d::ds,(f,args)::r=>(∃aM,ai ρ args=some aM∧d=uU f aM)∧nD ρ ds r
 |_,_=>False
theorem nD.ext {ρ ρ':Env}(h:Ext ρ ρ'):∀{ds:List Deferred} {D:List fE},nD ρ ds D→nD ρ' ds D
 |[],[],_=>trivial
 |d::ds,(f,args)::r,⟨⟨aM,h1,h2⟩,h3⟩=>⟨⟨aM,fT h _ _ h1,h2⟩,nD.ext h h3⟩
theorem pY {ρ:Env}{ds:List Deferred}(h:nD ρ ds []):ds=[]:=by cases ds<;>first|rfl|exact h.elim
structure St where
 F:List (Nat × FE)
 gs:List Nat
 H:List (Nat × HB)
 nx:Nat
 D:List fE
structure Mod (X:Cx) (ρ:Env) (st:St) (a:Act) (w:World):Prop where
 fm:FM ρ (findF st.F) a
 gs:∀t e,findF st.F t=some e→∀x∈e.gp,x.1∈st.gs
 df:nD ρ a.defers st.D
 hm:HM ρ (ab st.H) w
 kp:gO X.G ρ (ab st.H) w
 nx:∀j,st.nx≤j→ρ j=none
 sz:a.tmps.size=X.nt
inductive Ex where
 |normal
 |ret
 |exit (n:Nat)
 |panic (ch:List PanicEntry)
def Ex.to:Ex→Exit
 |.normal=>.normal
 |.ret=>.ret
 |.exit n=>.exit n
 |.panic ch=>.panic ch
def FW (r:Option Nat):Fence:={ Fence.wide with round:=r }
def sf (X:Cx)(K:Ex→St→Prop):Exit→Act→World→Prop:=λe a w=>∃x st ρ,e=x.to∧Mod X ρ st a w∧K x st
def aX (X:Cx)(c:Code)(st:St)(K:Ex→St→Prop):Prop :=
 ∀ρ a w,Mod X ρ st a w→c.wpIn (FW X.r) 0 X.P (sf X K) a w
structure aa (p k:Prop):Prop where
 h:p
 k:k
structure Br (p:Bool) (a b:Prop):Prop where
 t:p=true→a
 f:p=false→b
def FK (n:Nat)(K:Nat→Prop):List Nat→Prop
 |[]=>K n
 |x::r=>match Nat.beq n x with
  |true=>K x
  |false=>FK n K r
def fa (n:Nat)(K:Nat→Prop):Prop :=
 FK n K [0,1,2,3,4,5,6,7,8,9,10,11,12,13,14,15,16,17,18,19,20,21,22,23,24,25,26,27,28,29,30,31,32,33,34,35,36,37,38,39,40,41,42,43,44,45,46,47,48,49,50,51,52,53,54,55,56,57,58,59,60,61,62,63]
theorem abd (n:Nat)(K:Nat→Prop)(l:List Nat):FK n K l=K n:=by
 induction l with
 |nil=>rfl
 |cons x r ih =>
  simp only[FK]
  split
  ·rename_i h
   have:n=x:=by simpa using h
   rw[this]
  ·exact ih
theorem fw (n:Nat)(K:Nat→Prop):fa n K=K n:=abd n K _
mutual
def fX:SV→(SV→Prop)→Prop
 |.agg l,K=>eT l λl'=>K (.agg l')
 |.bn l,K=>eT l λl'=>K (.bn l')
 |.fn f a b,K=>eT a λa'=>eT b λb'=>K (.fn f a' b')
 |.cg t x,K=>fX x λx'=>K (.cg t x')
 |.sv x,K=>K (.sv x)
 |.si k n,K=>K (.si k n)
 |.sb p,K=>K (.sb p)
 |.sp i o,K=>fa i λi'=>fa o λo'=>K (.sp i' o')
 |.se i n o,K=>fa i λi'=>fa o λo'=>K (.se i' n o')
 |.sl i,K=>fa i λi'=>K (.sl i')
 |.sm i,K=>fa i λi'=>K (.sm i')
 |.fy i,K=>fa i λi'=>K (.fy i')
 |.ss i o l t,K=>fa i λi'=>K (.ss i' o l t)
def eT:List SV→(List SV→Prop)→Prop
 |[],K=>K []
 |x::r,K=>fX x λx'=>eT r λr'=>K (x'::r')
end
mutual
theorem mP:∀(s:SV) (K:SV→Prop),fX s K=K s
 |.agg l,K=>by rw[fX,gn]
 |.bn l,K=>by rw[fX,gn]
 |.fn f a b,K=>by rw[fX,gn,gn]
 |.cg t x,K=>by rw[fX,mP]
 |.sv x,K=>by rw[fX]
 |.si k n,K=>by rw[fX]
 |.sb p,K=>by rw[fX]
 |.sp i o,K=>by rw[fX,fw,fw]
 |.se i n o,K=>by rw[fX,fw,fw]
 |.sl i,K=>by rw[fX,fw]
 |.sm i,K=>by rw[fX,fw]
 |.fy i,K=>by rw[fX,fw]
 |.ss i o l t,K=>by rw[fX,fw]
theorem gn:∀(s:List SV) (K:List SV→Prop),eT s K=K s
 |[],K=>by rw[eT]
 |x::r,K=>by rw[eT,mP,gn]
end
def AG:HB→(HB→Prop)→Prop
 |.cells T cs,K=>eT cs λcs'=>K (.cells T cs')
 |.row T s n xs,K=>eT xs λC8=>K (.row T s n C8)
 |.dead,K=>K .dead
 |.ro s n g,K=>K (.ro s n g)
 |.map es c,K=>K (.map es c)
 |.vec T s n g,K=>K (.vec T s n g)
 |.mp es,K=>K (.mp es)
 |.it a b c d,K=>K (.it a b c d)
 |.loop F a b c d e f g h,K=>K (.loop F a b c d e f g h)
 |.eh,K=>K .eh
 |.ax s C,K=>K (.ax s C)
theorem Ib (h:HB)(K:HB→Prop):AG h K=K h:=by cases h<;>simp[AG,gn]
def pK:List Nat→Nat→Bool
 |[],_=>false
 |x::r,t=>if Nat.beq x t then true else pK r t
theorem wY {l:List Nat}{t:Nat}:pK l t=true↔t∈l:=by
 induction l with
 |nil=>simp[pK]
 |cons x r ih =>
  simp only[pK,List.mem_cons]
  by_cases h:Nat.beq x t
  ·have:x=t:=by simpa using h
   simp[h,this]
  ·have:¬x=t:=by simpa using h
   simp[h,ih,Ne.symm this]
def qU:Option Prop→Prop→Prop
 |none,k=>k
 |some p,k=>aa p k
theorem vj {p:Option Prop}{k:Prop}(h:qU p k):fc p:=by
 cases p with
 |none=>trivial
 |some p=>exact h.h
theorem vh {p:Option Prop}{k:Prop}(h:qU p k):k:=by
 cases p with
 |none=>exact h
 |some p=>exact h.k
def xp (F:LF):GP→Prop→Prop
 |[],p=>p
 |(s,want)::r,p=>match F s with
  |some ⟨_,.sb q⟩=>(q=want→xp F r p)
  |_=>xp F r p
def CT (st:St)(d:Nat)(e:FE)(K:St→Prop):Prop:=match st with|⟨F,gs,H,nx,D⟩=>K ⟨(d,e)::F,gs,H,nx,D⟩
theorem Gv (st:St)(d:Nat)(e:FE)(K:St→Prop):CT st d e K=K { st with F:=(d,e)::st.F }:=by cases st;rfl
def Lq (st:St)(d:Nat)(e:FE)(jt:List Nat)(K:St→Prop):Prop:=match st with|⟨F,_,H,nx,D⟩=>K ⟨(d,e)::F,jt,H,nx,D⟩
theorem SR (st:St)(d:Nat)(e:FE)(jt:List Nat)(K:St→Prop):Lq st d e jt K=K { st with F:=(d,e)::st.F,gs:=jt }:=by cases st;rfl
def Gw (st:St)(l:List (Nat × HB))(aA:Nat)(K:St→Prop):Prop:=match st with|⟨F,gs,_,_,D⟩=>K ⟨F,gs,l,aA,D⟩
theorem Lr (st:St)(l:List (Nat × HB))(aA:Nat)(K:St→Prop):Gw st l aA K=K { st with H:=l,nx:=aA }:=by cases st;rfl
def vP:GP→(GP→Prop)→Prop
 |[],K=>K []
 |(s,p)::r,K=>vP r λr'=>K ((s,p)::r')
theorem D7 (π:GP)(K:GP→Prop):vP π K=K π:=by
 induction π generalizing K with
 |nil=>rfl
 |cons x r ih=>obtain⟨s,p⟩:=x;simp[vP,ih]
def vQ:List Nat→(List Nat→Prop)→Prop
 |[],K=>K []
 |x::r,K=>vQ r λr'=>K (x::r')
theorem D9 (l:List Nat)(K:List Nat→Prop):vQ l K=K l:=by
 induction l generalizing K with
 |nil=>rfl
 |cons x r ih=>simp[vQ,ih]
def xH (e:zz)(st:St)(v:SV)(d:Option Nat)(K:St→Prop):Prop :=
 match e with
 |.no=>fX v λv'=>(match d with
  |some d=>CT st d ⟨[],v'⟩ K
  |none=>K st)
 |.new hb=>AG hb λhb'=>fa (st.nx+1) λaA=>fX v λv'=>Gw st ((st.nx,hb')::st.H) aA λst=>(match d with
  |some d=>CT st d ⟨[],v'⟩ K
  |none=>K st)
 |.st id off cs=>(match ab st.H id with
  |some (.cells T cw)=>eT (iZ cw off cs) λnew=>(match d with
   |some _=>False
   |none=>Gw st ((id,.cells T new)::st.H) st.nx K)
  |_=>False)
def uf (X:Cx)(F:LF)(π:GP)(H:LH)(fr:Nat)(c:Call):Option cJ :=
 match c.callee with
 |.value f=>(match ev F π f,nJ F π c.args.toList with
  |some (.fn (.func n) first ja),some l=>(match X.C n with
   |some ct=>ct fr (first++(l++ja)) H
   |none=>none)
  |_,_=>none)
 |_=>none
def rG:Op→Option Call
 |.call c=>some c
 |_=>none
def guardOf (ops:List Oper)(F:LF)(g:Option (Nat × Bool)):Option GP :=
 match g with
 |none=>some []
 |some (j,want)=>(match nth ops j with
  |some o=>(match o.dst with
   |some d=>(match F d with
    |some e=>some ((d,want)::e.gp)
    |none=>none)
   |none=>none)
  |none=>none)
def o_:GP→List Nat→List Nat
 |[],l=>l
 |(s,_)::r,l=>if pK l s then o_ r l else o_ r (s::l)
def aaj:Option FE→Bool
 |none=>true
 |some _=>false
def eF (gs:List Nat)(nt:Nat)(d:Option Nat):Bool :=
 match d with
 |some d=>(match Nat.ble nt d with
  |true=>true
  |false=>pK gs d)
 |none=>false
def CZ (F:LF)(π:GP):Option Prop→Option Prop
 |none=>none
 |some p=>some (xp F π p)
def rM:GP→Bool
 |[]=>true
 |_::_=>false
def D5:List (Nat × HB)→List (Nat × HB)→(List (Nat × HB)→Prop)→Prop
 |[],m,K=>K m
 |x::r,m,K=>D5 r m λl=>K (x::l)
theorem Wq (l m:List (Nat × HB))(K:List (Nat × HB)→Prop):D5 l m K=K (l++m):=by
 induction l generalizing K with
 |nil=>rfl
 |cons x r ih=>simp[D5,ih]
def Dr (v:SV)(news:List (Nat × HB))(st:St)(d:Option Nat)(K:St→Prop):Prop :=
 match news with
 |[]=>fX v λv'=>(match d with
  |some d=>CT st d ⟨[],v'⟩ K
  |none=>K st)
 |n::r=>fa (st.nx+4) λaA=>fX v λv'=>D5 (n::r) st.H λl=>Gw st l aA λst=>(match d with
  |some d=>CT st d ⟨[],v'⟩ K
  |none=>K st)
def RU (bL:Option (Bool × List PanicEntry))(st:St)(Kp:List PanicEntry→St→Prop)(k:Prop):Prop :=
 match bL with
 |none=>k
 |some (c,ch)=>Br c (Kp ch st) k
def Cy (X:Cx)(ops:List Oper)(o:Oper)(st:St)(Fb:Prop)(K:St→Prop)(Kp:List PanicEntry→St→Prop):Prop :=
 match guardOf ops (findF st.F) o.guard,eF st.gs X.nt o.dst with
 |some π,false=>(match rM π with
  |true=>(match core X.T (findF st.F) [] (ab st.H) st.nx o.op with
   |some ⟨pre,v,bT⟩=>qU pre (xH bT st v o.dst K)
   |none=>(match rG o.op with
    |some c=>(match uf X (findF st.F) [] (ab st.H) st.nx c with
     |some ⟨pre,bL,v,news⟩=>qU pre (RU bL st Kp (Dr v news st o.dst K))
     |none=>Fb)
    |none=>Fb))
  |false=>(match o.dst with
   |some d=>(match aaj (findF st.F d),core X.T (findF st.F) π (ab st.H) st.nx o.op with
    |true,some ⟨pre,v,.no⟩=>qU (CZ (findF st.F) π pre) (fX v λv'=>vP π fun qT=>vQ (o_ π st.gs) λjt=>Lq st d ⟨qT,v'⟩ jt K)
    |true,none=>(match rG o.op with
     |some c=>(match uf X (findF st.F) π (ab st.H) st.nx c with
      |some ⟨pre,none,v,[]⟩=>qU (CZ (findF st.F) π pre) (fX v λv'=>vP π fun qT=>vQ (o_ π st.gs) λjt=>Lq st d ⟨qT,v'⟩ jt K)
      |_=>Fb)
     |none=>Fb)
    |_,_=>Fb)
   |none=>Fb))
 |_,_=>Fb
structure eB (X:Cx) (ops:List Oper) (Q:Exit→Act→World→Prop) (K:St→Prop) (Kp:List PanicEntry→St→Prop) (i:Nat) (o:Oper) (r:List Oper) (st:St):Prop where
 h:∀ρ a w,Mod X ρ st a w→wpOpsIn (FW X.r) 0 X.P ops.toArray Q (List.range' i (r.length+1)) a w
def c7 (X:Cx)(ops:List Oper)(Q:Exit→Act→World→Prop)(K:St→Prop)(Kp:List PanicEntry→St→Prop):Nat→List Oper→St→Prop
 |_,[],st=>K st
 |i,o::r,st=>Cy X ops o st (eB X ops Q K Kp i o r st)
   (c7 X ops Q K Kp (i+1) r) Kp
def mN (st:St)(K:St→Prop):Prop :=
 match st.gs with
 |[]=>K st
 |_::_=>K st
def exec (X:Cx)(c:Code)(st:St)(K:Ex→St→Prop):Prop :=
 match c with
 |.skip=>K .normal st
 |.region id ops false=>c7 X ops.toList (sf X K) (λst=>mN st (K .normal)) (λch st=>K (.panic ch) st) 0 ops.toList st
 |.region id ops true=>aX X (.region id ops true) st K
 |.seq x y=>exec X x st λe st=>match e with
  |.normal=>exec X y st K
  |e=>K e st
 |.cond c x y=>(match ev (findF st.F) [] c with
  |some (.sb p)=>Br p (exec X x st K) (exec X y st K)
  |_=>aX X (.cond c x y) st K)
 |.block n x=>exec X x st λe st=>match e with
  |.exit m=>(match Nat.beq m n with
   |true=>K .normal st
   |false=>K (.exit m) st)
  |e=>K e st
 |.ret=>K .ret st
 |.exit n=>K (.exit n) st
 |.label _=>K .normal st
 |.scope c=>exec X c st K
 |c=>aX X c st K
theorem Dc {a:Act}{gp:GP}{d:Nat}{v:Value}(h:∀x∈gp,x.1≠d):bu (a.put (some d) v) gp↔bu a gp:=by
 have key:∀x∈gp,(a.put (some d) v).tmps[x.1]?=a.tmps[x.1]?:=λx hx=>by
  simp[Act.put,Array.getElem?_setIfInBounds,Ne.symm (h x hx)]
 constructor
 ·intro hs x hx;rw[←key x hx];exact hs x hx
 ·intro hs x hx;rw[key x hx];exact hs x hx
theorem FM.ext {ρ ρ':Env}{F:LF}{a:Act}(h:FM ρ F a)(k:Ext ρ ρ'):FM ρ' F a :=
 λt e hf=>⟨λhs=>let ⟨v,h1,h2⟩:=(h t e hf).1 hs;⟨v,h1,uj k _ _ h2⟩,(h t e hf).2⟩
theorem FM.put {ρ:Env}{F:List (Nat × FE)}{a:Act}(h:FM ρ (findF F) a){d:Nat}(hd:d<a.tmps.size){s:SV}{v:Value}{gp:GP}
  (hg:∀t e,findF F t=some e→∀x∈e.gp,x.1≠d) (oa:∀x∈gp,x.1≠d) (hv:bu a gp→den ρ s=some v) (hn:¬bu a gp→v=undef) :
  FM ρ (findF ((d,⟨gp,s⟩)::F)) (a.put (some d) v):=by
 intro t e hf
 by_cases mm:d=t
 ·subst mm
  rw[je] at hf;cases hf
  have jv:(a.put (some d) v).tmps[d]?=some v:=by simp[Act.put,Array.getElem?_setIfInBounds,hd]
  rw[Dc oa]
  exact⟨λhs=>⟨v,jv,hv hs⟩,λhs=>by rw[jv,hn hs]⟩
 ·rw[iB _ _ mm] at hf
  have jv:(a.put (some d) v).tmps[t]?=a.tmps[t]?:=by simp[Act.put,Array.getElem?_setIfInBounds,mm]
  rw[Dc (hg t e hf),jv]
  exact h t e hf
def R5 (F:List (Nat × FE))(d:Option Nat)(s:SV):List (Nat × FE) :=
 match d with
 |some d=>(d,⟨[],s⟩)::F
 |none=>F
theorem size_put (a:Act)(d:Option Nat)(v:Value):(a.put d v).tmps.size=a.tmps.size:=by cases d<;>simp[Act.put]
theorem HJ (a:Act)(d:Option Nat)(v:Value):(a.put d v).defers=a.defers:=by cases d<;>rfl
theorem za {gs:List Nat}{nt d:Nat}(h:eF gs nt (some d)=false):d<nt∧d ∉ gs:=by
 simp only[eF] at h
 split at h
 ·cases h
 ·rename_i hb
  have h1:¬nt≤d:=λhle=>by rw[Nat.ble_eq_true_of_le hle] at hb;cases hb
  refine⟨by omega,λhm=>?_⟩
  rw[wY.2 hm] at h;cases h
section
variable {X:Cx}{ρ:Env}{st:St}{a:Act}{w:World}
theorem Mod.put (hm:Mod X ρ st a w){d:Option Nat}{s:SV}{v:Value}(hp:eF st.gs X.nt d=false)(hv:den ρ s=some v) :
  Mod X ρ { st with F:=R5 st.F d s } (a.put d v) w:=by
 cases d with
 |none=>exact hm
 |some d =>
  obtain⟨h1,h2⟩:=za hp
  exact{
   fm:=hm.fm.put (by rw[hm.sz];exact h1) (λt e hf x hx e1=>h2 (e1 ▸ hm.gs t e hf x hx)) (λx hx=>by cases hx) (λ_=>hv) (λhn=>absurd (λx hx=>by cases hx) hn)
   gs:=λt e hf x hx=>by
    have hf:findF ((d,⟨[],s⟩)::st.F) t=some e:=hf
    by_cases mm:d=t
    ·subst mm;rw[je] at hf;cases hf;cases hx
    ·rw[iB _ _ mm] at hf;exact hm.gs t e hf x hx
   df:=by rw[HJ];exact hm.df
   hm:=hm.hm
   kp:=hm.kp
   nx:=hm.nx
   sz:=by rw[size_put];exact hm.sz }
theorem IF {π:GP}{l:List Nat}:(∀x∈l,x∈o_ π l)∧∀x∈π,x.1∈o_ π l:=by
 induction π generalizing l with
 |nil=>exact⟨λx hx=>hx,λx hx=>by cases hx⟩
 |cons y r ih =>
  obtain⟨s,p⟩:=y
  simp only[o_]
  split
  ·rename_i gU
   have YZ:=wY.1 gU
   refine⟨ih.1,λx hx=>?_⟩
   rcases List.mem_cons.1 hx with rfl|hx
   ·exact ih.1 _ YZ
   ·exact ih.2 x hx
  ·refine⟨λx hx=>ih.1 x (List.mem_cons_of_mem _ hx),λx hx=>?_⟩
   rcases List.mem_cons.1 hx with rfl|hx
   ·exact ih.1 _ List.mem_cons_self
   ·exact ih.2 x hx
theorem Mod.CE (hm:Mod X ρ st a w){d:Nat}{s:SV}{v:Value}{π:GP}(hp:eF st.gs X.nt (some d)=false)(aW:∀x∈π,x.1≠d)
  (hv:bu a π→den ρ s=some v) (hn:¬bu a π→v=undef) :
  Mod X ρ { st with F:=(d,⟨π,s⟩)::st.F,gs:=o_ π st.gs } (a.put (some d) v) w:=by
 obtain⟨h1,h2⟩:=za hp
 exact{
  fm:=hm.fm.put (by rw[hm.sz];exact h1) (λt e hf x hx e1=>h2 (e1 ▸ hm.gs t e hf x hx)) aW hv hn
  gs:=λt e hf x hx=>by
   by_cases mm:d=t
   ·subst mm;rw[je] at hf;cases hf;exact IF.2 x hx
   ·rw[iB _ _ mm] at hf;exact IF.1 _ (hm.gs t e hf x hx)
  df:=by rw[HJ];exact hm.df
  hm:=hm.hm
  kp:=hm.kp
  nx:=hm.nx
  sz:=by rw[size_put];exact hm.sz }
theorem Mod.new (hm:Mod X ρ st a w){d:Option Nat}{s:SV}{v:Value}{hb:HB}{nm:Nm}{o:Obj}(hp:eF st.gs X.nt d=false)
  (hv:den (aq ρ st.nx nm) s=some v) (ap:ao (aq ρ st.nx nm) (w.alloc o) hb nm) (cM:∀b,nm.owner=some b→b=w.heap.size) (kq:∀b,eX nm=some b→b=w.heap.size) (ma:∀s C,hb≠.ax s C:=by intro s C h;cases h) :
  Mod X (aq ρ st.nx nm) { st with F:=R5 st.F d s,H:=(st.nx,hb)::st.H,nx:=st.nx+1 } (a.put d v) (w.alloc o):=by
 have hf:ρ st.nx=none:=hm.nx _ (Nat.le_refl _)
 have h0:Mod X (aq ρ st.nx nm) { st with H:=(st.nx,hb)::st.H,nx:=st.nx+1 } a (w.alloc o):={
  fm:=hm.fm.ext (Ext.aq nm hf)
  gs:=hm.gs
  df:=hm.df.ext (Ext.aq nm hf)
  hm:=hm.hm.push hf o ap cM kq ma
  kp:=hm.kp.push hf o cM ma
  nx:=λj hj=>by rw[bF _ _ (by have:st.nx+1≤j:=hj;omega)];exact hm.nx j (by have:st.nx+1≤j:=hj;omega)
  sz:=hm.sz }
 exact h0.put hp hv
theorem Mod.stored (hm:Mod X ρ st a w){id off:Nat}{cs:List SV}{TT:Nat}{cw:List SV}{b:Nat}{w':World}{us:List Value}(hf:ab st.H id=some (.cells TT cw))
  (hn:ρ id=some (.bO b)) (hc:ai ρ cs=some us) (hu:us.all (·.oneCell')=true) (dI:off+cs.length≤cw.length) (hs:w'.heap.size=w.heap.size) (hk:∀k,k≠b→w'.heap[k]?=w.heap[k]?)
  (hb:∀vs,ai ρ cw=some vs→w'.heap[b]?=some (.cells (vs.take off++us++vs.drop (off+us.length)).toArray TT (0,0))) (bD:dF w w') :
  Mod X ρ { st with H:=(id,.cells TT (iZ cw off cs))::st.H } a w':=by
 obtain⟨nm,eN,ap⟩:=hm.hm.ok _ _ hf
 rw[hn] at eN;cases eN
 obtain⟨vs,h1,h2,h3⟩:=ap
 have s9:ao ρ w' (.cells TT (iZ cw off cs)) (.bO b):=by
  refine⟨_,Ao h1 hc off dI,?_,hb vs h1⟩
  rw[List.all_eq_true] at h2 hu ⊢
  intro y hy
  simp only[List.mem_append] at hy
  rcases hy with(hy|hy)|hy
  ·exact h2 y (List.mem_of_mem_take hy)
  ·exact hu y hy
  ·exact h2 y (List.mem_of_mem_drop hy)
 exact{
  fm:=hm.fm
  gs:=hm.gs
  df:=hm.df
  hm:=hm.hm.put hf rfl hn rfl (by omega) (λk _ mi=>hk k mi) s9 rfl (λ_ _ _ h=>by cases h)
  kp:=hm.kp.put hf rfl hn rfl (by omega) (λk _ mi=>hk k mi) bD
  nx:=hm.nx
  sz:=hm.sz }
theorem Ug (hm:Mod X ρ st a w){d:Option Nat}{out:Out}{K:St→Prop}{nv:Result Next}(hp:eF st.gs X.nt d=false)
  (h:xH out.bT st out.v d K) (ho:sd ρ (ab st.H) st.nx w nv out) :
  (∃v w',nv=.ok (.value v) w'∧∃ρ' af,Mod X ρ' af (a.put d v) w'∧K af)∨(∃w',nv=.ok .skip w'∧∃ρ' af,Mod X ρ' af (a.put d undef) w'∧K af):=by
 obtain⟨pre,s,bT⟩:=out
 cases bT with
 |no =>
  obtain⟨v,h1,h2⟩:=ho
  simp only[xH,mP,Gv] at h
  refine .inl ⟨v,w,h1,ρ,_,hm.put hp h2,?_⟩
  cases d<;>exact h
 |new hb =>
  obtain⟨v,nm,o,h1,h2,h3,h4,h5,h6⟩:=ho
  simp only[xH,mP,Ib,fw,Gv,Lr] at h
  refine .inl ⟨v,_,h1,_,_,hm.new hp h2 h3 h4 h5 h6,?_⟩
  cases d<;>exact h
 |st id off cs =>
  obtain⟨TT,cw,b,w',us,h1,h2,h3,h4,h5,h6,h7,h8,h9,yq⟩:=ho
  simp only[xH,h1,gn,Lr] at h
  cases d with
  |some d=>exact h.elim
  |none=>exact .inr ⟨w',h6,ρ,_,hm.stored h1 h2 h3 h4 h5 h7 h8 h9 yq,h⟩
theorem uh {T:cf}{F:LF}{π:GP}{H:LH}{fr:Nat}{op:Op}{out:Out}(h:core T F π H fr op=some out):∀c,op≠.defer c:=by
 rintro c rfl
 cases h
theorem Ac (hX:X.Ok){F:LF}{π:GP}{H:LH}{fr:Nat}(hF:FM ρ F a)(aW:bu a π)(hH:HM ρ H w)(mc:∀j,fr≤j→j<fr+4→ρ j=none){c:Call}{ty:Nat}{out:cJ}
  (h:uf X F π H fr c=some out) (hp:fc out.pre) :
  ∃n args,(do let d ←resolve a.eval c ty;invoke d.target d.args:Sem Next).run X.P w=.ok (.enter n args) w∧Calls X.P n args w (xw ρ H fr w out):=by
 unfold uf at h
 split at h
 ·rename_i f hc
  split at h
  ·rename_i n first ja l e1 e2
   split at h
   ·rename_i ct e3
    have hf:=aQ hF aW e1
    have hl:=q7 hF aW e2
    simp only[den] at hf
    cases d1:ai ρ first with
    |none=>simp[d1] at hf
    |some x =>
     cases d2:ai ρ ja with
     |none=>simp[d1,d2] at hf
     |some y =>
      simp only[d1,d2,Option.some.injEq] at hf
      have hd:=sE d1 (sE hl d2)
      have gr:=hX.calls n ct e3 ρ H w fr _ _ out hH mc hd h hp
      refine⟨n,_,?_,gr⟩
      have fI:(resolve a.eval c ty).run X.P w=.ok { target:=.fn (.func n) y.toArray,args:=x.toArray++c.args.map a.eval } w:=by
       simp only[resolve,hc,←hf]
       rfl
      rw[Sem.run_bind,fI]
      simp only[Result.andThen,invoke]
      have he:(x.toArray++c.args.map a.eval++y.toArray)=(x++(c.args.toList.map a.eval++y)).toArray:=by
       apply Array.ext';simp
      rw[he]
      exact hX.MV n ct e3 _ w
   ·cases h
  ·cases h
 ·cases h
theorem pX.mod (hm:Mod X ρ st a w){out:cJ}{v:Value}{w':World}{ρ':Env}(h:pX ρ (ab st.H) st.nx w out v w' ρ') :
  Mod X ρ' { st with H:=out.news++st.H,nx:=st.nx+4 } a w' where
 fm:=hm.fm.ext h.ext
 gs:=hm.gs
 df:=hm.df.ext h.ext
 hm:=by show HM ρ' (ab (out.news++st.H)) w';rw[w4];exact h.hm
 kp:={
  str:=hm.kp.str.trans h.str
  size:=Nat.le_trans hm.kp.size h.size
  same:=λb hb hM=>(h.same b (by have:=hm.kp.size;omega)).trans (hm.kp.same b hb hM)
  own:=λb ho=>by
   have ho:Own ρ' (ab (out.news++st.H)) b:=ho
   rw[w4] at ho
   rcases h.own b ho with h1|h1
   ·exact hm.kp.own b h1
   ·have:=hm.kp.size;exact .inr (by omega)
  ext:=hm.kp.ext.trans h.ext
  fz:=λb hz=>by
   have hz:Fz (ab (out.news++st.H)) b:=hz
   rw[w4] at hz
   exact hm.kp.fz b (h.fz b hz) }
 nx:=λj hj=>by
  have gT:st.nx+4≤j:=hj
  have e:ρ' j=ρ j:=by
   rcases Classical.em (ρ' j=ρ j) with e|e
   ·exact e
   ·have:=h.fresh j e;omega
  rw[e];exact hm.nx j (by omega)
 sz:=hm.sz
theorem pX.Rl (hm:Mod X ρ st a w){out:cJ}{v:Value}{w':World}{ρ':Env}(h:pX ρ (ab st.H) st.nx w out v w' ρ')(hn:out.news=[]):Mod X ρ st a w'∧Go.X.den ρ out.v=some v:=by
 have e:ρ'=ρ:=funext λj=>by
  rcases Classical.em (ρ' j=ρ j) with e|e
  ·exact e
  ·obtain⟨_,_,hb,hm⟩:=h.fresh j e
   rw[hn] at hm;cases hm
 subst e
 have:=h.mod hm
 rw[hn] at this
 exact⟨{ fm:=this.fm,gs:=this.gs,df:=this.df,hm:=this.hm,kp:=this.kp,nx:=hm.nx,sz:=this.sz },h.den⟩
end
end Go.X
