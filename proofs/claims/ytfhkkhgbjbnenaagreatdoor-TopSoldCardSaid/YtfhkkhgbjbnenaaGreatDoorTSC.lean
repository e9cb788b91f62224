/- Contracts out of walks; Slices: the executor's steps of make, copy, append. -/
import Derived.Test.YtfhkkhgbjbnenaaGreatDoorTSB
import Derived.RecoverIn
import Derived.Laws.NewFold
import Derived.Laws.IdiomRangeMap
import Derived.Laws.AppendOwn
import Derived.Laws.CopyRow

set_option linter.unusedVariables false
set_option linter.unusedSimpArgs false
set_option linter.unusedSectionVars false
set_option maxRecDepth 100000
set_option maxHeartbeats 4000000

namespace Go.X
open Go
def BY:List Nat→Nat→Nat
 |[],_=>0
 |x::r,j=>if Nat.beq x j then 0 else BY r j+1
def u5 (n:Nat)(ps:List (Nat × HB))(K:List Nat)(fr j:Nat):Nat :=
 match Nat.ble (j+1) n with
 |true=>nz ps j
 |false=>fr+BY K j
def known (n:Nat)(K:List Nat)(j:Nat):Prop:=j<n∨j∈K
mutual
def di (n:Nat)(K:List Nat):SV→Bool
 |.sp i _=>kn n K i
 |.se i _ _=>kn n K i
 |.sl i=>kn n K i
 |.sm i=>kn n K i
 |.fy i=>kn n K i
 |.ss i _ _ _=>kn n K i
 |.agg l=>eU n K l
 |.bn l=>eU n K l
 |.fn _ a b=>match eU n K a with
  |true=>eU n K b
  |false=>false
 |.cg _ x=>di n K x
 |.sv _=>true
 |.si _ _=>true
 |.sb _=>true
def eU (n:Nat)(K:List Nat):List SV→Bool
 |[]=>true
 |x::r=>match di n K x with
  |true=>eU n K r
  |false=>false
def kn (n:Nat)(K:List Nat)(j:Nat):Bool :=
 match Nat.ble (j+1) n with
 |true=>true
 |false=>pK K j
end
theorem ku {n:Nat}{K:List Nat}{j:Nat}(h:kn n K j=true):known n K j:=by
 rw[kn] at h
 split at h
 ·rename_i h1;exact .inl (Nat.le_of_ble_eq_true h1)
 ·exact .inr (wY.1 h)
mutual
theorem Kr {n:Nat}{K:List Nat}:∀(x:SV),di n K x=true→sa (known n K) x
 |.sp i _,h=>ku (by simpa [di] using h)
 |.se i _ _,h=>ku (by simpa [di] using h)
 |.sl i,h=>ku (by simpa [di] using h)
 |.sm i,h=>ku (by simpa [di] using h)
 |.fy i,h=>ku (by simpa [di] using h)
 |.ss i _ _ _,h=>ku (by simpa [di] using h)
 |.agg l,h=>pI l (by simpa [di] using h)
 |.bn l,h=>pI l (by simpa [di] using h)
 |.fn _ a b,h=>by
  rw[di] at h
  split at h
  ·rename_i e;exact⟨pI a e,pI b h⟩
  ·cases h
 |.cg _ x,h=>Kr x (by simpa [di] using h)
 |.sv _,_=>trivial
 |.si _ _,_=>trivial
 |.sb _,_=>trivial
theorem pI {n:Nat}{K:List Nat}:∀(l:List SV),eU n K l=true→iM (known n K) l
 |[],_=>trivial
 |x::r,h=>by
  rw[eU] at h
  split at h
  ·rename_i e;exact⟨Kr x e,pI r h⟩
  ·cases h
end
def tX (n:Nat)(K:List Nat)(r:Nat→Nat):HB→HB→Prop
 |.cells T cs,hb=>xz (.cells T (cX r cs)) hb∧eU n K cs=true
 |.row T s m xs,.row T' s' m' ys=>xz (.row T s m (cX r xs)) (.row T' s' m' ys)∧eU n K xs=true
 |.row T s m xs,.ro s' m' g=>s=s'∧m=m'∧∀i,i<m→cX r ((xs.drop (i*s)).take s)=g i∧eU n K ((xs.drop (i*s)).take s)=true
 |.vec T s m g',.ro s' m' g=>s=s'∧m=m'∧∀i,i<m→cX r (g' i)=g i∧eU n K (g' i)=true
 |.vec T s m g',.vec T' s' m' g=>T=T'∧s=s'∧m=m'∧∀i,i<m→cX r (g' i)=g i∧eU n K (g' i)=true
 |.map es c,.mp l=>(es.map λe=>(e.1,e.2.1)).Perm l
 |.mp es,.mp l=>es.Perm l
 |_,_=>False
def FN (n:Nat)(K:List Nat)(r:Nat→Nat)(H':List (Nat × HB)):List Nat→Nat→List (Nat × HB)→Prop
 |[],_,[]=>True
 |k::ks,fr,(j,hb)::l=>j=fr∧(match ab H' k with
  |some h=>tX n K r h hb
  |none=>False)∧FN n K r H' ks (fr+1) l
 |_,_,_=>False
def qD (H':List (Nat × HB)):List (Nat × HB)→Prop
 |[]=>True
 |(j,hb)::r=>(match qG hb with
  |true=>(match ab H' j with
   |some h=>xz h hb
   |none=>False)
  |false=>True)∧qD H' r
def yZ (n:Nat):List Nat→Bool
 |[]=>true
 |k::r=>match Nat.ble n k,pK r k with
  |true,false=>yZ n r
  |_,_=>false
def SG:List Nat→Bool
 |[]=>true
 |[_]=>true
 |[_,_]=>true
 |[_,_,_]=>true
 |[_,_,_,_]=>true
 |_=>false
structure pZ (ps:List (Nat × HB)) (K:List Nat) (fr:Nat) (out:cJ) (v:SV) (st:St):Prop where
 val:eY (bX (u5 ps.length ps K fr) v) out.v
 LO:di ps.length K v=true
 news:FN ps.length K (u5 ps.length ps K fr) st.H K fr out.news
 Fs:qD st.H (kA 0 ps)
 Ca:yZ ps.length K=true
 short:SG K=true
theorem Ko {H':List (Nat × HB)}:∀{l:List (Nat × HB)},qD H' l→∀j hb,ab l j=some hb→qG hb=true→ab H' j=some hb
 |[],_,j,hb,h,_=>by cases h
 |(i,x)::r,hk,j,hb,h,ho=>by
  simp only[qD] at hk
  simp only[ab] at h
  split at h
  ·rename_i e
   have:i=j:=by simpa using e
   subst this;cases h
   have h1:=hk.1
   rw[ho] at h1
   simp only at h1
   split at h1
   ·rename_i h' e';rw[e',zE h1]
   ·exact h1.elim
  ·exact Ko hk.2 j hb h ho
theorem Rq {n:Nat}{K:List Nat}{r:Nat→Nat}{H':List (Nat × HB)}:∀{ks:List Nat} {fr:Nat} {l:List (Nat × HB)},FN n K r H' ks fr l→∀id hb,ab l id=some hb →
  ∃(i k:Nat) (h:HB),ks[i]?=some k∧id=fr+i∧ab H' k=some h∧tX n K r h hb
 |[],fr,[],_,id,hb,h=>by cases h
 |k::ks,fr,(j,x)::l,hp,id,hb,h=>by
  obtain⟨h1,h2,h3⟩:=hp
  simp only[ab] at h
  split at h
  ·rename_i e
   have:j=id:=by simpa using e
   subst this;cases h
   split at h2
   ·rename_i h' e'
    exact⟨0,k,h',by simp,by omega,e',h2⟩
   ·exact h2.elim
  ·obtain⟨i,k',h',a1,a2,a3⟩:=Rq h3 id hb h
   exact⟨i+1,k',h',by simpa using a1,by omega,a3⟩
 |[],fr,_::_,hp,id,hb,h=>hp.elim
 |_::_,fr,[],hp,id,hb,h=>hp.elim
theorem KE {n:Nat}{K:List Nat}{r:Nat→Nat}{H':List (Nat × HB)}:∀{ks:List Nat} {fr:Nat} {l:List (Nat × HB)},FN n K r H' ks fr l→∀(i k:Nat),ks[i]?=some k→∃hb h,(fr+i,hb)∈l∧ab H' k=some h
 |[],fr,[],_,i,k,h=>by simp at h
 |k::ks,fr,(j,x)::l,hp,i,k',h=>by
  obtain⟨h1,h2,h3⟩:=hp
  subst h1
  cases i with
  |zero =>
   simp at h;subst h
   split at h2
   ·rename_i h' e'
    exact⟨x,h',by simp,e'⟩
   ·exact h2.elim
  |succ i =>
   simp at h
   obtain⟨hb,h',a1,a2⟩:=KE h3 i k' h
   exact⟨hb,h',List.mem_cons_of_mem _ (by rw[show j+(i+1)=j+1+i by omega];exact a1),a2⟩
 |[],fr,_::_,hp,i,k,h=>hp.elim
 |_::_,fr,[],hp,i,k,h=>hp.elim
theorem RI {n:Nat}:∀{K:List Nat},yZ n K=true→∀k∈K,n≤k
 |[],_,k,h=>by cases h
 |x::r,h,k,hk=>by
  simp only[yZ] at h
  split at h
  ·rename_i h1 h2
   rcases List.mem_cons.1 hk with rfl|hk
   ·exact Nat.le_of_ble_eq_true h1
   ·exact RI h k hk
  ·cases h
theorem KL {n:Nat}:∀{K:List Nat},yZ n K=true→∀(i j k:Nat),K[i]?=some k→K[j]?=some k→i=j
 |[],_,i,j,k,h,_=>by simp at h
 |x::r,h,i,j,k,hi,hj=>by
  simp only[yZ] at h
  split at h
  ·rename_i h1 h2
   have hx:x ∉ r:=λhm=>by rw[wY.2 hm] at h2;cases h2
   cases i with
   |zero =>
    simp at hi;subst hi
    cases j with
    |zero=>rfl
    |succ j=>simp at hj;exact absurd (List.mem_of_getElem? hj) hx
   |succ i =>
    simp at hi
    cases j with
    |zero=>simp at hj;subst hj;exact absurd (List.mem_of_getElem? hi) hx
    |succ j=>simp at hj;rw[KL h i j k hi hj]
  ·cases h
theorem Qi:∀{K:List Nat} {j:Nat},j∈K→K[BY K j]?=some j
 |[],j,h=>by cases h
 |x::r,j,h=>by
  simp only[BY]
  split
  ·rename_i e
   have:x=j:=by simpa using e
   subst this;simp
  ·rename_i e
   rcases List.mem_cons.1 h with rfl|h
   ·simp at e
   ·simpa using Qi h
theorem ac2 {K:List Nat}(h:SG K=true):K.length≤4:=by
 match K,h with
 |[],_=>simp
 |[_],_=>simp
 |[_,_],_=>simp
 |[_,_,_],_=>simp
 |[_,_,_,_],_=>simp
 |_::_::_::_::_::_,h=>cases h
def Fg:Option HB→Bool
 |some hb=>iH hb
 |none=>false
def tY (hb:HB)(nm:Nm):Nm:=if iH hb then ib nm else nm
theorem q9 {n:Nat}{K:List Nat}{r:Nat→Nat}{h hb:HB}(k:tX n K r h hb):h.live=true:=by
 cases h<;>first|rfl|exact k.elim
theorem UH {ρ ρ':Env}{w:World}{n:Nat}{K:List Nat}{r:Nat→Nat}{h hb:HB}{nm:Nm}(hs:zG ρ ρ' r (known n K))(k:tX n K r h hb)(ho:ao ρ w h nm):ao ρ' w hb (tY hb nm):=by
 cases h with
 |cells T cs =>
  obtain⟨k1,k2⟩:=k
  rw[←zE k1]
  cases nm<;>simp only[ao] at ho
  obtain⟨vs,d1,d2⟩:=ho
  exact⟨vs,by rw[lZ hs _ (pI _ k2)];exact d1,d2⟩
 |row T s m xs =>
  cases nm<;>simp only[ao] at ho
  rename_i nb n' c' s'
  obtain⟨e1,e2,e3,vs,rest,d1,d2,d3,d4,d5⟩:=ho
  cases hb with
  |row T' s2 m' ys =>
   obtain⟨k1,k2⟩:=k
   have:=zE k1
   cases this
   exact⟨e1,e2,e3,vs,rest,by rw[lZ hs _ (pI _ k2)];exact d1,d2,d3,d4,d5⟩
  |ro s2 m' g =>
   obtain⟨rfl,rfl,k3⟩:=k
   refine⟨e1,e2,e3.1,λhn=>?_⟩
   have aG:nb<w.heap.size:=by
    rcases Nat.lt_or_ge nb w.heap.size with h|h
    ·exact h
    ·rw[Array.getElem?_eq_none h] at d5;cases d5
   refine⟨⟨nb,0,none⟩,rfl,aG,λi dD=>?_⟩
   obtain⟨k4,k5⟩:=k3 i dD
   have hd:=An d1 (i*s) s
   have hle:i*s+s≤m*s:=by
    have:(i+1)*s≤m*s:=Nat.mul_le_mul_right _ dD
    rw[Nat.add_mul] at this;omega
   refine⟨_,by rw[←k4,lZ hs _ (pI _ k5)];exact hd,?_,by simp;omega,λj v hv=>?_⟩
   ·rw[List.all_eq_true] at d2 ⊢
    intro x qA
    exact d2 x (List.mem_of_mem_drop (List.mem_of_mem_take qA))
   ·rw[List.getElem?_take] at hv
    split at hv
    ·rename_i hj
     rw[List.getElem?_drop] at hv
     rw[lR]
     simp only[World.cell?,d5]
     simp only[List.getElem?_toArray]
     rw[List.getElem?_append_left (by have:=iI hv;omega)]
     exact hv
    ·cases hv
  |_=>exact k.elim
 |vec T s m g' =>
  cases nm<;>simp only[ao] at ho
  ·obtain⟨rfl,rfl,rfl,rfl,rfl⟩:=ho
   cases hb with
   |ro s2 m' g =>
    obtain⟨rfl,rfl,k3⟩:=k
    exact⟨rfl,rfl,Nat.le_refl _,λh=>by omega⟩
   |vec T' s2 m' g =>
    obtain⟨rfl,rfl,rfl,k3⟩:=k
    exact⟨rfl,rfl,rfl,rfl,rfl⟩
   |_=>exact k.elim
  rename_i nb n' c' s'
  obtain⟨e1,e2,e3,cells,d5,d6,d7⟩:=ho
  cases hb with
  |ro s2 m' g =>
   obtain⟨rfl,rfl,k3⟩:=k
   refine⟨e1,e2,e3.1,λhn=>?_⟩
   have aG:nb<w.heap.size:=by
    rcases Nat.lt_or_ge nb w.heap.size with h|h
    ·exact h
    ·rw[Array.getElem?_eq_none h] at d5;cases d5
   refine⟨⟨nb,0,none⟩,rfl,aG,λi dD=>?_⟩
   obtain⟨k4,k5⟩:=k3 i dD
   obtain⟨vs,c1,c2,c3,c4⟩:=d7 i dD
   refine⟨vs,by rw[←k4,lZ hs _ (pI _ k5)];exact c1,c2,c3,λj v hv=>?_⟩
   rw[lR]
   simp only[World.cell?,d5]
   simp only[List.getElem?_toArray]
   exact c4 j v hv
  |vec T' s2 m' g =>
   obtain⟨rfl,rfl,rfl,k3⟩:=k
   refine⟨e1,e2,e3,cells,d5,d6,λi dD=>?_⟩
   obtain⟨k4,k5⟩:=k3 i dD
   obtain⟨vs,c1,c2,c3,c4⟩:=d7 i dD
   exact⟨vs,by rw[←k4,lZ hs _ (pI _ k5)];exact c1,c2,c3,c4⟩
  |_=>exact k.elim
 |map es c =>
  cases nm<;>simp only[ao] at ho
  cases hb with
  |mp l=>exact⟨es,c,ho,k⟩
  |_=>exact k.elim
 |mp es =>
  cases nm<;>simp only[ao] at ho
  cases hb with
  |mp l =>
   obtain⟨nw,c,h1,h2⟩:=ho
   exact⟨nw,c,h1,h2.trans k⟩
  |_=>exact k.elim
 |_=>exact k.elim
theorem vw {ρ:Env}{w:World}{n:Nat}{K:List Nat}{r:Nat→Nat}{h hb:HB}{nm:Nm}{b:Nat}(k:tX n K r h hb)(ho:ao ρ w h nm)(o:(tY hb nm).owner=some b):nm.owner=some b∧iH hb=false:=by
 cases hb with
 |ro s m g =>
  exfalso
  simp only[tY,iH,if_true] at o
  cases h with
  |cells T cs=>cases k.1
  |row T s m xs=>cases nm<;>simp only[ao] at ho;simp[ib,Nm.owner] at o
  |vec T s m xs=>cases nm<;>simp only[ao] at ho<;>simp[ib,Nm.owner] at o
  |_=>exact k.elim
 |_=>exact⟨o,rfl⟩
theorem UI {ρ:Env}{w:World}{n:Nat}{K:List Nat}{r:Nat→Nat}{h:HB}{s m:Nat}{g:Nat→List SV}{nm:Nm}{b:Nat}(k:tX n K r h (.ro s m g))(ho:ao ρ w h nm)(o:eX (tY (.ro s m g) nm)=some b):nm.owner=some b:=by
 simp only[tY,iH,if_true] at o
 cases h with
 |cells T cs=>cases k.1
 |row T s m xs=>cases nm<;>simp only[ao] at ho;simpa [ib,eX,Nm.owner] using o
 |vec T s m xs =>
  cases nm<;>simp only[ao] at ho
  ·obtain⟨rfl,_⟩:=ho
   simp[ib,eX] at o
  ·simpa [ib,eX,Nm.owner] using o
 |_=>exact k.elim
theorem UG {n:Nat}{K:List Nat}{r:Nat→Nat}{h:HB}{s:Nat}{C:Value→Nat→(Nat→List SV)→Prop}(k:tX n K r h (.ax s C)):False:=by
 cases h with
 |cells T cs=>have:=zE k.1;cases this
 |row T s m xs=>exact k.elim
 |vec T s m xs=>exact k.elim
 |map es c=>exact k.elim
 |mp es=>exact k.elim
 |_=>exact k.elim
def Walk (P:Program)(T:cf)(C:Nat→Option Ct)(fn:Func)(c:Code)(H:LH)(args:List SV)(fr:Nat)(out:cJ):Prop :=
 ∃(ps:List (Nat × HB)) (dR:List SV) (dJ:List (Nat × HB)) (fh:Nat) (K:List Nat),args=cX (nz ps) dR∧eU ps.length [] dR=true∧dR.length≤fn.ntmps∧Hand H ps∧dJ=kA 0 ps∧fh=ps.length ∧
  ∀G:cp,(∀j,fh≤j→G.ρ j=none)→exec ⟨P,T,C,G,none,fn.ntmps⟩ c (start dR dJ fh) (Fin ⟨P,T,C,G,none,fn.ntmps⟩ fn.results.toList
   (λv st=>(out.bL=none∨∃ch,out.bL=some (false,ch))∧pZ ps K fr out v st) (λch st=>out.bL=some (true,ch)∧qD st.H dJ))
def Mi (P:Program)(T:cf)(C:Nat→Option Ct)(f:Nat)(nt:Nat)(H:LH)(args:List SV)(fr:Nat)(out:cJ):Prop :=
 ∃(ps:List (Nat × HB)) (dR:List SV) (dJ:List (Nat × HB)) (fh:Nat) (K:List Nat),args=cX (nz ps) dR∧eU ps.length [] dR=true∧dR.length≤nt∧Hand H ps∧dJ=kA 0 ps∧fh=ps.length ∧
  ∀(ρ:Env) (w:World) (aM:List Value),ai ρ dR=some aM→HM ρ (ab dJ) w→(∀j,fh≤j→ρ j=none)→Calls P f aM.toArray w (jL ⟨P,T,C,⟨w,Own ρ (ab dJ),ρ,Fz (ab dJ)⟩,none,nt⟩
   (λv st=>(out.bL=none∨∃ch,out.bL=some (false,ch))∧pZ ps K fr out v st) (λch st=>out.bL=some (true,ch)∧qD st.H dJ))
theorem x7 {P:Program}{T:cf}{C:Nat→Option Ct}{f nt:Nat}{ct:Ct}
  (h:∀fr args H out,ct fr args H=some out→fc out.pre→Mi P T C f nt H args fr out):aP P f ct:=by
 intro ρ H w fr args aM out hm mc hd gG iS
 obtain⟨ps,dR,dJ,fh,K,rfl,dD,hlen,hh,rfl,rfl,hex⟩:=h fr args H out gG iS
 have wM:=Ph hm hh
 have wC:iM (λi=>i<ps.length) dR:=iM.mono (λj hj=>by rcases hj with h|h;exact h;cases h) _ (pI _ dD)
 have Yz:ai (iQ ρ ps) dR=some aM:=by rw[←lZ wM _ wC];exact hd
 have wJ:=Yj hm hh
 have aU:∀j,ps.length≤j→iQ ρ ps j=none:=λj hj=>by simp only[iQ];rw[List.getElem?_eq_none hj]
 have gr:=hex (iQ ρ ps) w aM Yz wJ aU
 refine gr.mono ?_
 rintro e w' cK
 have qz:∀{st:St} {pW:Env},MH ⟨P,T,C,⟨w,Own (iQ ρ ps) (ab (kA 0 ps)),iQ ρ ps,Fz (ab (kA 0 ps))⟩,none,nt⟩ pW st w'→qD st.H (kA 0 ps)→∀b,b<w.heap.size→w'.heap[b]?=w.heap[b]?:=by
  intro st pW dc hk b hb
  rcases Classical.em (Own (iQ ρ ps) (ab (kA 0 ps)) b) with ho|ho
  ·obtain⟨id,x,nm,h1,h2,h3,h4⟩:=ho
   obtain⟨j,c',y,hb',ak,q1,q2,_⟩:=EE hm hh ⟨id,x,nm,h1,h2,h3,h4⟩
   obtain⟨abl,g1,g2⟩:=wJ.ok id x h1
   rw[h3] at g1;cases g1
   have cM:qG x=true:=by
    cases x with
    |cells T cs=>rfl
    |map es k=>rfl
    |dead=>cases h2
    |ro size n get=>cases nm<;>simp only[ao] at g2;simp[Nm.owner] at h4
    |ax size C=>cases nm<;>simp only[ao] at g2;simp[Nm.owner] at h4
    |_ =>
     obtain⟨_,c2,p2⟩:=rN ps 0 id _ h1
     exact(hh.ok _ c2 _ p2).elim
   have h5:=Ko hk id x h1 cM
   obtain⟨ae5,k1,k2⟩:=dc.hm.ok id x h5
   have:=dc.kp.ext id nm h3
   rw[this] at k1;cases k1
   cases x with
   |cells T cs =>
    cases nm<;>simp only[ao] at g2 k2
    simp only[Nm.owner] at h4;cases h4
    obtain⟨vs,d1,_,d2⟩:=g2
    obtain⟨GH,e1,_,e2⟩:=k2
    rw[fT dc.kp.ext _ _ d1] at e1;cases e1
    rw[d2,e2]
   |map es k =>
    cases nm<;>simp only[ao] at g2 k2
    simp only[Nm.owner] at h4;cases h4
    obtain⟨ms,m1,m2,_⟩:=g2
    obtain⟨ms',Ra,m2',_⟩:=k2
    rw[m1] at Ra;cases Ra
    rw[m2,m2']
   |dead=>cases h2
   |_=>cases cM
  ·exact dc.kp.same b hb ho
 rcases cK with⟨v,st,pW,u,rfl,hv,dc,pz,hE⟩|⟨ch,st,pW,rfl,dc,pz,hk⟩
 ·have oq:=qz dc hE.Fs
  have dr:w.heap.size≤w'.heap.size:=dc.kp.size
  let ρ':Env:=λj=>if fr≤j∧j<fr+4 then(match K[j-fr]? with
   |some k=>if Fg (ab out.news j) then(pW k).map ib else pW k
   |none=>none) else ρ j
  have pF:∀j nm,ρ j=some nm→ρ' j=some nm:=by
   intro j nm hj
   show(if fr≤j∧j<fr+4 then _ else ρ j)=some nm
   rw[if_neg]
   ·exact hj
   ·rintro⟨a,b⟩;rw[mc j a b] at hj;cases hj
  have hKl:=ac2 hE.short
  have Qd:∀i k,K[i]?=some k→ρ' (fr+i)=if Fg (ab out.news (fr+i)) then(pW k).map ib else pW k:=by
   intro i k hk
   show(if fr≤fr+i∧fr+i<fr+4 then _ else ρ (fr+i))=_
   have:=iI hk
   rw[if_pos ⟨by omega,by omega⟩,show fr+i-fr=i by omega,hk]
  have Zu:∀j,¬j<ps.length→u5 ps.length ps K fr j=fr+BY K j:=by
   intro j hj
   simp only[u5]
   split
   ·rename_i hb;exact absurd (Nat.le_of_ble_eq_true hb) hj
   ·rfl
  have Zy:∀j,j<ps.length→u5 ps.length ps K fr j=nz ps j:=by
   intro j hj
   simp only[u5]
   split
   ·rfl
   ·rename_i hb;rw[Nat.ble_eq_true_of_le hj] at hb;cases hb
  have PX:zG pW ρ' (u5 ps.length ps K fr) (known ps.length K):=by
   intro j hj
   rcases Classical.em (j<ps.length) with aG|kj
   ·obtain⟨nm,ak,h1,h2,h3⟩:=wM j aG
    refine⟨nm,ak,dc.kp.ext _ _ h1,?_,h3⟩
    rw[Zy j aG]
    exact pF _ _ h2
   ·rcases hj with hj|hj
    ·exact absurd hj kj
    ·have hk:=Qi hj
     obtain⟨_,h',_,fu⟩:=KE hE.news _ _ hk
     obtain⟨nm,h1,_⟩:=dc.hm.ok _ _ fu
     rw[Zu j kj,Qd _ _ hk]
     split
     ·refine⟨nm,ib nm,h1,by rw[h1];rfl,?_⟩
      cases nm with
      |row k n c z=>exact .inr (.inr ⟨k,n,c,z,rfl,rfl⟩)
      |bO n=>exact .inl rfl
      |sl a n c z=>exact .inl rfl
     ·exact⟨nm,nm,h1,h1,.inl rfl⟩
  have mX:∀id hb,ab out.news id=some hb→∃(i k:Nat) (h':HB) (nm:Nm),K[i]?=some k∧id=fr+i∧ab st.H k=some h'∧tX ps.length K (u5 ps.length ps K fr) h' hb∧pW k=some nm∧ao pW w' h' nm∧ρ' id=some (tY hb nm):=by
   intro id hb hf
   obtain⟨i,k,h',a1,a2,a3,a4⟩:=Rq hE.news id hb hf
   obtain⟨nm,b1,b2⟩:=dc.hm.ok _ _ a3
   refine⟨i,k,h',nm,a1,a2,a3,a4,b1,b2,?_⟩
   subst a2
   rw[Qd i k a1,hf,b1]
   by_cases kq:iH hb=true
   ·simp[Fg,tY,kq]
   ·simp[Fg,tY,kq]
  have yC:∀k h' nm b,ab st.H k=some h'→k∈K→h'.live=true→pW k=some nm→nm.owner=some b→w.heap.size≤b:=by
   intro k h' nm b h1 h2 h3 h4 h5
   rcases dc.kp.own b ⟨k,h',nm,h1,h3,h4,h5⟩ with ho|ho
   ·exfalso
    obtain⟨id,x,ak,q1,q2,q3,q4⟩:=ho
    have aeT:id<ps.length:=by
     obtain⟨_,c2,p2⟩:=rN ps 0 id _ q1
     simp only[Nat.sub_zero] at p2
     exact iI p2
    obtain⟨j,c',y,hb',abk,r1,r2,r3,r4,r5,r6,r7⟩:=EE hm hh ⟨id,x,ak,q1,q2,q3,q4⟩
    have cM:qG x=true:=by
     obtain⟨abl,g1,g2⟩:=wJ.ok id x q1
     rw[q3] at g1;cases g1
     cases x with
     |cells T cs=>rfl
     |map es k=>rfl
     |dead=>cases q2
     |ro size n get=>cases ak<;>simp only[ao] at g2;simp[Nm.owner] at q4
     |ax size C=>cases ak<;>simp only[ao] at g2;simp[Nm.owner] at q4
     |_ =>
      obtain⟨_,c2,p2⟩:=rN ps 0 id _ q1
      exact(hh.ok _ c2 _ p2).elim
    have bD:=Ko hE.Fs id x q1 cM
    have:=dc.hm.sep k id h' x nm ak b h1 bD h3 q2 h4 (dc.kp.ext _ _ q3) h5 q4
    have:=RI hE.Ca k h2
    omega
   ·exact ho
  have pu:∀b,Fz (rK out.news H) b→Fz H b:=λb hz=>hz.sub λid size C f1=>by
   rw[rL] at f1
   cases g1:ab out.news id with
   |some x1 =>
    rw[g1] at f1;cases f1
    obtain⟨i,k,h',n1,a1,rfl,a3,a5,a6,a7,a8⟩:=mX id _ g1
    exact(UG a5).elim
   |none=>rw[g1] at f1;exact f1
  have Pa:pX ρ H fr w out u w' ρ':={
   fz:=pu
   str:=dc.kp.str
   ext:=pF
   fresh:=λj hj=>by
    have dD:fr≤j∧j<fr+4:=by
     rcases Classical.em (fr≤j∧j<fr+4) with h|h
     ·exact h
     ·exact absurd (show ρ' j=ρ j from if_neg h) hj
    refine⟨dD.1,dD.2,?_⟩
    cases hk:K[j-fr]? with
    |none =>
     exfalso;apply hj
     show(if fr≤j∧j<fr+4 then _ else ρ j)=ρ j
     rw[if_pos dD,hk,mc j dD.1 dD.2]
    |some k =>
     obtain⟨hb,_,ck,_⟩:=KE hE.news _ _ hk
     rw[show fr+(j-fr)=j by omega] at ck
     exact⟨hb,ck⟩
   den:=by
    rw[←tR _ _ hE.val,HP PX _ (Kr _ hE.LO)]
    exact hv
   hm:={
    ok:=λid hb hf=>by
     rw[rL] at hf
     cases iR:ab out.news id with
     |none =>
      rw[iR] at hf
      obtain⟨nm,h1,h2⟩:=(hm.world dr oq).ok id hb hf
      exact⟨nm,pF _ _ h1,kK pF h2⟩
     |some hb' =>
      rw[iR] at hf;cases hf
      obtain⟨i,k,h',nm,a1,rfl,a3,a5,a6,a7,a8⟩:=mX id hb iR
      exact⟨_,a8,UH PX a5 a7⟩
    sep:=λid bM hb hb' nm ak b f1 f2 l1 l2 r1 r2 o1 o2=>by
     rw[rL] at f1 f2
     cases g1:ab out.news id with
     |some x1 =>
      rw[g1] at f1;cases f1
      obtain⟨i,k,h',n1,a1,rfl,a3,a5,a6,a7,a8⟩:=mX id _ g1
      rw[a8] at r1;cases r1
      obtain⟨o1,uG⟩:=vw a5 a7 o1
      cases g2:ab out.news bM with
      |some x2 =>
       rw[g2] at f2;cases f2
       obtain⟨i',k',qo,n2,b1,rfl,b3,b5,b6,b7,b8⟩:=mX bM _ g2
       rw[b8] at r2;cases r2
       obtain⟨o2,mY⟩:=vw b5 b7 o2
       have:=dc.hm.sep k k' h' qo _ _ b a3 b3 (q9 a5) (q9 b5) a6 b6 o1 o2
       subst this
       rw[KL hE.Ca i i' k a1 b1]
      |none =>
       rw[g2] at f2
       obtain⟨fg,c1,c2⟩:=hm.ok _ _ f2
       rw[pF _ _ c1] at r2;cases r2
       have:=hm.lt ⟨bM,hb',_,f2,l2,c1,o2⟩
       have:=yC k h' _ b a3 (List.mem_of_getElem? a1) (q9 a5) a6 o1
       omega
     |none =>
      rw[g1] at f1
      obtain⟨Cq,c1,c2⟩:=hm.ok _ _ f1
      rw[pF _ _ c1] at r1;cases r1
      cases g2:ab out.news bM with
      |some x2 =>
       rw[g2] at f2;cases f2
       obtain⟨i',k',qo,n2,b1,rfl,b3,b5,b6,b7,b8⟩:=mX bM _ g2
       rw[b8] at r2;cases r2
       obtain⟨o2,mY⟩:=vw b5 b7 o2
       have:=hm.lt ⟨id,hb,_,f1,l1,c1,o1⟩
       have:=yC k' qo _ b b3 (List.mem_of_getElem? b1) (q9 b5) b6 o2
       omega
      |none =>
       rw[g2] at f2
       obtain⟨fg,d1,d2⟩:=hm.ok _ _ f2
       rw[pF _ _ d1] at r2;cases r2
       exact hm.sep id bM hb hb' _ _ b f1 f2 l1 l2 c1 d1 o1 o2
    ro:=λid size n get nm b f1 hn r1 iG ho=>by
     rw[rL] at f1
     cases g1:ab out.news id with
     |some x1 =>
      rw[g1] at f1;cases f1
      obtain⟨i,k,h',n1,a1,rfl,a3,a5,a6,a7,a8⟩:=mX id _ g1
      rw[a8] at r1;cases r1
      have EU:=UI a5 a7 iG
      obtain⟨bM,hb',ak,p1,p2,p3,p4⟩:=ho
      rw[rL] at p1
      cases g2:ab out.news bM with
      |some x2 =>
       rw[g2] at p1;cases p1
       obtain⟨i',k',qo,n2,b1,rfl,b3,b5,b6,b7,b8⟩:=mX bM _ g2
       rw[b8] at p3;cases p3
       obtain⟨o2,mY⟩:=vw b5 b7 p4
       have:=dc.hm.sep k k' h' qo _ _ b a3 b3 (q9 a5) (q9 b5) a6 b6 EU o2
       subst this
       have:=KL hE.Ca i i' k a1 b1
       subst this
       rw[g1] at g2;cases g2
       cases mY
      |none =>
       rw[g2] at p1
       obtain⟨fg,d1,d2⟩:=hm.ok _ _ p1
       rw[pF _ _ d1] at p3;cases p3
       have:=hm.lt ⟨bM,hb',_,p1,p2,d1,p4⟩
       have:=yC k h' _ b a3 (List.mem_of_getElem? a1) (q9 a5) a6 EU
       omega
     |none =>
      rw[g1] at f1
      obtain⟨Cq,c1,c2⟩:=hm.ok _ _ f1
      rw[pF _ _ c1] at r1;cases r1
      have IY:b<w.heap.size:=by
       cases nm<;>simp only[ao] at c2
       obtain⟨_,_,_,e3⟩:=c2
       obtain⟨ad,e4,e5,_⟩:=e3 hn
       subst e4
       simp only[eX,Option.some.injEq] at iG
       omega
      obtain⟨bM,hb',ak,p1,p2,p3,p4⟩:=ho
      rw[rL] at p1
      cases g2:ab out.news bM with
      |some x2 =>
       rw[g2] at p1;cases p1
       obtain⟨i',k',qo,n2,b1,rfl,b3,b5,b6,b7,b8⟩:=mX bM _ g2
       rw[b8] at p3;cases p3
       obtain⟨o2,mY⟩:=vw b5 b7 p4
       have:=yC k' qo _ b b3 (List.mem_of_getElem? b1) (q9 b5) b6 o2
       omega
      |none =>
       rw[g2] at p1
       obtain⟨fg,d1,d2⟩:=hm.ok _ _ p1
       rw[pF _ _ d1] at p3;cases p3
       exact hm.ro id size n get _ b f1 hn c1 iG ⟨bM,hb',_,p1,p2,d1,p4⟩
    ax:=λb hz ho=>by
      have hz:=pu b hz
      have IY:=hm.sN hz
      obtain⟨bM,hb',ak,p1,p2,p3,p4⟩:=ho
      rw[rL] at p1
      cases g2:ab out.news bM with
      |some x2 =>
       rw[g2] at p1;cases p1
       obtain⟨i',k',qo,n2,b1,rfl,b3,b5,b6,b7,b8⟩:=mX bM _ g2
       rw[b8] at p3;cases p3
       obtain⟨o2,mY⟩:=vw b5 b7 p4
       have:=yC k' qo _ b b3 (List.mem_of_getElem? b1) (q9 b5) b6 o2
       omega
      |none =>
       rw[g2] at p1
       obtain⟨fg,d1,d2⟩:=hm.ok _ _ p1
       rw[pF _ _ d1] at p3;cases p3
       exact hm.ax b hz ⟨bM,hb',_,p1,p2,d1,p4⟩ }
   own:=λb ho=>by
    obtain⟨bM,hb',ak,p1,p2,p3,p4⟩:=ho
    rw[rL] at p1
    cases g2:ab out.news bM with
    |some x2 =>
     rw[g2] at p1;cases p1
     obtain⟨i',k',qo,n2,b1,rfl,b3,b5,b6,b7,b8⟩:=mX bM _ g2
     rw[b8] at p3;cases p3
     obtain⟨o2,mY⟩:=vw b5 b7 p4
     exact .inr (yC k' qo _ b b3 (List.mem_of_getElem? b1) (q9 b5) b6 o2)
    |none =>
     rw[g2] at p1
     obtain⟨fg,d1,d2⟩:=hm.ok _ _ p1
     rw[pF _ _ d1] at p3;cases p3
     exact .inl ⟨bM,hb',_,p1,p2,d1,p4⟩
   size:=dr
   same:=oq }
  unfold xw
  rcases pz with hp|⟨ch,hp⟩
  ·rw[hp];exact⟨ρ',u,rfl,Pa⟩
  ·rw[hp];exact .inr ⟨rfl,ρ',u,rfl,Pa⟩
 ·unfold xw
  rw[pz]
  exact .inl ⟨rfl,rfl,dc.kp.size,qz dc hk,dc.kp.str⟩
theorem Walk.calls {P:Program}{T:cf}{C:Nat→Option Ct}(hX:∀G r nt,(⟨P,T,C,G,r,nt⟩:Cx).Ok){f:Nat}{fn:Func}{c:Code}(hf:P.funcs[f]?=some fn)(hb:fn.body=some c){H:LH}{args:List SV}{fr:Nat}{out:cJ}
  (h:Walk P T C fn c H args fr out):Mi P T C f fn.ntmps H args fr out:=by
 obtain⟨ps,dR,dJ,fh,K,h1,h2,h3,h4,h5,h6,hex⟩:=h
 refine⟨ps,dR,dJ,fh,K,h1,h2,h3,h4,h5,h6,fun ρ w aM hd hm aU=>?_⟩
 exact Na (X:=⟨P,T,C,⟨w,Own ρ (ab dJ),ρ,Fz (ab dJ)⟩,none,fn.ntmps⟩) (hX _ _ _) rfl hf hb rfl hd h3 hm rfl aU (hex _ aU)
theorem bq {P:Program}{T:cf}{C:Nat→Option Ct}(hX:∀G r nt,(⟨P,T,C,G,r,nt⟩:Cx).Ok){f:Nat}{fn:Func}{c:Code}(hf:P.funcs[f]?=some fn)(hb:fn.body=some c){ct:Ct}
  (h:∀fr args H out,ct fr args H=some out→fc out.pre→Walk P T C fn c H args fr out):aP P f ct :=
 x7 λfr args H out h1 h2=>(h fr args H out h1 h2).calls hX hf hb
def aC:List (Nat × Ct)→Nat→Option Ct
 |[],_=>none
 |(f,ct)::r,n=>match Nat.beq n f with
  |true=>some ct
  |false=>aC r n
def Body (P:Program)(f:Nat):Prop:=∀args w,(callFunc f args).run P w=.ok (.enter f args) w
theorem aw {P : Program} {f : Nat} {fn : Func} {c : Code} (hf : P.funcs[f]? = some fn) (hb : fn.body = some c) (hn : (fn.name == "runtime.NumGoroutine") = false) : Body P f := by
 intro args w
 have eN : ¬ fn.name = "runtime.NumGoroutine" := by simpa using hn
 simp[callFunc,hf,hb,eN]
structure Good (P:Program) (T:cf) (l:List (Nat × Ct)):Prop where
 dx:dy P T
 all:∀p∈l,aP P p.1 p.2∧cY p.2∧Body P p.1
theorem GC:∀{l:List (Nat × Ct)} {f:Nat} {ct:Ct},aC l f=some ct→(f,ct)∈l
 |(g,x)::r,f,ct,h=>by
  simp only[aC] at h
  split at h
  ·rename_i e
   have:f=g:=by simpa using e
   subst this;cases h
   exact List.mem_cons_self
  ·exact List.mem_cons_of_mem _ (GC h)
theorem Good.ok {P:Program}{T:cf}{l:List (Nat × Ct)}(h:Good P T l)(G:cp)(r:Option Nat)(nt:Nat):(⟨P,T,aC l,G,r,nt⟩:Cx).Ok where
 dx:=h.dx
 mono f ct hf:=(h.all _ (GC hf)).2.1
 calls f ct hf:=(h.all _ (GC hf)).1
 MV f ct hf:=(h.all _ (GC hf)).2.2
theorem Good.add {P:Program}{T:cf}{l:List (Nat × Ct)}(h:Good P T l){f:Nat}{ct:Ct}(h1:aP P f ct)(h2:cY ct)(h3:Body P f):Good P T ((f,ct)::l) where
 dx:=h.dx
 all p hp:=by
  rcases List.mem_cons.1 hp with rfl|hp
  ·exact⟨h1,h2,h3⟩
  ·exact h.all p hp
def bd (k:List SV→Option cJ):Ct:=λ_ args _=>k args
theorem cZ (k:List SV→Option cJ):cY (bd k):=λ_ _ _ _ _ _ h=>h
section
variable {X:Cx}{ρ:Env}{st:St}{a:Act}{w:World}
def tA (st:St)(d:Option Nat)(v:SV)(H:List (Nat × HB))(nx:Nat)(K:St→Prop):Prop :=
 match d with
 |some d=>K ⟨(d,⟨[],v⟩)::st.F,st.gs,H,nx,st.D⟩
 |none=>K ⟨st.F,st.gs,H,nx,st.D⟩
def Sb (st:St)(c:Call)(K:Nat→List SV→Prop):Prop :=
 match c.callee with
 |.value f=>(match ev (findF st.F) [] f,nJ (findF st.F) [] c.args.toList with
  |some (.fn (.func n) first ja),some l=>eT (first++(l++ja)) λl'=>K n l'
  |_,_=>False)
 |_=>False
def bG (P:Program)(n:Nat)(l:List SV)(H:List (Nat × HB))(nx:Nat)(Rv:SV→List (Nat × HB)→Nat→Prop)(Rp:List PanicEntry→List (Nat × HB)→Nat→Prop):Prop :=
 ∀ρ w aM,HM ρ (ab H) w→(∀j,nx≤j→ρ j=none)→ai ρ l=some aM→Calls P n aM.toArray w λe w' =>
  (∃v H' aA ρ' u,e=.returned u∧den ρ' v=some u∧HM ρ' (ab H') w'∧gO ⟨w,Own ρ (ab H),ρ,Fz (ab H)⟩ ρ' (ab H') w'∧(∀j,aA≤j→ρ' j=none)∧Rv v H' aA) ∨
  (∃ch H' aA ρ',e=.panicked ch∧HM ρ' (ab H') w'∧gO ⟨w,Own ρ (ab H),ρ,Fz (ab H)⟩ ρ' (ab H') w'∧(∀j,aA≤j→ρ' j=none)∧Rp ch H' aA)
theorem Mod.call (hm:Mod X ρ st a w){H':List (Nat × HB)}{aA:Nat}{ρ':Env}{w':World}(h1:HM ρ' (ab H') w')(h2:gO ⟨w,Own ρ (ab st.H),ρ,Fz (ab st.H)⟩ ρ' (ab H') w')(h3:∀j,aA≤j→ρ' j=none) :
  Mod X ρ' { st with H:=H',nx:=aA } a w' where
 fm:=hm.fm.ext h2.ext
 gs:=hm.gs
 df:=hm.df.ext h2.ext
 hm:=h1
 kp:={
  str:=hm.kp.str.trans h2.str
  size:=Nat.le_trans hm.kp.size h2.size
  same:=λb hb hM=>by
   refine(h2.same b (by have:=hm.kp.size;show b<w.heap.size;omega) (λho=>?_)).trans (hm.kp.same b hb hM)
   rcases hm.kp.own b ho with h|h
   ·exact hM h
   ·omega
  own:=λb ho=>by
   rcases h2.own b ho with h|h
   ·exact hm.kp.own b h
   ·have:=hm.kp.size
    have h:w.heap.size≤b:=h
    exact .inr (by omega)
  ext:=hm.kp.ext.trans h2.ext
  fz:=λb hz=>by
   rcases h2.fz b hz with h|h|h
   ·rcases hm.kp.own b h with h|h
    ·exact .inl h
    ·exact .inr (.inl h)
   ·have:=hm.kp.size
    have h:w.heap.size≤b:=h
    exact .inr (.inl (by omega))
   ·exact hm.kp.fz b h }
 nx:=h3
 sz:=hm.sz
structure dm (X:Cx) (Q:Exit→Act→World→Prop) (K:St→Prop) (Kp:List PanicEntry→St→Prop):Prop where
 k:∀ρ' af a' w',Mod X ρ' af a' w'→K af→Q .normal a' w'
 p:∀ch ρ' af a' w',Mod X ρ' af a' w'→Kp ch af→Q (.panic ch) a' w'
theorem aj {X:Cx}{K:Ex→St→Prop}:dm X (sf X K) (λst=>mN st (K .normal)) (λch st=>K (.panic ch) st) where
 k ρ' af a' w' an hk:=⟨.normal,af,ρ',rfl,an,by unfold mN at hk;split at hk<;>exact hk⟩
 p ch ρ' af a' w' an hk:=⟨.panic ch,af,ρ',rfl,an,hk⟩
theorem av {ops:List Oper}{i:Nat}{o:Oper}{r:List Oper}{Q:Exit→Act→World→Prop}{K:St→Prop}{Kp:List PanicEntry→St→Prop}{c:Call}(hX:X.Ok)
  (hC:dm X Q K Kp) (hi:ops.drop i=o::r) (hc:o.op=.call c) (hg:o.guard=none) (hp:eF st.gs X.nt o.dst=false)
  (h:Sb st c λn l=>Body X.P n∧bG X.P n l st.H st.nx (λv H' aA=>tA st o.dst v H' aA (c7 X ops Q K Kp (i+1) r)) (λch H' aA=>Kp ch ⟨st.F,st.gs,H',aA,st.D⟩)) :
  eB X ops Q K Kp i o r st:=by
 refine⟨fun ρ a w hm=>?_⟩
 unfold Sb at h
 split at h
 ·rename_i f bi
  split at h
  ·rename_i n first ja l e1 e2
   rw[gn] at h
   obtain⟨sR,gr⟩:=h
   have hs:bu a []:=λx hx=>by cases hx
   have hf:=aQ hm.fm hs e1
   have hl:=q7 hm.fm hs e2
   simp only[den] at hf
   cases d1:ai ρ first with
   |none=>simp[d1] at hf
   |some x =>
    cases d2:ai ρ ja with
    |none=>simp[d1,d2] at hf
    |some y =>
     simp only[d1,d2,Option.some.injEq] at hf
     have hd:=sE d1 (sE hl d2)
     have cr:(do let d ←resolve a.eval c o.type;invoke d.target d.args:Sem Next).run X.P w=.ok (.enter n (x++(c.args.toList.map a.eval++y)).toArray) w:=by
      have fI:(resolve a.eval c o.type).run X.P w=.ok { target:=.fn (.func n) y.toArray,args:=x.toArray++c.args.map a.eval } w:=by
       simp only[resolve,bi,←hf]
       rfl
      rw[Sem.run_bind,fI]
      simp only[Result.andThen,invoke]
      have he:(x.toArray++c.args.map a.eval++y.toArray)=(x++(c.args.toList.map a.eval++y)).toArray:=by
       apply Array.ext';simp
      rw[he]
      exact sR _ w
     have ho:ops[i]?=some o:=by
      have:=congrArg (λl=>l[0]?) hi
      simpa using this
     have eu:ops.drop (i+1)=r:=by
      have:=congrArg List.tail hi
      simpa using this
     rw[List.range'_succ]
     refine wpOps_cons (by simpa using ho) (λ_=>?_) (λhw=>by rw[jS hg] at hw;cases hw)
     refine vf (by rw[hc];intro c' im;cases im) (by simp only[execOp,hc];exact cr) (gr ρ w _ hm.hm hm.nx hd) ?_
     rintro e w' (⟨v,H',aA,ρ',u,rfl,h1,h2,h3,h4,h5⟩|⟨ch,H',aA,ρ',rfl,h2,h3,h4,h5⟩)
     ·have an:=(hm.call h2 h3 h4).put (d:=o.dst) hp h1
      refine kf hX hC.k hC.p r (i+1) ρ' _ _ w' eu ?_ an
      unfold tA at h5
      split at h5
      ·rename_i d hd;rw[hd];exact h5
      ·rename_i hd;rw[hd];exact h5
     ·refine hC.p ch ρ' _ a w' ?_ h5
      have:=hm.call h2 h3 h4
      exact this
  ·exact h.elim
 ·exact h.elim
theorem cT {P:Program}{T:cf}{C:Nat→Option Ct}(hX:∀G r nt,(⟨P,T,C,G,r,nt⟩:Cx).Ok){n:Nat}{fn:Func}{c:Code}(hf:P.funcs[n]?=some fn)(hb:fn.body=some c)
  {l:List SV} (hlen:l.length≤fn.ntmps) {H:List (Nat × HB)} {nx:Nat} {Rv:SV→List (Nat × HB)→Nat→Prop} {Rp:List PanicEntry→List (Nat × HB)→Nat→Prop}
  (h:∀G:cp,(∀j,nx≤j→G.ρ j=none)→exec ⟨P,T,C,G,none,fn.ntmps⟩ c (start l H nx) (Fin ⟨P,T,C,G,none,fn.ntmps⟩ fn.results.toList (λv st=>Rv v st.H st.nx) (λch st=>Rp ch st.H st.nx))) :
  bG P n l H nx Rv Rp:=by
 intro ρ w aM hm aU hd
 have gr:=Na (X:=⟨P,T,C,⟨w,Own ρ (ab H),ρ,Fz (ab H)⟩,none,fn.ntmps⟩) (hX _ _ _) rfl hf hb rfl hd hlen hm rfl aU (h _ aU)
 refine gr.mono ?_
 rintro e w' (⟨v,st,ρ',u,rfl,hv,dc,hr⟩|⟨ch,st,ρ',rfl,dc,hr⟩)
 ·exact .inl ⟨v,st.H,st.nx,ρ',u,rfl,hv,dc.hm,dc.kp,dc.nx,hr⟩
 ·exact .inr ⟨ch,st.H,st.nx,ρ',rfl,dc.hm,dc.kp,dc.nx,hr⟩
end
mutual
theorem Gc {s:Nat→Nat}:∀(x:SV),di 0 [] x=true→bX s x=x
 |.sp i _,h=>by
  have h':kn 0 [] i=true:=by simpa only[di] using h
  rcases ku h' with h1|h1
  ·exact absurd h1 (Nat.not_lt_zero _)
  ·cases h1
 |.se i _ _,h=>by
  have h':kn 0 [] i=true:=by simpa only[di] using h
  rcases ku h' with h1|h1
  ·exact absurd h1 (Nat.not_lt_zero _)
  ·cases h1
 |.sl i,h=>by
  have h':kn 0 [] i=true:=by simpa only[di] using h
  rcases ku h' with h1|h1
  ·exact absurd h1 (Nat.not_lt_zero _)
  ·cases h1
 |.sm i,h=>by
  have h':kn 0 [] i=true:=by simpa only[di] using h
  rcases ku h' with h1|h1
  ·exact absurd h1 (Nat.not_lt_zero _)
  ·cases h1
 |.fy i,h=>by
  have h':kn 0 [] i=true:=by simpa only[di] using h
  rcases ku h' with h1|h1
  ·exact absurd h1 (Nat.not_lt_zero _)
  ·cases h1
 |.ss i _ _ _,h=>by
  have h':kn 0 [] i=true:=by simpa only[di] using h
  rcases ku h' with h1|h1
  ·exact absurd h1 (Nat.not_lt_zero _)
  ·cases h1
 |.agg l,h=>by rw[bX,rV l (by simpa [di] using h)]
 |.bn l,h=>by rw[bX,rV l (by simpa [di] using h)]
 |.fn _ a b,h=>by
  rw[di] at h
  split at h
  ·rename_i e;rw[bX,rV a e,rV b h]
  ·cases h
 |.cg _ x,h=>by rw[bX,Gc x (by simpa [di] using h)]
 |.sv _,_=>rfl
 |.si _ _,_=>rfl
 |.sb _,_=>rfl
theorem rV {s:Nat→Nat}:∀(l:List SV),eU 0 [] l=true→cX s l=l
 |[],_=>rfl
 |x::r,h=>by
  rw[eU] at h
  split at h
  ·rename_i e;rw[cX,Gc x e,rV r h]
  ·cases h
end
theorem wk (H:LH):Hand H [] where
 ok j c hb h:=by simp at h
 ids j c hb h:=by simp at h
 inj i j c hb hb' h:=by simp at h
theorem cz {fr:Nat}{out:cJ}{v:SV}{st:St}(h:eY v out.v)(hk:di 0 [] v=true)(hn:out.news=[]):pZ [] [] fr out v st where
 val:=by rw[Gc v hk];exact h
 LO:=hk
 news:=by rw[hn];trivial
 Fs:=trivial
 Ca:=rfl
 short:=rfl
theorem dt {P:Program}{T:cf}{C:Nat→Option Ct}{fn:Func}{c:Code}{H:LH}{args:List SV}{fr:Nat}{out:cJ}(hk:eU 0 [] args=true)(hl:args.length≤fn.ntmps)
  (h:∀G:cp,(∀j,0≤j→G.ρ j=none)→exec ⟨P,T,C,G,none,fn.ntmps⟩ c (start args [] 0) (Fin ⟨P,T,C,G,none,fn.ntmps⟩ fn.results.toList
   (λv st=>(out.bL=none∨∃ch,out.bL=some (false,ch))∧pZ [] [] fr out v st) (λch st=>out.bL=some (true,ch)∧qD st.H []))):Walk P T C fn c H args fr out :=
 ⟨[],args,[],0,[],(rV args hk).symm,hk,hl,wk H,rfl,rfl,h⟩
section
variable {X:Cx}{ρ:Env}{st:St}{a:Act}{w:World}
def lj:SV→Option Value
 |.si k n=>some (.int k n)
 |.sb p=>some (.bool p)
 |.agg [.si k n]=>some (.agg #[.int k n])
 |.cg t x=>(match lj x with
  |some v=>some (.iface t v)
  |none=>none)
 |_=>none
theorem Np {ρ:Env}:∀{s:SV} {v:Value},lj s=some v→den ρ s=some v
 |.si k n,v,h=>by simpa [lj,den] using h
 |.sb p,v,h=>by simpa [lj,den] using h
 |.cg t x,v,h=>by
  simp only[lj] at h
  split at h
  ·rename_i u hu
   cases h
   simp only[den,Np hu]
  ·cases h
 |.sv _,v,h=>by simp[lj] at h
 |.sp _ _,v,h=>by simp[lj] at h
 |.se _ _ _,v,h=>by simp[lj] at h
 |.sl _,v,h=>by simp[lj] at h
 |.sm _,v,h=>by simp[lj] at h
 |.fy _,v,h=>by simp[lj] at h
 |.ss _ _ _ _,v,h=>by simp[lj] at h
 |.agg l,v,h=>by
  unfold lj at h
  split at h<;>simp_all
  rename_i k n
  simp[←h,den,ai,Value.oneCell']
 |.bn _,v,h=>by simp[lj] at h
 |.fn _ _ _,v,h=>by simp[lj] at h
def RS (st:St)(x:Operand)(K:Value→Prop):Prop :=
 match ev (findF st.F) [] x with
 |some (.cg t s)=>(match lj s with
  |some v=>K (.iface t v)
  |none=>False)
 |_=>False
theorem AM {ops:List Oper}{i:Nat}{o:Oper}{r:List Oper}{Q:Exit→Act→World→Prop}{K:St→Prop}{Kp:List PanicEntry→St→Prop}{x:Operand}
  (hC:dm X Q K Kp) (hi:ops.drop i=o::r) (hc:o.op=.panic x) (hg:o.guard=none)
  (h:RS st x λv=>Kp [{ v,recovered:=false }] st):eB X ops Q K Kp i o r st:=by
 refine⟨fun ρ a w hm=>?_⟩
 unfold RS at h
 split at h
 ·rename_i t s e1
  split at h
  ·rename_i v e2
   have hs:bu a []:=λx hx=>by cases hx
   have hv:=aQ hm.fm hs e1
   have dU:den ρ (.cg t s)=some (.iface t v):=by simp only[den,Np e2]
   rw[dU] at hv
   have hx:a.eval x=.iface t v:=(Option.some.inj hv).symm
   have ho:ops[i]?=some o:=by
    have:=congrArg (λl=>l[0]?) hi
    simpa using this
   rw[List.range'_succ]
   refine wpOps_cons (by simpa using ho) (λ_=>?_) (λhw=>by rw[jS hg] at hw;cases hw)
   refine⟨λf _=>mB X.r f,?_⟩
   rw[Oper.semAt_eq _ _ _ (by rw[hc];intro c' im;cases im)]
   have cr:(execOp a.eval o).run X.P w=.halt (.panic (.iface t v)) w:=by
    simp only[execOp,hc,hx]
    simp[Instr.panic,goPanic,Result.andThen]
   rw[cr]
   exact hC.p _ ρ st a w hm h
  ·exact h.elim
 ·exact h.elim
def NB (st:St)(c:Call)(K:fE→Prop):Prop :=
 match c.callee with
 |.value (.func n)=>(match nJ (findF st.F) [] c.args.toList with
  |some l=>(match Nat.beq n 1000000 with
   |false=>eT l λl'=>K (n,l')
   |true=>False)
  |none=>False)
 |_=>False
theorem AK {ops:List Oper}{i:Nat}{o:Oper}{r:List Oper}{Q:Exit→Act→World→Prop}{K:St→Prop}{Kp:List PanicEntry→St→Prop}{c:Call}(hX:X.Ok)(hr:X.r=none)
  (hC:dm X Q K Kp) (hi:ops.drop i=o::r) (hc:o.op=.defer c) (hg:o.guard=none) (hd:o.dst=none)
  (h:NB st c λd=>match st with
   |⟨F,gs,H,nx,D⟩=>c7 X ops Q K Kp (i+1) r ⟨F,gs,H,nx,d::D⟩):eB X ops Q K Kp i o r st:=by
 refine⟨fun ρ a w hm=>?_⟩
 unfold NB at h
 split at h
 ·rename_i n bi
  split at h
  ·rename_i l e1
   split at h
   rotate_left
   ·exact h.elim
   rename_i oh
   rw[gn] at h
   have hs:bu a []:=λx hx=>by cases hx
   have hl:=q7 hm.fm hs e1
   have ho:ops[i]?=some o:=by
    have:=congrArg (λl=>l[0]?) hi
    simpa using this
   have eu:ops.drop (i+1)=r:=by
    have:=congrArg List.tail hi
    simpa using this
   rw[List.range'_succ]
   refine wpOps_cons (by simpa using ho) (λ_=>?_) (λhw=>by rw[jS hg] at hw;cases hw)
   refine⟨λf _=>mB X.r f,?_⟩
   have cr:(o.semAt (FW X.r).round a.eval).run X.P w=.ok (.defer { target:=.fn (.func n) #[],args:=(c.args.toList.map a.eval).toArray }) w:=by
    rw[vk,hr,Oper.semAt_none]
    simp only[execOp,hc,resolve,bi]
    have e2:a.eval (.func n)=.func (.func n) #[] #[]:=rfl
    simp[e2,Deferred.ofValue,Result.andThen]
    apply Array.ext';simp
   rw[cr]
   show wpOpsIn _ _ _ _ _ _ (({ a with defers:=_::a.defers }:Act).put o.dst undef) w
   rw[hd]
   obtain⟨F,gs,H,nx,D⟩:=st
   refine kf hX hC.k hC.p r (i+1) ρ _ _ w eu h ?_
   exact{
    fm:=hm.fm
    gs:=hm.gs
    df:=⟨⟨_,hl,by simp only[uU,oh]⟩,hm.df⟩
    hm:=hm.hm
    kp:=hm.kp
    nx:=hm.nx
    sz:=hm.sz }
  ·exact h.elim
 ·exact h.elim
structure r8 (P:Program) (n cG aL:Nat):Prop where
 body:Body P n
 ret:∀(w:World) (b:Nat) (x:Value),x.oneCell'=true→w.heap[b]?=some (.cells #[x] aL (0,0))→CallsDIn Fence.wide 0 P n #[.pointer (some ⟨b,0,none⟩)] .returning w λe u' w' =>
  (∃v,e=.returned v)∧u'=.returning∧w.heap.size≤w'.heap.size∧(∀c,c<w.heap.size→w'.heap[c]?=w.heap[c]?)∧dF w w'
 bL:∀(w:World) (b:Nat) (x:Value) (k:IntKind) (m:Int),x.oneCell'=true→w.heap[b]?=some (.cells #[x] aL (0,0))→CallsDIn Fence.wide 0 P n #[.pointer (some ⟨b,0,none⟩)] (.panicking [{ v:=.iface cG (.int k m),recovered:=false }]) w λe u' w' =>
  (∃v,e=.returned v)∧u'=.panicking [{ v:=.iface cG (.int k m),recovered:=true }]∧w.heap.size≤w'.heap.size∧(∀c,c<w.heap.size→c≠b→w'.heap[c]?=w.heap[c]?)∧w'.heap[b]?=some (.cells #[.int k m] aL (0,0))∧dF w w'
def J9 (cG:Nat)(ch:List PanicEntry)(K:IntKind→Int→Prop):Prop :=
 match ch with
 |[⟨.iface t (.int k m),false,false⟩]=>(match Nat.beq t cG with
  |true=>K k m
  |false=>False)
 |_=>False
def vM (n aL:Nat)(st:St)(K:Nat→Prop):Prop :=
 match st.D with
 |[(f,[.sp id 0])]=>(match Nat.beq f n,Nat.beq f 1000000,ab st.H id with
  |true,false,some (.cells t [_])=>(match Nat.beq t aL with
   |true=>K id
   |false=>False)
  |_,_,_=>False)
 |_=>False
def zA (X:Cx)(n cG aL:Nat)(rs:List ResultVar)(Rv:SV→St→Prop):Ex→St→Prop
 |.normal,st=>vM n aL st λ_=>(match h_ X st rs with
  |some l=>eT l λl'=>Rv (jW l') st
  |none=>False)
 |.ret,st=>vM n aL st λ_=>(match h_ X st rs with
  |some l=>eT l λl'=>Rv (jW l') st
  |none=>False)
 |.panic ch,st=>vM n aL st λid=>J9 cG ch λk m=>(match st with
  |⟨F,gs,H,nx,D⟩=>(match h_ X ⟨F,gs,(id,.cells aL [.si k m])::H,nx,D⟩ rs with
   |some l=>eT l λl'=>Rv (jW l') ⟨F,gs,(id,.cells aL [.si k m])::H,nx,D⟩
   |none=>False))
 |.exit _,_=>False
theorem D4 {n aL:Nat}{K:Nat→Prop}(h:vM n aL st K):∃id x,st.D=[(n,[.sp id 0])]∧ab st.H id=some (.cells aL [x])∧Nat.beq n 1000000=false∧K id:=by
 unfold vM at h
 split at h
 ·rename_i f id e1
  split at h
  ·rename_i t x e2 e0 e3
   split at h
   ·rename_i e4
    have h1:f=n:=by simpa using e2
    have h2:t=aL:=by simpa using e4
    subst h1;subst h2
    exact⟨id,x,e1,e3,e0,h⟩
   ·exact h.elim
  ·exact h.elim
 ·exact h.elim
theorem Qs {cG:Nat}{ch:List PanicEntry}{K:IntKind→Int→Prop}(h:J9 cG ch K):∃k m,ch=[{ v:=.iface cG (.int k m),recovered:=false }]∧K k m:=by
 unfold J9 at h
 split at h
 ·rename_i t k m
  split at h
  ·rename_i e
   have h1:t=cG:=by simpa using e
   subst h1
   exact⟨k,m,rfl,h⟩
  ·exact h.elim
 ·exact h.elim
theorem DS (hm:Mod X ρ st a w){n aL id:Nat}{x:SV}(hD:st.D=[(n,[.sp id 0])])(hf:ab st.H id=some (.cells aL [x]))(gu:Nat.beq n 1000000=false) :
  ∃(b:Nat) (u:Value),a.defers=[{ target:=.fn (.func n) #[],args:=#[.pointer (some ⟨b,0,none⟩)] }]∧ρ id=some (.bO b)∧u.oneCell'=true∧w.heap[b]?=some (.cells #[u] aL (0,0)):=by
 have fU:=hm.df
 rw[hD] at fU
 cases mW:a.defers with
 |nil=>rw[mW] at fU;exact fU.elim
 |cons d ds =>
  rw[mW] at fU
  obtain⟨⟨aM,h1,h2⟩,h3⟩:=fU
  have h3:=pY h3
  subst h3
  obtain⟨v,vs,g1,g2,rfl⟩:=jP h1
  simp only[ai,Option.some.injEq] at g2
  subst g2
  obtain⟨b,hb,rfl⟩:=nX g1
  obtain⟨nm,k1,k2⟩:=hm.hm.ok _ _ hf
  rw[hb] at k1;cases k1
  obtain⟨us,d1,d0,d2⟩:=k2
  obtain⟨u,xr,q1,q2,rfl⟩:=jP d1
  simp only[ai,Option.some.injEq] at q2
  subst q2
  exact⟨b,u,by rw[h2];simp only[uU,gu],hb,by simpa using d0,d2⟩
theorem Nb (hX:X.Ok)(hr:X.r=none){n cG aL:Nat}(hA:r8 X.P n cG aL){f:Nat}{fn:Func}{c:Code}(hf:X.P.funcs[f]?=some fn)(hb:fn.body=some c)(qx:fn.ntmps=X.nt)
  {args:List SV} {aM:List Value} {H:List (Nat × HB)} {nx:Nat} (hd:ai ρ args=some aM) (hlen:args.length≤X.nt) (hH:HM ρ (ab H) w)
  (hG:X.G=⟨w,Own ρ (ab H),ρ,Fz (ab H)⟩) (aU:∀j,nx≤j→ρ j=none) {Rv:SV→St→Prop}
  (h:exec X c (start args H nx) (zA X n cG aL fn.results.toList Rv)):Calls X.P f aM.toArray w (jL X Rv λ_ _=>False):=by
 refine(callsIn_wide (n:=0)).1 ?_
 have hm:=zo (X:=X) hd hlen hH hG aU
 have hw:=cW hX c _ _ h ρ _ w hm
 rw[hr] at hw
 refine callsIn_of_wp_defers (F:=Fence.wide) (n:=0) hf hb trivial (wpIn_mono (by rw[qx];exact hw) ?_)
 rintro e a' w' ⟨x,af,ρ',rfl,an,hk⟩
 have mZ:(vM n aL af λ_=>(match h_ X af fn.results.toList with
   |some l=>eT l λl'=>Rv (jW l') af
   |none=>False))→LeavesIn Fence.wide 0 X.P fn a'.tmps (jL X Rv λ_ _=>False) a'.defers .returning w':=by
  intro hk
  obtain⟨id,y,hD,kX,gu,hk⟩:=D4 hk
  obtain⟨b,u,g1,g2,g0,g3⟩:=DS an hD kX gu
  rw[g1]
  refine leavesIn_cons (by intro h;cases h) (by intro h;cases h) (hA.body _ _) (λg _=>trivial) ?_
  refine(hA.ret w' b u g0 g3).mono ?_
  rintro e u' jl ⟨⟨v,rfl⟩,rfl,hs,bA,bD⟩
  have fv:Mod X ρ' af a' jl:={ an with hm:=an.hm.world hs bA,kp:=an.kp.world hs bA bD }
  split at hk
  ·rename_i l e1
   rw[gn] at hk
   obtain⟨u,h1,h2⟩:=qK hX fv e1
   exact⟨u,h1,.inl ⟨_,af,ρ',u,rfl,h2,fv.mh,hk⟩⟩
  ·exact hk.elim
 cases x with
 |normal=>exact mZ hk
 |ret=>exact mZ hk
 |panic ch =>
  obtain⟨id,y,hD,kX,gu,hk⟩:=D4 hk
  obtain⟨k,m,rfl,eM⟩:=Qs hk
  obtain⟨b,u,g1,g2,g0,g3⟩:=DS an hD kX gu
  show LeavesIn Fence.wide 0 X.P fn a'.tmps (jL X Rv λ_ _=>False) a'.defers (.panicking _) w'
  rw[g1]
  refine leavesIn_cons (by intro h;cases h) (by intro h;cases h) (hA.body _ _) (λg _=>trivial) ?_
  refine(hA.bL w' b u k m g0 g3).mono ?_
  rintro e u' jl ⟨⟨v,rfl⟩,rfl,hs,bA,aI,bD⟩
  obtain⟨F,gs,H,nx,D⟩:=af
  have fv:Mod X ρ' ⟨F,gs,(id,.cells aL [.si k m])::H,nx,D⟩ a' jl:={
   fm:=an.fm
   gs:=an.gs
   df:=an.df
   hm:=an.hm.put kX rfl g2 rfl hs bA (by exact⟨[.int k m],by simp[ai,den],by simp[Value.oneCell'],aI⟩) rfl (λ_ _ _ h=>by cases h)
   kp:=an.kp.put kX rfl g2 rfl hs bA bD
   nx:=an.nx
   sz:=an.sz }
  simp only at eM
  split at eM
  ·rename_i l e1
   rw[gn] at eM
   obtain⟨u,h1,h2⟩:=qK hX fv e1
   exact⟨u,h1,.inl ⟨_,_,ρ',u,rfl,h2,fv.mh,eM⟩⟩
  ·exact eM.elim
 |exit n=>exact hk.elim
def Mj (P:Program)(T:cf)(C:Nat→Option Ct)(n cG aL:Nat)(fn:Func)(c:Code)(H:LH)(args:List SV)(fr:Nat)(out:cJ):Prop :=
 ∃(ps:List (Nat × HB)) (dR:List SV) (dJ:List (Nat × HB)) (fh:Nat) (K:List Nat),args=cX (nz ps) dR∧eU ps.length [] dR=true∧dR.length≤fn.ntmps∧Hand H ps∧dJ=kA 0 ps∧fh=ps.length ∧
  ∀G:cp,(∀j,fh≤j→G.ρ j=none)→exec ⟨P,T,C,G,none,fn.ntmps⟩ c (start dR dJ fh) (zA ⟨P,T,C,G,none,fn.ntmps⟩ n cG aL fn.results.toList
   (λv st=>(out.bL=none∨∃ch,out.bL=some (false,ch))∧pZ ps K fr out v st))
theorem jL.mono {X:Cx}{Rv Mg:SV→St→Prop}{Rp Mf:List PanicEntry→St→Prop}{e:Ending}{w:World}(h:jL X Rv Rp e w)(h1:∀v st,Rv v st→Mg v st)(h2:∀ch st,Rp ch st→Mf ch st):jL X Mg Mf e w:=by
 rcases h with⟨v,st,ρ,u,a,b,c,d⟩|⟨ch,st,ρ,a,b,c⟩
 ·exact .inl ⟨v,st,ρ,u,a,b,c,h1 _ _ d⟩
 ·exact .inr ⟨ch,st,ρ,a,b,h2 _ _ c⟩
theorem VL {P:Program}{T:cf}{C:Nat→Option Ct}(hX:∀G r nt,(⟨P,T,C,G,r,nt⟩:Cx).Ok){n cG aL:Nat}(hA:r8 P n cG aL){f:Nat}{fn:Func}{c:Code}(hf:P.funcs[f]?=some fn)(hb:fn.body=some c){ct:Ct}
  (h:∀fr args H out,ct fr args H=some out→fc out.pre→Mj P T C n cG aL fn c H args fr out):aP P f ct :=
 x7 (nt:=fn.ntmps) λfr args H out h1 h2=>by
  obtain⟨ps,dR,dJ,fh,K,h1,h2,h3,h4,h5,h6,hex⟩:=h fr args H out h1 h2
  refine⟨ps,dR,dJ,fh,K,h1,h2,h3,h4,h5,h6,fun ρ w aM hd hm aU=>?_⟩
  exact(Nb (X:=⟨P,T,C,⟨w,Own ρ (ab dJ),ρ,Fz (ab dJ)⟩,none,fn.ntmps⟩) (hX _ _ _) rfl hA hf hb rfl hd h3 hm rfl aU (hex _ aU)).mono λe w' he=>he.mono (λ_ _ h=>h) (λ_ _ h=>h.elim)
theorem aez {P:Program}{T:cf}(hT:dy P T){fn:Func}{c:Code}{c₀:Frame}{cs:List Frame}{R:Ending→FrameMode→World→Prop}{w:World}{a:Act}{b:Nat}{x:Value}{aL:Nat}
  (fI:fn.results=#[]) (hx:x.oneCell'=true) (hb:w.heap[b]?=some (.cells #[x] aL (0,0))) {y:SV} (ha:a.tmps.size=fn.ntmps) (hd:a.defers=[]) (h0:a.tmps[0]?=some (.pointer (some ⟨b,0,none⟩)))
  {v:Value} {t:Nat} (hy:∀ρ,den ρ y=some v) (ht:a.tmps[t]?=some v) (yG:t≠0) {gE:SV}
  (h:∀G:cp,(∀j,1≤j→G.ρ j=none)→exec ⟨P,T,aC [],G,none,fn.ntmps⟩ c ⟨[(0,⟨[],.sp 0 0⟩),(t,⟨[],y⟩)],[],[(0,.cells aL [.sv x])],1,[]⟩ (Fin ⟨P,T,aC [],G,none,fn.ntmps⟩ [] (λ_ st=>ab st.H 0=some (.cells aL [gE])) (λ_ _=>False)))
  (hR:∀w' z,(∀ρ,den ρ gE=some z→True)→w.heap.size≤w'.heap.size→(∀c,c<w.heap.size→c≠b→w'.heap[c]?=w.heap[c]?)→(dF w w'∧∃ρ z,den ρ gE=some z∧w'.heap[b]?=some (.cells #[z] aL (0,0)))→R (.returned (.tuple #[])) c₀.mode w') :
  c.wpSIn Fence.wide 0 P (bodyPostS P fn c₀ cs R) a (c₀::cs) w:=by
 refine wpSIn_of_wpIn rfl ?_
 have IY:b<w.heap.size:=by
  rcases Nat.lt_or_ge b w.heap.size with h|h
  ·exact h
  ·rw[Array.getElem?_eq_none h] at hb;cases hb
 let ρ:Env:=λj=>if j=0 then some (.bO b) else none
 let H:List (Nat × HB):=[(0,.cells aL [.sv x])]
 have hH:HM ρ (ab H) w:={
  ok:=λid hb' hf=>by
   by_cases dZ:id=0
   ·subst dZ
    have hf:some (HB.cells aL [.sv x])=some hb':=hf
    cases hf
    exact⟨.bO b,rfl,[x],by simp[ai,den,hx],by simp[hx],hb⟩
   ·have:ab H id=none:=by simp[H,ab,Ne.symm dZ]
    rw[this] at hf;cases hf
  sep:=λi j xv aeL c_ dE zT f1 f2 _ _ _ _ _ _=>by
   have key:∀{i:Nat} {xv:HB},ab H i=some xv→i=0:=by
    intro i xv hf
    by_cases dZ:i=0
    ·exact dZ
    ·have:ab H i=none:=by simp[H,ab,Ne.symm dZ]
     rw[this] at hf;cases hf
   rw[key f1,key f2]
  ro:=λid size n get nm zT hf=>by
   by_cases dZ:id=0
   ·subst dZ;cases hf
   ·have:ab H id=none:=by simp[H,ab,Ne.symm dZ]
    rw[this] at hf;cases hf
  ax:=λzT hz=>by
   obtain⟨id,size,C,v,n,get,hf,_⟩:=hz
   by_cases dZ:id=0
   ·subst dZ;cases hf
   ·have:ab H id=none:=by simp[H,ab,Ne.symm dZ]
    rw[this] at hf;cases hf }
 have hG:Good P T []:=⟨hT,λp h=>by cases h⟩
 have hm:Mod ⟨P,T,aC [],⟨w,Own ρ (ab H),ρ,Fz (ab H)⟩,none,fn.ntmps⟩ ρ ⟨[(0,⟨[],.sp 0 0⟩),(t,⟨[],y⟩)],[],H,1,[]⟩ a w:={
  fm:=λs e hf=>by
   have hf:findF [(0,⟨[],.sp 0 0⟩),(t,⟨[],y⟩)] s=some e:=hf
   by_cases h1:(0:Nat)=s
   ·subst h1
    rw[je] at hf;cases hf
    exact⟨λ_=>⟨_,h0,rfl⟩,λhn=>absurd (λx hx=>by cases hx) hn⟩
   ·rw[iB _ _ h1] at hf
    by_cases h2:t=s
    ·subst h2
     rw[je] at hf;cases hf
     exact⟨λ_=>⟨_,ht,hy ρ⟩,λhn=>absurd (λx hx=>by cases hx) hn⟩
    ·rw[iB _ _ h2] at hf;cases hf
  gs:=λs e hf x hx=>by
   have hf:findF [(0,⟨[],.sp 0 0⟩),(t,⟨[],y⟩)] s=some e:=hf
   by_cases h1:(0:Nat)=s
   ·subst h1;rw[je] at hf;cases hf;cases hx
   ·rw[iB _ _ h1] at hf
    by_cases h2:t=s
    ·subst h2;rw[je] at hf;cases hf;cases hx
    ·rw[iB _ _ h2] at hf;cases hf
  df:=by rw[hd];trivial
  hm:=hH
  kp:={ str:=dF.refl _,size:=Nat.le_refl _,same:=λ_ _ _=>rfl,own:=λb h=>.inl h,ext:=Ext.refl ρ,fz:=λb h=>.inr (.inr h) }
  nx:=λj hj=>by
   have hj:1≤j:=hj
   show(if j=0 then some (Nm.bO b) else none)=none
   rw[if_neg (by omega)]
  sz:=ha }
 have hw:=cW (hG.ok _ _ _) c _ _ (h ⟨w,Own ρ (ab H),ρ,Fz (ab H)⟩ (λj hj=>by
  show(if j=0 then some (Nm.bO b) else none)=none
  rw[if_neg (by omega)])) ρ a w hm
 refine wpIn_mono hw ?_
 rintro e a' w' ⟨x',af,ρ',rfl,an,hk⟩
 have iq:(match h_ ⟨P,T,aC [],⟨w,Own ρ (ab H),ρ,Fz (ab H)⟩,none,fn.ntmps⟩ af [],af.D with
   |some l,[]=>eT l λl'=>ab af.H 0=some (.cells aL [gE])
   |_,_=>False)→a'.defers=[]∧∃u',c₀::cs={ c₀ with mode:=u' }::cs∧∃v,(results fn a'.tmps).run P w'=.ok v w'∧R (.returned v) u' w':=by
  intro hk
  split at hk
  ·rename_i l e1 e2
   rw[gn] at hk
   refine⟨pY (by rw[←e2];exact an.df),c₀.mode,rfl,.tuple #[],?_,?_⟩
   ·rw[K6,fI]
    simp
   ·obtain⟨nm,k1,k2⟩:=an.hm.ok _ _ hk
    have lq:ρ' 0=some (.bO b):=an.kp.ext 0 _ rfl
    rw[lq] at k1;cases k1
    obtain⟨us,d1,_,d2⟩:=k2
    obtain⟨z,xr,q1,q2,rfl⟩:=jP d1
    simp only[ai,Option.some.injEq] at q2
    subst q2
    refine hR w' z (λ_ _=>trivial) an.kp.size (λc hc sT=>an.kp.same c hc ?_) ⟨an.kp.str,ρ',z,q1,d2⟩
    rintro⟨id,hb',ak,p1,_,p3,p4⟩
    have p3:(if id=0 then some (Nm.bO b) else none)=some ak:=p3
    split at p3
    ·cases p3
     simp only[Nm.owner,Option.some.injEq] at p4
     exact sT p4.symm
    ·cases p3
  ·exact hk.elim
 cases x' with
 |normal=>exact iq hk
 |ret=>exact iq hk
 |panic ch =>
  simp only[Fin] at hk
  split at hk
  ·exact hk.elim
  ·exact hk.elim
 |exit n=>exact hk.elim
theorem G9 {P:Program}{T:cf}(hT:dy P T){n cG aL:Nat}{fn:Func}{id:Nat}{o1 o2:Oper}{rest:Code}{d1 d2:Nat}(hf:P.funcs[n]?=some fn)(hb:fn.body=some (.seq (.region id #[o1,o2] false) rest))
  (hn : (fn.name == "runtime.NumGoroutine") = false) (fI : fn.results = #[]) {c : Call} (h1 : o1.op = .call c) (hc : c.callee = .builtin .recover) (kY : o1.guard = none) (uu : o1.dst = some d1)
  (h2:o2.op=.assign (.tmp d1)) (EJ:o2.guard=none) (EI:o2.dst=some d2) (aV:d2≠d1) (Pn:d2≠0) (I4:d1≠0) (ly:d1<fn.ntmps) (qv:d2<fn.ntmps)
  (I7:∀(x:Value) (G:cp),(∀j,1≤j→G.ρ j=none)→exec ⟨P,T,aC [],G,none,fn.ntmps⟩ rest ⟨[(0,⟨[],.sp 0 0⟩),(d2,⟨[],.sv .nilIface⟩)],[],[(0,.cells aL [.sv x])],1,[]⟩ (Fin ⟨P,T,aC [],G,none,fn.ntmps⟩ [] (λ_ st=>ab st.H 0=some (.cells aL [.sv x])) (λ_ _=>False)))
  (I8:∀(x:Value) (k:IntKind) (m:Int) (G:cp),(∀j,1≤j→G.ρ j=none)→exec ⟨P,T,aC [],G,none,fn.ntmps⟩ rest ⟨[(0,⟨[],.sp 0 0⟩),(d2,⟨[],.cg cG (.si k m)⟩)],[],[(0,.cells aL [.sv x])],1,[]⟩ (Fin ⟨P,T,aC [],G,none,fn.ntmps⟩ [] (λ_ st=>ab st.H 0=some (.cells aL [.si k m])) (λ_ _=>False))) :
  r8 P n cG aL:=by
 have JN:∀(a:Act) (w:World),(execOp a.eval o1).run P w=.ok .recover w:=by
  intro a w
  simp only[execOp,h1,resolve,hc]
  rfl
 have PV:∀(a:Act) (w:World),(execOp a.eval o2).run P w=.ok (.value (a.eval (.tmp d1))) w:=by
  intro a w
  simp only[execOp,h2]
  rfl
 have key:∀(w:World) (b:Nat) (x:Value) (u:FrameMode) (v:Value) (u':FrameMode) (y gE:SV),x.oneCell'=true→w.heap[b]?=some (.cells #[x] aL (0,0))→(∀ρ,den ρ y=some v) →
   (∀(c₀:Frame) (cs:List Frame),c₀.mode=u→(match recoverD (c₀::cs) with
    |some (v',cs')=>v'=v∧cs'={ c₀ with mode:=u' }::cs
    |none=>v=.nilIface∧u'=u)) →
   (∀G:cp,(∀j,1≤j→G.ρ j=none)→exec ⟨P,T,aC [],G,none,fn.ntmps⟩ rest ⟨[(0,⟨[],.sp 0 0⟩),(d2,⟨[],y⟩)],[],[(0,.cells aL [.sv x])],1,[]⟩ (Fin ⟨P,T,aC [],G,none,fn.ntmps⟩ [] (λ_ st=>ab st.H 0=some (.cells aL [gE])) (λ_ _=>False))) →
   CallsDIn Fence.wide 0 P n #[.pointer (some ⟨b,0,none⟩)] u w λe qP w'=>(∃v,e=.returned v)∧qP=u'∧w.heap.size≤w'.heap.size∧(∀c,c<w.heap.size→c≠b→w'.heap[c]?=w.heap[c]?)∧dF w w'∧∃ρ z,den ρ gE=some z∧w'.heap[b]?=some (.cells #[z] aL (0,0)):=by
  intro w b x u v u' y gE hx l8 hy rC he
  refine callsDIn_of_wpSIn hf hb trivial (λc₀ cs jw=>?_)
  refine wpSIn_seq (wpSIn_region ?_)
  let a0:Act:={ tmps:=#[.pointer (some ⟨b,0,none⟩)]++Array.replicate (fn.ntmps-1) undef,defers:=[] }
  have dr:a0.tmps.size=fn.ntmps:=by simp[a0];omega
  have II:a0.tmps[0]?=some (.pointer (some ⟨b,0,none⟩)):=by simp[a0,Array.getElem?_append]
  let a1:Act:=(a0.put (some d1) v).put (some d2) v
  have AD:(a0.put (some d1) v).eval (.tmp d1)=v:=by
   simp only[Act.eval,Act.put,Array.getD_eq_getD_getElem?,Array.getElem?_setIfInBounds,dr,ly,if_true,Option.getD_some]
  have Px:∀DQ:Frame,DQ={ c₀ with mode:=u' }→rest.wpSIn Fence.wide 0 P (bodyPostS P fn c₀ cs λe qP w'=>(∃v,e=.returned v)∧qP=u'∧w.heap.size≤w'.heap.size∧(∀c,c<w.heap.size→c≠b→w'.heap[c]?=w.heap[c]?)∧dF w w'∧∃ρ z,den ρ gE=some z∧w'.heap[b]?=some (.cells #[z] aL (0,0))) a1 (DQ::cs) w:=by
   intro DQ Pm
   have hw:=aez (P:=P) hT (fn:=fn) (c:=rest) (c₀:=DQ) (cs:=cs) (R:=λe qP w'=>(∃v,e=.returned v)∧qP=u'∧w.heap.size≤w'.heap.size∧(∀c,c<w.heap.size→c≠b→w'.heap[c]?=w.heap[c]?)∧dF w w'∧∃ρ z,den ρ gE=some z∧w'.heap[b]?=some (.cells #[z] aL (0,0)))
    (w:=w) (a:=a1) (b:=b) (x:=x) (aL:=aL) fI hx l8 (y:=y) (by simp[a1,Act.put,dr]) rfl
    (by simp[a1,Act.put,Array.getElem?_setIfInBounds,I4,Pn,II]) hy (t:=d2) (by simp[a1,Act.put,Array.getElem?_setIfInBounds,dr,qv]) Pn he
    (λw' z _ hs hk hz=>⟨⟨_,rfl⟩,by rw[Pm],hs,hk,hz⟩)
   intro bb k kW jT EF Yl
   obtain⟨e,a',cs',w',l,q,r⟩:=hw bb k kW jT EF Yl
   refine⟨e,a',cs',w',l,?_,r⟩
   subst Pm
   cases e<;>exact q
  have ae1:Region.wanted o1 (yielded #[o1,o2] a0.tmps)=true:=jS kY _
  have BJ:(List.range (#[o1,o2]:Array Oper).size)=[0,1]:=rfl
  rw[BJ]
  show wpOpsSIn Fence.wide 0 P #[o1,o2] _ [0,1] a0 (c₀::cs) w
  have e0:(#[o1,o2]:Array Oper)[0]?=some o1:=rfl
  have V8:(#[o1,o2]:Array Oper)[1]?=some o2:=rfl
  simp only[wpOpsSIn,e0,V8]
  have hr:=rC c₀ cs jw
  refine⟨λf _=>trivial,?_⟩
  simp only[jS kY,if_true,JN]
  split at hr
  ·rename_i v' cs' e1
   obtain⟨rfl,rfl⟩:=hr
   simp only[e1,List.size_toArray,List.length_cons,jS EJ,if_true,PV,uu,EI,AD]
   exact⟨λf _=>trivial,Px _ rfl⟩
  ·rename_i e1
   obtain⟨rfl,rfl⟩:=hr
   simp only[e1,jS EJ,if_true,PV,uu,EI,AD]
   exact⟨λf _=>trivial,Px c₀ (by rw[←jw])⟩
 exact{
  body:=aw hf hb hn
  ret:=λw b x hx l8=>by
   refine(key w b x .returning .nilIface .returning (.sv .nilIface) (.sv x) hx l8 (fun ρ=>rfl) (λc₀ cs jw=>by
    simp[recoverD,jw]) (I7 x)).mono ?_
   rintro e u' w' ⟨h1,h2,h3,h4,bD,ρ,z,h5,h6⟩
   refine⟨h1,h2,h3,λc hc=>?_,bD⟩
   by_cases sT:c=b
   ·subst sT
    rw[h6,l8]
    simp only[den,hx,if_true,Option.some.injEq] at h5
    rw[h5]
   ·exact h4 c hc sT
  bL:=λw b x k m hx l8=>by
   refine(key w b x _ (.iface cG (.int k m)) (.panicking [{ v:=.iface cG (.int k m),recovered:=true }]) (.cg cG (.si k m)) (.si k m) hx l8 (fun ρ=>rfl) (λc₀ cs jw=>by
    simp[recoverD,jw]) (I8 x k m)).mono ?_
   rintro e u' w' ⟨h1,h2,h3,h4,bD,ρ,z,h5,h6⟩
   refine⟨h1,h2,h3,h4,?_,bD⟩
   simp only[den,Option.some.injEq] at h5
   rw[h6,h5] }
end
def cn (sz:Nat)(H:LH)(id:Nat):Option (Nat × (Nat→List SV)) :=
 match H id with
 |some (.ro s n get)=>(match Nat.beq s sz with
  |true=>some (n,get)
  |false=>none)
 |some (.row _ s n xs)=>(match Nat.beq s sz with
  |true=>some (n,λi=>pT sz (nY (i*sz) xs))
  |false=>none)
 |some (.vec _ s n get)=>(match Nat.beq s sz with
  |true=>some (n,get)
  |false=>none)
 |_=>none
theorem fk {sz:Nat}{H H':LH}{id:Nat}{x:Nat × (Nat→List SV)}(hH:∀id hb,H id=some hb→H' id=some hb)(h:cn sz H id=some x):cn sz H' id=some x:=by
 unfold cn at h ⊢
 split at h
 ·rename_i s n get e;rw[hH _ _ e];exact h
 ·rename_i T s n xs e;rw[hH _ _ e];exact h
 ·rename_i T s n xs e;rw[hH _ _ e];exact h
 ·cases h
theorem gK {sz:Nat}{H:LH}{id n:Nat}{get:Nat→List SV}(h:cn sz H id=some (n,get)){s:Nat→Nat}{yp:Nat→List SV}(hg:∀i,i<n→cX s (yp i)=get i):qX H s id (.ro sz n yp):=by
 unfold cn at h
 split at h
 ·rename_i s' n' get' e
  split at h
  ·rename_i hb
   have:s'=sz:=by simpa using hb
   subst this
   cases h
   exact .inl ⟨get,e,hg⟩
  ·cases h
 ·rename_i T s' n' xs e
  split at h
  ·rename_i hb
   have:s'=sz:=by simpa using hb
   subst this
   cases h
   refine .inr (.inl ⟨T,xs,e,λi hi=>?_⟩)
   rw[hg i hi]
   show pT _ (nY _ _)=_
   rw[GD,As]
  ·cases h
 ·rename_i T s' n' get' e
  split at h
  ·rename_i hb
   have:s'=sz:=by simpa using hb
   subst this
   cases h
   exact .inr (.inr ⟨T,_,e,hg⟩)
  ·cases h
 ·cases h
abbrev Span:=Int × Int
def gL (get:Nat→List SV)(i:Nat):Span :=
 match get i with
 |[.si .i64 a,.si .i64 b]=>(a,b)
 |_=>(0,0)
def iw (x:Span):List SV:=[.si .i64 x.1,.si .i64 x.2]
def oK (n:Nat)(get:Nat→List SV):Prop:=∀i,i<n→get i=iw (gL get i)
def jG (n:Nat)(get:Nat→List SV):List Span:=(List.range n).map (gL get)
theorem kU {H:LH}{sz id n:Nat}{get:Nat→List SV}(h:cn sz H id=some (n,get)){yp:Nat→List SV}(hk:∀i,eU 0 [] (yp i)=true)(hg:∀i,i<n→yp i=get i):Hand H [(id,.ro sz n yp)] where
 ok j c hb hj:=by
  cases j with
  |zero =>
   simp at hj
   obtain⟨rfl,rfl⟩:=hj
   exact gK h λi hi=>by rw[rV _ (hk i)];exact hg i hi
  |succ j=>simp at hj
 ids j c hb hj:=by
  cases j with
  |zero =>
   simp at hj
   obtain⟨rfl,rfl⟩:=hj
   intro i _
   exact iM.mono (λj hj=>by rcases hj with h|h;exact absurd h (Nat.not_lt_zero _);cases h) _ (pI _ (hk i))
  |succ j=>simp at hj
 inj i j c hb hb' hi hj h1 h2:=by
  cases i with
  |zero=>simp at hi;obtain⟨_,rfl⟩:=hi;cases h1
  |succ i=>simp at hi
mutual
theorem Ks {n:Nat}:∀(x:SV),di 0 [] x=true→di n [] x=true
 |.sp i _,h=>by rcases ku (by simpa only[di] using h) with h|h;exact absurd h (Nat.not_lt_zero _);cases h
 |.se i _ _,h=>by rcases ku (by simpa only[di] using h) with h|h;exact absurd h (Nat.not_lt_zero _);cases h
 |.sl i,h=>by rcases ku (by simpa only[di] using h) with h|h;exact absurd h (Nat.not_lt_zero _);cases h
 |.sm i,h=>by rcases ku (by simpa only[di] using h) with h|h;exact absurd h (Nat.not_lt_zero _);cases h
 |.fy i,h=>by rcases ku (by simpa only[di] using h) with h|h;exact absurd h (Nat.not_lt_zero _);cases h
 |.ss i _ _ _,h=>by rcases ku (by simpa only[di] using h) with h|h;exact absurd h (Nat.not_lt_zero _);cases h
 |.agg l,h=>by rw[di] at h ⊢;exact wU l h
 |.bn l,h=>by rw[di] at h ⊢;exact wU l h
 |.fn _ a b,h=>by
  rw[di] at h ⊢
  split at h
  ·rename_i e;rw[wU a e];exact wU b h
  ·cases h
 |.cg _ x,h=>by rw[di] at h ⊢;exact Ks x h
 |.sv _,_=>by rw[di]
 |.si _ _,_=>by rw[di]
 |.sb _,_=>by rw[di]
theorem wU {n:Nat}:∀(l:List SV),eU 0 [] l=true→eU n [] l=true
 |[],_=>by rw[eU]
 |x::r,h=>by
  rw[eU] at h ⊢
  split at h
  ·rename_i e;rw[Ks x e];exact wU r h
  ·cases h
end
theorem bU {ps:List (Nat × HB)}{fr:Nat}{out:cJ}{v:SV}{st:St}(h:eY v out.v)(hk:di 0 [] v=true)(hn:out.news=[])(pw:qD st.H (kA 0 ps)):pZ ps [] fr out v st where
 val:=by rw[Gc v hk];exact h
 LO:=Ks v hk
 news:=by rw[hn];trivial
 Fs:=pw
 Ca:=rfl
 short:=rfl
section
variable {X:Cx}{st:St}
theorem kg {ops:List Oper}{i:Nat}{o:Oper}{r:List Oper}{Q:Exit→Act→World→Prop}{K:St→Prop}{Kp:List PanicEntry→St→Prop}(hX:X.Ok)
  (hC:dm X Q K Kp) (hi:ops.drop i=o::r) (lA:∀c,o.op≠.defer c) (hg:o.guard=none)
  (h:∀ρ a w,Mod X ρ st a w→∃v w' ρ' af,((execOp a.eval o).run X.P w=.ok (.value v) w'∨((execOp a.eval o).run X.P w=.ok .skip w'∧v=undef))∧Mod X ρ' af (a.put o.dst v) w'∧c7 X ops Q K Kp (i+1) r af) :
  eB X ops Q K Kp i o r st:=by
 refine⟨fun ρ a w hm=>?_⟩
 obtain⟨v,w',ρ',af,cr,an,hk⟩:=h ρ a w hm
 have ho:ops[i]?=some o:=by
  have:=congrArg (λl=>l[0]?) hi
  simpa using this
 have eu:ops.drop (i+1)=r:=by
  have:=congrArg List.tail hi
  simpa using this
 rw[List.range'_succ]
 refine wpOps_cons (by simpa using ho) (λ_=>?_) (λhw=>by rw[jS hg] at hw;cases hw)
 rcases cr with cr|⟨cr,rfl⟩
 ·exact xu lA cr (kf hX hC.k hC.p r (i+1) ρ' af _ w' eu hk an)
 ·exact LY lA cr (kf hX hC.k hC.p r (i+1) ρ' af _ w' eu hk an)
theorem ace {P:Program}{T:cf}{ρ:Env}{te:TI}{z:List SV}(hz:ofValues te.zero.cells.toList=some z)(gY:z.length=te.size)(len:Nat) :
  ∃vz,ai ρ (la len z)=some vz∧vz.all (·.oneCell')=true ∧
   (Array.range (len*te.size)).map ((if len*te.size=0 then #[] else te.zero.cells)[· % (if len*te.size=0 then #[] else te.zero.cells).size]!)=vz.toArray:=by
 obtain⟨rF,lE⟩:=yW ρ hz
 have hlen:=j8 rF
 by_cases h0:len*te.size=0
 ·refine⟨[],?_,rfl,by simp[h0]⟩
  have hr:(la len z).length=0:=by rw[Gd,gY];exact h0
  rw[List.eq_nil_of_length_eq_zero hr];rfl
 ·have cR:0<te.zero.cells.toList.length:=by
   rw[hlen,gY]
   rcases Nat.eq_zero_or_pos te.size with h|h
   ·rw[h] at h0;simp at h0
   ·exact h
  refine⟨_,Sa rF cR len,?_,?_⟩
  ·rw[List.all_eq_true] at lE ⊢
   intro x hx
   obtain⟨i,hi,rfl⟩:=List.mem_map.1 hx
   have aG:i % te.zero.cells.toList.length<te.zero.cells.toList.length:=Nat.mod_lt _ cR
   rw[List.getD_eq_getElem?_getD,List.getElem?_eq_getElem aG]
   exact lE _ (List.getElem_mem aG)
  ·rw[if_neg h0,R_,hlen,gY]
   congr 1
   apply List.map_congr_left
   intro i hi
   have aG:i % te.size<te.zero.cells.toList.length:=by
    rw[hlen,gY];exact Nat.mod_lt _ (by rw[hlen,gY] at cR;exact cR)
   rw[List.getD_eq_getElem?_getD,List.getD_eq_getElem?_getD,List.getElem?_eq_getElem aG]
   rfl
theorem aa4 {P:Program}{T:cf}{ρ:Env}{H:LH}{w:World}{fr:Nat}(hT:dy P T)(hf:ρ fr=none){t e:Nat}{ti te:TI}(ht:T t=some ti)(hd:ti.desc=.slice e)(ff:T e=some te)
  {z:List SV} (hz:ofValues te.zero.cells.toList=some z) (gY:z.length=te.size) (sS:te.bytes≤1000) {n:Nat} (hn:n≤1000) {k k':IntKind} :
  sd ρ H fr w ((do pure (Next.value (←Instr.makeSlice t (.int k n) (.int k' n))):Sem Next).run P w) ⟨none,.sl fr,.new (.row e te.size n (la n z))⟩:=by
 obtain⟨vl,h1,h2,h3⟩:=ace (P:=P) (T:=T) (ρ:=ρ) hz gY n
 have BS:vl.length=n*te.size:=by rw[j8 h1,Gd,gY]
 obtain⟨inf,i1,i2,i3,i4⟩:=acu hT ff w
 have hw:IntKind.i64.wrap (n:Int)=n:=qS (show ae .i64 (n:Int) from⟨by omega,by omega⟩)
 have Zo:te.bytes*n≤1000000:=Nat.mul_le_mul sS hn
 have aeY:(inf.bytes:Int)*(n:Int)≤1000000:=by
  have h5:((te.bytes*n:Nat):Int)≤((1000000:Nat):Int):=Int.ofNat_le.2 Zo
  rw[Int.natCast_mul] at h5
  rw[i4];exact h5
 refine⟨.slice (some ⟨w.heap.size,0,none⟩) n n,.row w.heap.size n n te.size,.cells vl.toArray e,?_,?_,?_,?_,?_⟩
 ·refine cy ?_
  have c1:¬(inf.bytes:Int)*(n:Int)>2 ^ 48:=by omega
  have c2:¬n*inf.bytes>roomBytes:=by
   rw[i4,Nat.mul_comm]
   unfold roomBytes
   omega
  have a1:∀(k:IntKind) (m:Int) (w:World),(asInt (.int k m)).run P w=.ok m w:=λ_ _ _=>rfl
  have kW:(decide ((n:Int)<0)||decide ((inf.bytes:Int)*(n:Int)>2 ^ 48)||decide ((n:Int)<0)||decide ((n:Int)>(n:Int)))=false:=by
   simp only[Bool.or_eq_false_iff,decide_eq_false_iff_not]
   exact⟨⟨⟨by omega,c1⟩,by omega⟩,by omega⟩
  have Y9:(n:Int).toNat=n:=by omega
  unfold Instr.makeSlice
  simp only[Sem.run_bind,dX hT ht,Result.andThen,hd,a1,i1,hw,kW,Bool.false_eq_true,if_false,Y9,askRoom,if_neg c2,Sem.run_pure,lL hT ff]
  by_cases h0:n*te.size=0
  ·rw[if_pos h0] at h3 ⊢
   simp only[Sem.run_bind,Sem.run_pure,Result.andThen,h3]
   rfl
  ·rw[if_neg h0] at h3 ⊢
   simp only[Sem.run_bind,Sem.run_pure,Result.andThen,xe hT ff,h3]
   rfl
 ·simp[den,cj]
 ·refine⟨rfl,rfl,⟨Nat.le_refl _,by unfold maxLen;omega⟩,vl,[],fT (Ext.aq _ hf) _ _ h1,h2,BS,by simp,?_⟩
  rw[List.append_nil]
  exact heap_alloc_new w _
 ·intro b hb;simp[Nm.owner] at hb;exact hb.symm
 ·exact⟨λb hb=>(by cases hb),λs C h=>(by cases h)⟩
end
def ke (ρ:Env)(s:Nat→Nat)(n:Nat):Env:=λj=>if j<n then ρ (s j) else none
theorem nZ {ρ:Env}{s:Nat→Nat}{n j:Nat}(h:j<n):ke ρ s n j=ρ (s j):=by simp[ke,h]
theorem vL {ρ:Env}{s:Nat→Nat}{n j:Nat}{nm:Nm}(h:ke ρ s n j=some nm):j<n∧ρ (s j)=some nm:=by
 unfold ke at h;split at h
 ·exact⟨by assumption,h⟩
 ·cases h
mutual
theorem ui {ρ:Env}{s:Nat→Nat}{n:Nat}:∀(x:SV),dM n x=true→den (ke ρ s n) x=den ρ (bX s x)
 |.sv x,_=>by simp[den,bX]
 |.si k n,_=>by simp[den,bX]
 |.sb p,_=>by simp[den,bX]
 |.sp id off,h=>by simp only[dM,lH] at h;simp[den,bX,nZ h]
 |.se id i off,h=>by simp only[dM,lH] at h;simp[den,bX,nZ h]
 |.sl id,h=>by simp only[dM,lH] at h;simp[den,bX,nZ h]
 |.sm id,h=>by simp only[dM,lH] at h;simp[den,bX,nZ h]
 |.fy id,h=>by simp only[dM,lH] at h;simp[den,bX,nZ h]
 |.ss id _ _ _,h=>by simp only[dM,lH] at h;simp[den,bX,nZ h]
 |.agg l,h=>by simp only[dM] at h;simp[den,bX,mK l h]
 |.bn l,h=>by simp only[dM] at h;simp[den,bX,mK l h]
 |.fn f a b,h=>by
  simp only[dM] at h
  split at h
  ·rename_i e;simp[den,bX,mK a e,mK b h]
  ·cases h
 |.cg t x,h=>by simp only[dM] at h;simp[den,bX,ui x h]
theorem mK {ρ:Env}{s:Nat→Nat}{n:Nat}:∀(x:List SV),fM n x=true→ai (ke ρ s n) x=ai ρ (cX s x)
 |[],_=>by simp[ai,cX]
 |x::r,h=>by
  simp only[fM] at h
  split at h
  ·rename_i e;simp[ai,cX,ui x e,mK r h]
  ·cases h
end
def g_ (s:Nat→Nat)(n:Nat):HB→HB→Prop
 |.cells T cs,.cells U ds=>T=U∧p8 cs (cX s ds)∧fM n ds=true
 |.row T z m xs,.row U y k ys=>T=U∧z=y∧m=k∧p8 xs (cX s ys)∧fM n ys=true
 |.row T z m xs,.vec U y k g=>T=U∧z=y∧m=k∧∀i,i<m→(xs.drop (i*z)).take z=cX s (g i)∧fM n (g i)=true
 |.vec T z m g',.vec U y k g=>T=U∧z=y∧m=k∧∀i,i<m→g' i=cX s (g i)∧fM n (g i)=true
 |.ro z m g',.ro y k g=>z=y∧m=k∧∀i,i<m→g' i=cX s (g i)∧fM n (g i)=true
 |.map es c,.map fs d=>es=fs∧c=d
 |.map es c,.mp l=>(es.map λe=>(e.1,e.2.1)).Perm l
 |.mp es,.mp l=>es.Perm l
 |.it mid since seen last,.it Rk ac3 acN aaC=>mid=s Rk∧since=ac3∧seen=acN∧last=aaC∧pJ Rk n=true
 |.loop F nt fn ps a b db st pd,.loop F' Ry Ou R0 a' b' HH af xa=>nt=Ry∧fn=Ou∧ps=R0∧a=a'∧b=b'∧db=s HH∧pJ HH n=true∧st=af∧pd=xa ∧
   ∀t v,gq F' t=some v→gq F t=some (bX s v)∧dM n v=true
 |.eh,.eh=>True
 |.ax z C,.ax y C'=>z=y∧∀v m g,C' v m g→C v m g
 |_,.dead=>True
 |_,_=>False
theorem Kw {ρ:Env}{s:Nat→Nat}{n:Nat}{w:World}{h h':HB}{nm:Nm}(hl:g_ s n h h')(k:ao ρ w h nm):ao (ke ρ s n) w h' nm:=by
 cases h' with
 |dead=>trivial
 |cells U ds =>
  cases h<;>simp only[g_] at hl
  obtain⟨rfl,h2,h3⟩:=hl
  cases nm<;>simp only[ao] at k ⊢
  obtain⟨vs,d1,d2⟩:=k
  exact⟨vs,by rw[mK _ h3,←qY _ _ h2];exact d1,d2⟩
 |ro y k' g =>
  cases h<;>simp only[g_] at hl
  obtain⟨rfl,rfl,h2⟩:=hl
  cases nm<;>simp only[ao] at k ⊢
  obtain⟨e1,e2,e0,e3⟩:=k
  refine⟨e1,e2,e0,λhn=>?_⟩
  obtain⟨ad,a1,a2,a3⟩:=e3 hn
  refine⟨ad,a1,a2,λi hi=>?_⟩
  obtain⟨vs,d1,d2⟩:=a3 i hi
  obtain⟨h3,h4⟩:=h2 i hi
  exact⟨vs,by rw[mK _ h4,←h3];exact d1,d2⟩
 |ax y C' =>
  cases h<;>simp only[g_] at hl
  obtain⟨rfl,h2⟩:=hl
  cases nm<;>simp only[ao] at k ⊢
  exact⟨k.1,λv m g hc=>k.2 v m g (h2 v m g hc)⟩
 |row U y k' ys =>
  cases h<;>simp only[g_] at hl
  obtain⟨rfl,rfl,rfl,h2,h3⟩:=hl
  cases nm<;>simp only[ao] at k ⊢
  obtain⟨e1,e2,e3,vs,rest,d1,d2⟩:=k
  exact⟨e1,e2,e3,vs,rest,by rw[mK _ h3,←qY _ _ h2];exact d1,d2⟩
 |vec U y k' g =>
  cases h with
  |row T z m xs =>
   obtain⟨rfl,rfl,rfl,h2⟩:=hl
   cases nm<;>simp only[ao] at k ⊢
   rename_i nb n' c' s'
   obtain⟨e1,e2,e3,vs,rest,d1,d2,d3,d4,d5⟩:=k
   refine⟨e1,e2,e3,vs++rest,d5,?_,λi hi=>?_⟩
   ·rw[List.length_append,d3,d4,←Nat.add_mul]
    congr 1;omega
   ·obtain⟨h3,h4⟩:=h2 i hi
    have hd:=An d1 (i*z) z
    rw[h3] at hd
    have hle:i*z+z≤m*z:=by
     have:(i+1)*z≤m*z:=Nat.mul_le_mul_right _ hi
     rw[Nat.add_mul] at this;omega
    refine⟨_,by rw[mK _ h4];exact hd,?_,by simp;omega,λj v hv=>?_⟩
    ·rw[List.all_eq_true] at d2 ⊢
     intro x qA
     exact d2 x (List.mem_of_mem_drop (List.mem_of_mem_take qA))
    ·rw[List.getElem?_take] at hv
     split at hv
     ·rw[List.getElem?_drop] at hv
      rw[List.getElem?_append_left (by have:=iI hv;omega)]
      exact hv
     ·cases hv
  |vec T z m g' =>
   obtain⟨rfl,rfl,rfl,h2⟩:=hl
   cases nm<;>simp only[ao] at k ⊢
   ·exact k
   obtain⟨e1,e2,e3,cells,d1,d2,d3⟩:=k
   refine⟨e1,e2,e3,cells,d1,d2,λi hi=>?_⟩
   obtain⟨h3,h4⟩:=h2 i hi
   obtain⟨vs,c1,c2⟩:=d3 i hi
   exact⟨vs,by rw[mK _ h4,←h3];exact c1,c2⟩
  |_=>exact hl.elim
 |map fs d =>
  cases h<;>simp only[g_] at hl
  obtain⟨rfl,rfl⟩:=hl
  cases nm<;>exact k
 |mp l =>
  cases h with
  |map es c=>cases nm<;>simp only[ao] at k ⊢;exact⟨es,c,k,hl⟩
  |mp es =>
   cases nm<;>simp only[ao] at k ⊢
   obtain⟨nw,c,h1,h2⟩:=k
   exact⟨nw,c,h1,h2.trans hl⟩
  |_=>exact hl.elim
 |it mid since seen last =>
  cases h<;>simp only[g_] at hl
  obtain⟨rfl,rfl,rfl,rfl,h2⟩:=hl
  cases nm<;>simp only[ao] at k ⊢
  obtain⟨mb,h3,h4⟩:=k
  exact⟨mb,by rw[nZ (lH.1 h2)];exact h3,h4⟩
 |loop F' Ry Ou R0 a' b' HH af xa =>
  cases h<;>simp only[g_] at hl
  obtain⟨rfl,rfl,rfl,rfl,rfl,rfl,h2,rfl,rfl,h3⟩:=hl
  cases nm<;>simp only[ao] at k ⊢
  obtain⟨tmps,kQ,k1,k2,k3,k4⟩:=k
  refine⟨tmps,kQ,by rw[nZ (lH.1 h2)];exact k1,k2,k3,λt v hv=>?_⟩
  obtain⟨h4,h5⟩:=h3 t v hv
  obtain⟨u,u1,u2⟩:=k4 t _ h4
  exact⟨u,u1,by rw[ui _ h5];exact u2⟩
 |eh =>
  cases h<;>simp only[g_] at hl
  cases nm<;>exact k
theorem nh {s:Nat→Nat}{n:Nat}{h h':HB}(hl:g_ s n h h')(hv:h'.live=true):h.live=true:=by
 cases h'<;>cases h<;>first|rfl|exact False.elim hl|cases hv
theorem Fw {s:Nat→Nat}{n:Nat}{h:HB}{z m:Nat}{g:Nat→List SV}(hl:g_ s n h (.ro z m g)):∃g',h=.ro z m g':=by
 cases h<;>simp only[g_] at hl
 obtain⟨rfl,rfl,_⟩:=hl
 exact⟨_,rfl⟩
def qR (s:Nat→Nat)(n:Nat)(F:List (Nat × FE)):List (Nat × FE)→Prop
 |[]=>True
 |(t,⟨[],v⟩)::r=>(match findF F t with
  |some ⟨[],u⟩=>eY u (bX s v)∧dM n v=true
  |_=>False)∧qR s n F r
 |_::_=>False
def gN (s:Nat→Nat)(n:Nat)(H:List (Nat × HB)):List (Nat × HB)→Prop
 |[]=>True
 |(t,hb)::r=>(match ab H (s t) with
  |some hc=>g_ s n hc hb∧pJ t n=true
  |_=>False)∧gN s n H r
def GL (s:Nat→Nat)(n:Nat):List fE→List fE→Prop
 |[],[]=>True
 |(f,l)::r,(f',l')::r'=>f=f'∧p8 l (cX s l')∧fM n l'=true∧GL s n r r'
 |_,_=>False
def vr (s:Nat→Nat)(t:Nat):List (Nat × HB)→Bool
 |[]=>true
 |(j,_)::r=>match Nat.beq t j with
  |true=>vr s t r
  |false=>(match Nat.beq (s t) (s j) with
   |true=>false
   |false=>vr s t r)
def tp (s:Nat→Nat):List (Nat × HB)→Bool
 |[]=>true
 |(t,_)::r=>match vr s t r with
  |true=>tp s r
  |false=>false
def yl (s:Nat→Nat):Nat→Bool
 |0=>true
 |n+1=>match Nat.beq (s n) n with
  |true=>yl s n
  |false=>false
theorem LV {s:Nat→Nat}{n:Nat}{F:List (Nat × FE)}:∀{F':List (Nat × FE)},qR s n F F'→∀t e,findF F' t=some e→e.gp=[]∧dM n e.v=true∧findF F t=some ⟨[],bX s e.v⟩
 |[],_,t,e,h=>by cases h
 |(u,⟨[],v⟩)::r,hw,t,e,h=>by
  simp only[qR] at hw
  by_cases bD:u=t
  ·subst bD
   rw[je] at h;cases h
   have h1:=hw.1
   split at h1
   ·rename_i u e1
    refine⟨rfl,h1.2,?_⟩
    rw[e1,tR _ _ h1.1]
   ·exact h1.elim
  ·rw[iB _ _ bD] at h
   exact LV hw.2 t e h
 |(_,⟨x::y,v⟩)::r,hw,t,e,h=>by simp only[qR] at hw
theorem lg {s:Nat→Nat}{n:Nat}{H:List (Nat × HB)}:∀{H':List (Nat × HB)},gN s n H H'→∀id hb,ab H' id=some hb→id<n∧∃hc,ab H (s id)=some hc∧g_ s n hc hb
 |[],_,t,e,h=>by cases h
 |(u,x)::r,hw,t,e,h=>by
  simp only[gN] at hw
  by_cases bD:u=t
  ·subst bD
   rw[ba,cP] at h;cases h
   have h1:=hw.1
   split at h1
   ·rename_i hc e1
    exact⟨lH.1 h1.2,hc,e1,h1.1⟩
   ·exact h1.elim
  ·rw[ba,aR _ _ bD] at h
   exact lg hw.2 t e h
theorem Ts {ρ:Env}{s:Nat→Nat}{n:Nat}:∀{D D':List fE} {ds:List Deferred},GL s n D D'→nD ρ ds D→nD (ke ρ s n) ds D'
 |[],[],ds,_,h=>by cases ds with|nil=>trivial|cons _ _=>exact h.elim
 |(f,l)::r,(f',l')::r',ds,hw,h=>by
  obtain⟨rfl,h1,h2,h3⟩:=hw
  cases ds with
  |nil=>exact h.elim
  |cons d ds =>
   obtain⟨⟨aM,e1,e2⟩,h5⟩:=h
   exact⟨⟨aM,by rw[mK _ h2,←qY _ _ h1];exact e1,e2⟩,Ts h3 h5⟩
 |[],_::_,_,hw,_=>hw.elim
 |_::_,[],_,hw,_=>hw.elim
theorem Dq {s:Nat→Nat}{t:Nat}:∀{H:List (Nat × HB)},vr s t H=true→∀j hb,ab H j=some hb→s t=s j→t=j
 |[],_,j,hb,h,_=>by cases h
 |(k,x)::r,ha,j,hb,h,e=>by
  simp only[vr] at ha
  by_cases hk:k=j
  ·subst hk
   split at ha
   ·rename_i h1;simpa using h1
   ·split at ha
    ·cases ha
    ·rename_i h2;simp[e] at h2
  ·rw[ba,aR _ _ hk] at h
   split at ha
   ·exact Dq ha j hb h e
   ·split at ha
    ·cases ha
    ·exact Dq ha j hb h e
theorem J6 {s:Nat→Nat}:∀{H:List (Nat × HB)},tp s H=true→∀i j hb hb',ab H i=some hb→ab H j=some hb'→s i=s j→i=j
 |[],_,i,j,hb,hb',h,_,_=>by cases h
 |(k,x)::r,hi,i,j,hb,hb',h1,h2,e=>by
  simp only[tp] at hi
  split at hi
  ·rename_i ha
   by_cases hk:k=i<;>by_cases bA:k=j
   ·exact hk.symm.trans bA
   ·subst hk
    rw[ba,aR _ _ bA] at h2
    exact Dq ha j _ h2 e
   ·subst bA
    rw[ba,aR _ _ hk] at h1
    exact(Dq ha i _ h1 e.symm).symm
   ·rw[ba,aR _ _ hk] at h1
    rw[ba,aR _ _ bA] at h2
    exact J6 hi i j _ _ h1 h2 e
  ·cases hi
theorem Oo {s:Nat→Nat}:∀{n:Nat},yl s n=true→∀j,j<n→s j=j
 |0,_,j,h=>by omega
 |n+1,hf,j,h=>by
  simp only[yl] at hf
  split at hf
  ·rename_i h1
   by_cases e:j=n
   ·subst e;simpa using h1
   ·exact Oo hf j (by omega)
  ·cases hf
structure tU (n0:Nat) (s:Nat→Nat) (st af:St):Prop where
 F:qR s af.nx st.F af.F
 H:gN s af.nx st.H af.H
 inj:tp s af.H=true
 fix:yl s n0=true
 ge:Nat.ble n0 af.nx=true
 gs:af.gs=[]
 D:GL s af.nx st.D af.D
theorem aaQ {s:Nat→Nat}{n:Nat}{h:HB}{z:Nat}{C:Value→Nat→(Nat→List SV)→Prop}(hl:g_ s n h (.ax z C)):∃C',h=.ax z C'∧∀v m g,C v m g→C' v m g:=by
 cases h<;>simp only[g_] at hl
 obtain⟨rfl,h⟩:=hl
 exact⟨_,rfl,h⟩
theorem C5 {s:Nat→Nat}{n:Nat}{H H':List (Nat × HB)}(h:gN s n H H'){b:Nat}(hz:Fz (ab H') b):Fz (ab H) b :=
 hz.mono λid size C hf=>by
  obtain⟨a1,c1,a2,a3⟩:=lg h id _ hf
  obtain⟨C',rfl,hc⟩:=aaQ a3
  exact⟨_,C',a2,hc⟩
theorem Mod.oz {X:Cx}{ρ:Env}{n0:Nat}{s:Nat→Nat}{st af:St}{a:Act}{w:World}(hm:Mod X ρ st a w)(h:tU n0 s st af)(hn:∀j,n0≤j→X.G.ρ j=none):Mod X (ke ρ s af.nx) af a w where
 fm t e hf:=by
  obtain⟨h1,h2,h3⟩:=LV h.F t e hf
  rw[ui _ h2,h1]
  exact hm.fm t _ h3
 gs t e hf x hx:=by
  obtain⟨h1,_⟩:=LV h.F t e hf
  rw[h1] at hx;cases hx
 df:=Ts h.D hm.df
 hm:={
  ok:=λid hb hf=>by
   obtain⟨h1,hc,h2,h3⟩:=lg h.H id hb hf
   obtain⟨nm,h4,h5⟩:=hm.hm.ok _ _ h2
   exact⟨nm,by rw[nZ h1];exact h4,Kw h3 h5⟩
  sep:=λi j x y c_ dE b h1 h2 l1 l2 r1 r2 o1 o2=>by
   obtain⟨a1,c1,a2,a3⟩:=lg h.H i x h1
   obtain⟨b1,c2,b2,b3⟩:=lg h.H j y h2
   have:=hm.hm.sep _ _ c1 c2 c_ dE b a2 b2 (nh a3 l1) (nh b3 l2) (vL r1).2 (vL r2).2 o1 o2
   exact J6 h.inj i j x y h1 h2 this
  ro:=λj size m get nm b hf an hr hb ho=>by
   obtain⟨a1,c1,a2,a3⟩:=lg h.H j _ hf
   obtain⟨g',rfl⟩:=Fw a3
   refine hm.hm.ro _ size m g' nm b a2 an (vL hr).2 hb ?_
   obtain⟨id,x,ak,h1,h2,h3,h4⟩:=ho
   obtain⟨b1,c2,b2,b3⟩:=lg h.H id x h1
   exact⟨_,c2,ak,b2,nh b3 h2,(vL h3).2,h4⟩
  ax:=λb hz ho=>by
   refine hm.hm.ax b (C5 h.H hz) ?_
   obtain⟨id,x,ak,h1,h2,h3,h4⟩:=ho
   obtain⟨b1,c2,b2,b3⟩:=lg h.H id x h1
   exact⟨_,c2,ak,b2,nh b3 h2,(vL h3).2,h4⟩ }
 kp:={
  str:=hm.kp.str
  size:=hm.kp.size
  same:=hm.kp.same
  own:=λb ho=>by
   obtain⟨id,x,ak,h1,h2,h3,h4⟩:=ho
   obtain⟨b1,c2,b2,b3⟩:=lg h.H id x h1
   exact hm.kp.own b ⟨_,c2,ak,b2,nh b3 h2,(vL h3).2,h4⟩
  ext:=λj nm hj=>by
   have aG:j<n0:=by
    rcases Nat.lt_or_ge j n0 with h|h
    ·exact h
    ·rw[hn j h] at hj;cases hj
   have:=Nat.le_of_ble_eq_true h.ge
   rw[nZ (by omega),Oo h.fix j aG];exact hm.kp.ext j nm hj
  fz:=λb hz=>hm.kp.fz b (C5 h.H hz) }
 nx:=λj hj=>by unfold ke;rw[if_neg (by omega)]
 sz:=hm.sz
def Me {α:Type}(n0:Nat)(I:α→St)(μ:α→Nat)(x:α)(K:Ex→St→Prop):Ex→St→Prop
 |.normal,st=>∃x' s,tU n0 s st (I x')∧μ x'<μ x
 |e,st=>K e st
theorem cm {X:Cx}(hX:X.Ok){body:Code}{st:St}{K:Ex→St→Prop}{α:Type}(n0:Nat)(I:α→St)(μ:α→Nat)(hn:∀j,n0≤j→X.G.ρ j=none)(x0:α)(s0:Nat→Nat)
  (h0:tU n0 s0 st (I x0)) (hr:∀x,exec X body (I x) (Me n0 I μ x K)):aX X (.loop body) st K:=by
 intro ρ a w hm
 refine LX (λj a w=>∃x ρ,μ x=j∧Mod X ρ (I x) a w) ⟨x0,_,rfl,hm.oz h0 hn⟩ ?_
 rintro j a' w' ⟨x,ρ',rfl,an⟩
 refine wpIn_mono (cW hX body _ _ (hr x) ρ' a' w' an) ?_
 rintro e xI jl ⟨y,qO,ic,rfl,fv,hk⟩
 cases y with
 |normal =>
  obtain⟨x',s,h1,h2⟩:=hk
  exact⟨_,h2,x',_,rfl,fv.oz h1 hn⟩
 |ret=>exact⟨.ret,qO,ic,rfl,fv,hk⟩
 |exit n=>exact⟨.exit n,qO,ic,rfl,fv,hk⟩
 |panic ch=>exact⟨.panic ch,qO,ic,rfl,fv,hk⟩
theorem weaken {X:Cx}(hX:X.Ok){c:Code}{st af:St}{K:Ex→St→Prop}(n0:Nat)(s:Nat→Nat)(hn:∀j,n0≤j→X.G.ρ j=none)(h:tU n0 s st af)(hk:exec X c af K):aX X c st K :=
 fun ρ a w hm=>cW hX c _ _ hk _ a w (hm.oz h hn)
variable {P:Program}{T:cf}
def DP (T:cf)(g:TypeId→SV→Bool):List Field→List SV→Bool
 |[],_=>true
 |f::fs,xs=>match T f.type with
  |some tf=>(match hU (ig tf.desc) tf.size f.offset xs with
   |some a=>(match g f.type a with
    |true=>DP T g fs xs
    |false=>false)
   |none=>false)
  |none=>false
def vD (T:cf):Nat→TypeId→SV→Bool
 |0,_,_=>false
 |d+1,t,x=>match T t with
  |some ti=>(match ti.desc,x with
   |.int _,.si _ _=>true
   |.bool,.sb _=>true
   |.struct fs,.agg xs=>DP T (vD T d) fs.toList xs
   |_,_=>false)
  |none=>false
theorem OA {w:World}{α:Type}(f:α→Sem PUnit):∀(l:List α),(∀x∈l,(f x).run P w=.ok ⟨⟩ w)→(forIn l PUnit.unit λx _=>(do f x;pure (ForInStep.yield PUnit.unit):Sem (ForInStep PUnit))).run P w=.ok ⟨⟩ w
 |[],_=>by simp
 |x::r,h=>by
  have ih:=OA f r λy hy=>h y (List.mem_cons_of_mem _ hy)
  have hx:=h x List.mem_cons_self
  simp only[List.forIn_cons,bind_assoc,Sem.run_bind,hx,Result.andThen,pure_bind] at ih ⊢
  exact ih
theorem Nk (hT:dy P T)(b:Bool)(d e:Nat)(ih:∀(t:Nat)(x:SV)(u:Value),vD T d t x=true→(∃ρ,den ρ x=some u)→∀w:World,(Instr.checkKey b e t u).run P w=.ok () w){ρ:Env}{xs:List SV}{vs:List Value}
  (h1:ai ρ xs=some vs) (h2:vs.all (·.oneCell')=true) (w:World):∀(fs:List Field),DP T (vD T d) fs xs=true→∀f∈fs,(do Instr.checkKey b e f.type (←part f.type vs.toArray f.offset):Sem Unit).run P w=.ok () w
 |[],_,f,hf=>by cases hf
 |g::fs,h,f,hf=>by
  simp only[DP] at h
  split at h
  ·rename_i tf e1
   split at h
   ·rename_i a e2
    split at h
    ·rename_i e3
     rcases List.mem_cons.1 hf with rfl|hf
     ·obtain⟨u,k1,k2⟩:=K8 hT e1 e2 h1 h2 w
      simp only[Sem.run_bind,k1,Result.andThen]
      exact ih _ _ _ e3 ⟨ρ,k2⟩ w
     ·exact Nk hT b d e ih h1 h2 w fs h f hf
    ·cases h
   ·cases h
  ·cases h
theorem Nj (hT:dy P T)(b:Bool):∀(d e:Nat),d≤e→∀(t:Nat) (x:SV) (u:Value),vD T d t x=true→(∃ρ,den ρ x=some u)→∀w:World,(Instr.checkKey b e t u).run P w=.ok () w
 |0,_,_,t,x,u,h,_,w=>by simp[vD] at h
 |d+1,0,he,_,_,_,_,_,_=>by omega
 |d+1,e+1,he,t,x,u,h,hu,w=>by
  obtain⟨ρ,hu⟩:=hu
  simp only[vD] at h
  split at h
  ·rename_i ti e1
   split at h
   ·rename_i k k' n e2
    simp only[den] at hu;cases hu
    simp[Instr.checkKey,Sem.run_bind,dX hT e1,e2,Result.andThen]
   ·rename_i p e2
    simp only[den] at hu;cases hu
    simp[Instr.checkKey,Sem.run_bind,dX hT e1,e2,Result.andThen]
   ·rename_i fs xs e2
    simp only[den] at hu
    split at hu
    ·rename_i vs h1
     split at hu
     ·rename_i h2
      cases hu
      have hc:=Nk hT b d e (λt x u a b' w=>Nj hT b d e (by omega) t x u a b' w) h1 h2 w fs.toList h
      simp only[Instr.checkKey,Sem.run_bind,dX hT e1,e2,Result.andThen]
      rw[←Array.forIn_toList]
      have := OA (P := P) (w := w) (fun f : Field => (if f.name ≠ "_" then (do Instr.checkKey b e f.type (← part f.type vs.toArray f.offset)) else pure () : Sem Unit)) fs.toList (fun f hf => by
       split
       ·exact hc f hf
       ·rfl)
      have key : ∀ g : Field → PUnit → Sem (ForInStep PUnit), (∀ f r, g f r = (do (if f.name ≠ "_" then (do Instr.checkKey b e f.type (← part f.type vs.toArray f.offset)) else pure ()); pure (ForInStep.yield PUnit.unit))) → (forIn fs.toList PUnit.unit g).run P w = .ok ⟨⟩ w :=
       λg hg=>by rw[show g=_ from funext λf=>funext λr=>hg f r];exact this
      rw[key _ (λf r=>by split<;>simp)]
      rfl
     ·cases hu
    ·cases hu
   ·cases h
  ·cases h
def cv (s:SV):Value:=(den (λ_=>none) s).getD undef
theorem qg {s:SV}(h:∃v,den (λ_=>none) s=some v)(ρ:Env):den ρ s=some (cv s):=by
 obtain⟨v,h⟩:=h
 rw[cv,h]
 exact uj (λ_ _ k=>by cases k) s v h
theorem Ak {s:SV}(h:∃v,den (λ_=>none) s=some v):den (λ_=>none) s=some (cv s):=qg h _
structure gB {κ:Type} [DecidableEq κ] (T:cf) (kt:TypeId) (eK:κ→SV):Prop where
 ty:∃ti,T kt=some ti
 vC:∀a,vD T 9 kt (eK a)=true
 eq:∀a b,l5 T 9 kt (eK a) (eK b)=some (decide (a=b))
 cl:∀a,∃v,den (λ_=>none) (eK a)=some v
 same:∀a,Instr.sameBits 10000 (cv (eK a)) (cv (eK a))=true
def kJ {ν:Type}(eV:ν→SV):Prop:=∀a,∃v,den (λ_=>none) (eV a)=some v
section
variable {κ ν:Type} [DecidableEq κ]
def dT (eK:κ→SV)(eV:ν→SV)(l:List (κ × ν)):List (SV × SV):=l.map λp=>(eK p.1,eV p.2)
def kd (eK:κ→SV)(eV:ν→SV)(l:List ((κ × ν) × Nat)):List (SV × SV × Nat):=l.map λp=>(eK p.1.1,eV p.1.2,p.2)
def dC (eK:κ→SV)(eV:ν→SV)(l:List ((κ × ν) × Nat)):List MapEntry:=l.map λp=>⟨cv (eK p.1.1),cv (eV p.1.2),p.2⟩
def bN:List (κ × ν)→κ→ν→List (κ × ν)
 |[],k,v=>[(k,v)]
 |p::r,k,v=>if p.1=k then(k,v)::r else p::bN r k v
def br:List (κ × ν)→κ→Option ν
 |[],_=>none
 |p::r,k=>if p.1=k then some p.2 else br r k
def j7:List (κ × ν)→κ→List (κ × ν)
 |[],_=>[]
 |p::r,k=>if p.1=k then r else p::j7 r k
def jY:List ((κ × ν) × Nat)→κ→ν→Nat→List ((κ × ν) × Nat)
 |[],k,v,b=>[((k,v),b)]
 |p::r,k,v,b=>if p.1.1=k then((k,v),p.2)::r else p::jY r k v b
def oV:List ((κ × ν) × Nat)→κ→List ((κ × ν) × Nat)
 |[],_=>[]
 |p::r,k=>if p.1.1=k then r else p::oV r k
def lm (key:κ):List ((κ × ν) × Nat)→Nat→Option (Nat × ν)
 |[],_=>none
 |p::r,i=>if p.1.1=key then some (i,p.1.2) else lm key r (i+1)
theorem S_ (l:List ((κ × ν) × Nat))(k:κ)(v:ν)(b:Nat):(jY l k v b).map (·.1)=bN (l.map (·.1)) k v:=by
 induction l with
 |nil=>rfl
 |cons p r ih=>simp only[jY,bN,List.map_cons];split<;>simp[ih]
theorem VS (l:List ((κ × ν) × Nat))(k:κ):(oV l k).map (·.1)=j7 (l.map (·.1)) k:=by
 induction l with
 |nil=>rfl
 |cons p r ih=>simp only[oV,j7,List.map_cons];split<;>simp[ih]
theorem Q6 (l:List ((κ × ν) × Nat))(k:κ)(i:Nat):(lm k l i).map (·.2)=br (l.map (·.1)) k:=by
 induction l generalizing i with
 |nil=>rfl
 |cons p r ih=>simp only[lm,br,List.map_cons];split<;>simp[ih]
theorem Ci {l:List (κ × ν)}{k:κ}:br l k=none↔k ∉ l.map (·.1):=by
 induction l with
 |nil=>simp[br]
 |cons p r ih =>
  simp only[br,List.map_cons,List.mem_cons,not_or]
  split
  ·rename_i h;simp[h]
  ·rename_i h;rw[ih];constructor
   ·intro h2;exact⟨λe=>h e.symm,h2⟩
   ·exact λh2=>h2.2
theorem wW {l:List (κ × ν)}{k:κ}{v:ν}(h:br l k=some v):(k,v)∈l:=by
 induction l with
 |nil=>simp[br] at h
 |cons p r ih =>
  simp only[br] at h
  split at h
  ·rename_i e;cases h;subst e;simp
  ·exact List.mem_cons_of_mem _ (ih h)
theorem Kx {l:List (κ × ν)}{k:κ}{v:ν}(hn:(l.map (·.1)).Nodup)(h:(k,v)∈l):br l k=some v:=by
 induction l with
 |nil=>cases h
 |cons p r ih =>
  simp only[List.map_cons,List.nodup_cons] at hn
  simp only[br]
  rcases List.mem_cons.1 h with rfl|h
  ·simp
  ·rw[if_neg,ih hn.2 h]
   rintro rfl
   exact hn.1 (List.mem_map.2 ⟨_,h,rfl⟩)
theorem aaW {l l':List (κ × ν)}(hp:l.Perm l')(hn:(l.map (·.1)).Nodup)(k:κ):br l k=br l' k:=by
 cases h:br l k with
 |none =>
  rw[Ci] at h
  exact(Ci.2 λhm=>h (((hp.map (·.1)).mem_iff).2 hm)).symm
 |some v=>exact(Kx ((hp.map (·.1)).nodup_iff.1 hn) (hp.mem_iff.1 (wW h))).symm
theorem zv {l:List (κ × ν)}{k:κ}{v:ν}(h:k ∉ l.map (·.1)):bN l k v=l++[(k,v)]:=by
 induction l with
 |nil=>rfl
 |cons p r ih =>
  simp only[List.map_cons,List.mem_cons,not_or] at h
  simp only[bN]
  rw[if_neg (λe=>h.1 e.symm),ih h.2]
  rfl
theorem LN {l:List (κ × ν)}{k:κ}{v v0:ν}(hn:(l.map (·.1)).Nodup)(h:(k,v0)∈l):∃a b,l=a++(k,v0)::b∧bN l k v=a++(k,v)::b:=by
 induction l with
 |nil=>cases h
 |cons p r ih =>
  simp only[List.map_cons,List.nodup_cons] at hn
  simp only[bN]
  rcases List.mem_cons.1 h with rfl|h
  ·exact⟨[],r,rfl,by simp⟩
  ·obtain⟨a,b,h1,h2⟩:=ih hn.2 h
   have aV:p.1≠k:=by
    intro e;subst e
    exact hn.1 (List.mem_map.2 ⟨_,h,rfl⟩)
   exact⟨p::a,b,by rw[h1];rfl,by rw[if_neg aV,h2];rfl⟩
theorem ad0 {l l':List (κ × ν)}(hp:l.Perm l')(hn:(l.map (·.1)).Nodup)(k:κ)(v:ν):(bN l k v).Perm (bN l' k v):=by
 have eN:=(hp.map (·.1)).nodup_iff.1 hn
 by_cases h:k∈l.map (·.1)
 ·obtain⟨⟨k',v0⟩,h1,rfl⟩:=List.mem_map.1 h
  obtain⟨a,b,e1,e2⟩:=LN (v:=v) hn h1
  obtain⟨a',b',vH,At⟩:=LN (v:=v) eN (hp.mem_iff.1 h1)
  rw[e2,At]
  rw[e1,vH] at hp
  have gV:(a++b).Perm (a'++b'):=by
   have h3:=(List.perm_middle.symm.trans hp).trans List.perm_middle
   exact List.Perm.cons_inv h3
  exact(List.perm_middle.trans (gV.cons _)).trans List.perm_middle.symm
 ·rw[zv h,zv (λhm=>h (((hp.map (·.1)).mem_iff).2 hm))]
  exact hp.append_right _
theorem ND {l:List (κ × ν)}{k:κ}(h:k ∉ l.map (·.1)):j7 l k=l:=by
 induction l with
 |nil=>rfl
 |cons p r ih =>
  simp only[List.map_cons,List.mem_cons,not_or] at h
  simp only[j7]
  rw[if_neg (λe=>h.1 e.symm),ih h.2]
theorem NE {l:List (κ × ν)}{k:κ}{v0:ν}(hn:(l.map (·.1)).Nodup)(h:(k,v0)∈l):∃a b,l=a++(k,v0)::b∧j7 l k=a++b:=by
 induction l with
 |nil=>cases h
 |cons p r ih =>
  simp only[List.map_cons,List.nodup_cons] at hn
  simp only[j7]
  rcases List.mem_cons.1 h with rfl|h
  ·exact⟨[],r,rfl,by simp⟩
  ·obtain⟨a,b,h1,h2⟩:=ih hn.2 h
   have aV:p.1≠k:=by
    intro e;subst e
    exact hn.1 (List.mem_map.2 ⟨_,h,rfl⟩)
   exact⟨p::a,b,by rw[h1];rfl,by rw[if_neg aV,h2];rfl⟩
theorem VT {l l':List (κ × ν)}(hp:l.Perm l')(hn:(l.map (·.1)).Nodup)(k:κ):(j7 l k).Perm (j7 l' k):=by
 have eN:=(hp.map (·.1)).nodup_iff.1 hn
 by_cases h:k∈l.map (·.1)
 ·obtain⟨⟨k',v0⟩,h1,rfl⟩:=List.mem_map.1 h
  obtain⟨a,b,e1,e2⟩:=NE hn h1
  obtain⟨a',b',vH,At⟩:=NE eN (hp.mem_iff.1 h1)
  rw[e2,At]
  rw[e1,vH] at hp
  exact List.Perm.cons_inv ((List.perm_middle.symm.trans hp).trans List.perm_middle)
 ·rw[ND h,ND (λhm=>h (((hp.map (·.1)).mem_iff).2 hm))]
  exact hp
theorem abS {α β:Type}{f:α→β}{m:List β}{l:List α}(h:m.Perm (l.map f)):∃l':List α,l'.Perm l∧m=l'.map f:=by
 generalize e:l.map f=k at h
 induction h generalizing l with
 |nil=>simp at e;subst e;exact⟨[],.refl _,rfl⟩
 |cons x _ ih =>
  cases l with
  |nil=>simp at e
  |cons a r =>
   simp only[List.map_cons,List.cons.injEq] at e
   obtain⟨l',h1,h2⟩:=ih e.2
   exact⟨a::l',h1.cons _,by simp[e.1,h2]⟩
 |swap x y r =>
  match l,e with
  |a::b::l,e =>
   simp only[List.map_cons,List.cons.injEq] at e
   exact⟨b::a::l,List.Perm.swap _ _ _,by simp[e.1,e.2.1,e.2.2]⟩
 |trans _ _ Fa BZ =>
  obtain⟨l1,h1,h2⟩:=BZ e
  obtain⟨l2,h3,h4⟩:=Fa h2.symm
  exact⟨l2,h3.trans h1,h4⟩
end
section
variable {P:Program}{T:cf}{κ ν:Type} [DecidableEq κ]{eK:κ→SV}{eV:ν→SV}
theorem HZ (hT:dy P T){kt:TypeId}(K:gB T kt eK)(a b:κ)(e:Nat)(he:9≤e)(w:World):(Op.equalIn e kt (cv (eK a)) (cv (eK b))).run P w=.ok (decide (a=b)) w :=
 HY (ρ:=λ_=>none) hT 9 e he kt _ _ _ _ _ (K.eq a b) (Ak (K.cl a)) (Ak (K.cl b)) w
theorem key_inj (hT:dy P T){kt:TypeId}(K:gB T kt eK){a b:κ}(h:cv (eK a)=cv (eK b)):a=b:=by
 have h1:=HZ hT K a b 9 (Nat.le_refl _) default
 have h2:=HZ hT K a a 9 (Nat.le_refl _) default
 rw[←h,h2] at h1
 simpa using h1
theorem NR (hK:∀a,∃v,den (λ_=>none) (eK a)=some v)(hV:kJ eV):∀l:List ((κ × ν) × Nat),D1 (kd eK eV l)=some (dC eK eV l)
 |[]=>rfl
 |p::r=>by
  have ih:=NR hK hV r
  simp only[kd,dC,List.map_cons,D1] at ih ⊢
  rw[Ak (hK _),Ak (hV _),ih]
theorem Ob (hT:dy P T){kt:TypeId}(K:gB T kt eK)(key:κ)(w:World):∀(l:List ((κ × ν) × Nat)) (i:Nat),
  (Instr.findAsking kt (cv (eK key)) (dC eK eV l) i).run P w=.ok ((lm key l i).map λx=>(x.1,cv (eV x.2))) w
 |[],i=>rfl
 |p::r,i=>by
  have ih:=Ob hT K key w r (i+1)
  simp only[dC,List.map_cons,Instr.findAsking,lm] at ih ⊢
  have h:=HZ hT K key p.1.1 Op.maxDepth (by decide) w
  simp only[Sem.run_bind,Op.equal,h,Result.andThen]
  by_cases e:key=p.1.1
  ·simp[e]
  ·simp only[e,decide_false,Bool.false_eq_true,if_false]
   rw[if_neg (λh=>e h.symm)]
   exact ih
theorem Of (hT:dy P T){kt:TypeId}{ti:TI}(ht:T kt=some ti)(K:gB T kt eK)(key:κ):∀(l:List ((κ × ν) × Nat)) (i:Nat) (r:Option (Nat × Value)),
  Instr.findNow ti.desc (cv (eK key)) (dC eK eV l) i=some r→r=(lm key l i).map λx=>(x.1,cv (eV x.2))
 |[],i,r,h=>by simp only[dC,List.map_nil,Instr.findNow] at h;cases h;rfl
 |p::q,i,r,h=>by
  simp only[dC,List.map_cons,Instr.findNow] at h
  have hs:∀b,Instr.sameNow ti.desc (cv (eK key)) (cv (eK p.1.1))=some b→b=decide (key=p.1.1):=by
   intro b hb
   have he:=K.eq key p.1.1
   simp only[l5,ht] at he
   split at he
   ·rename_i k k1 a k2 c e1 e2 e3
    split at he
    ·simp only[cv,e2,e3,den,Option.getD_some,e1,Instr.sameNow] at hb
     split at hb
     ·cases hb
      cases rp:decide (a=c)<;>simp_all
     ·cases hb
    ·cases he
   ·rename_i a c e1 e2 e3
    simp only[cv,e2,e3,den,Option.getD_some,e1,Instr.sameNow] at hb
    cases hb
    simp only[Option.some.injEq] at he
    exact he
   ·rename_i e1 _ _
    rw[e1] at hb
    simp[Instr.sameNow] at hb
   ·cases he
  cases hc:Instr.sameNow ti.desc (cv (eK key)) (cv (eK p.1.1)) with
  |none=>rw[hc] at h;cases h
  |some b =>
   rw[hc] at h
   have:=hs b hc
   subst this
   by_cases e:key=p.1.1
   ·simp only[e,decide_true] at h
    cases h
    simp[lm,e]
   ·simp only[e,decide_false] at h
    simp only[lm]
    rw[if_neg (λh=>e h.symm)]
    exact Of hT ht K key q (i+1) r h
theorem AR (hT:dy P T){kt:TypeId}(K:gB T kt eK)(key:κ)(l:List ((κ × ν) × Nat))(w:World) :
  (Instr.findKey kt (cv (eK key)) (dC eK eV l)).run P w=.ok ((lm key l 0).map λx=>(x.1,cv (eV x.2))) w:=by
 obtain⟨ti,ht⟩:=K.ty
 simp only[Instr.findKey,Sem.run_bind,dX hT ht,Result.andThen]
 split
 ·rename_i r hr
  rw[Of hT ht K key l 0 r hr];rfl
 ·exact Ob hT K key w l 0
theorem Ic {key:κ}:∀{l:List ((κ × ν) × Nat)} {i j:Nat} {v:ν},lm key l i=some (j,v)→i≤j∧∃b,l[j-i]?=some ((key,v),b) ∧
   (∀(v':ν) (eK:κ→SV) (eV:ν→SV),(dC eK eV l).modify (j-i) (λe=>{ e with key:=cv (eK key),val:=cv (eV v') })=dC eK eV (jY l key v' 0)) ∧
   ∀(eK:κ→SV) (eV:ν→SV),(dC eK eV l).eraseIdx (j-i)=dC eK eV (oV l key)
 |[],i,j,v,h=>by simp[lm] at h
 |p::r,i,j,v,h=>by
  simp only[lm] at h
  split at h
  ·rename_i e
   cases h
   obtain⟨⟨k0,v0⟩,b0⟩:=p
   simp only at e;subst e
   refine⟨Nat.le_refl _,b0,by simp,λv' eK eV=>?_,λeK eV=>?_⟩
   ·simp[dC,jY]
   ·simp[dC,oV]
  ·rename_i e
   obtain⟨h1,b,h2,h3,h4⟩:=Ic h
   obtain⟨m,rfl⟩:∃m,j=i+(m+1):=⟨j-i-1,by omega⟩
   have e1:i+(m+1)-i=m+1:=by omega
   have e2:i+(m+1)-(i+1)=m:=by omega
   rw[e2] at h2 h3 h4
   rw[e1]
   refine⟨by omega,b,by simpa using h2,λv' eK eV=>?_,λeK eV=>?_⟩
   ·have:=h3 v' eK eV
    simp only[dC,jY,List.map_cons,List.modify_succ_cons] at this ⊢
    rw[if_neg e]
    simp[this]
   ·have:=h4 eK eV
    simp only[dC,oV,List.map_cons,List.eraseIdx_cons_succ] at this ⊢
    rw[if_neg e]
    simp[this]
theorem N4 {key:κ}{l:List ((κ × ν) × Nat)}{i:Nat}(h:lm key l i=none):key ∉ (l.map (·.1)).map (·.1):=by
 rw[←Ci,←Q6 l key i,h];rfl
theorem ad3 {key:κ}{l:List ((κ × ν) × Nat)}(h:key ∉ (l.map (·.1)).map (·.1))(v:ν)(b:Nat):jY l key v b=l++[((key,v),b)]:=by
 induction l with
 |nil=>rfl
 |cons p r ih =>
  simp only[List.map_cons,List.mem_cons,not_or] at h
  simp only[jY]
  rw[if_neg (λe=>h.1 e.symm),ih h.2];rfl
end
def pQ (w:World)(r:Nat)(o:Obj):World:={ w with heap:=w.heap.setIfInBounds r o }
def FR:Obj→Bool
 |.cells _ _ _=>false
 |_=>true
theorem qL {P:Program}{w:World}{r:Nat}{o:Obj}(h:w.heap[r]?=some o)(hc:FR o=true):(getObj r).run P w=.ok o w:=by
 cases o<;>first|(simp[FR] at hc;done)|simp[getObj,Sem.run,h]
theorem CL {P:Program}{w:World}{r:Nat}{o:Obj}(o':Obj)(h:w.heap[r]?=some o)(hc:FR o=true):(setObj r o').run P w=.ok () (pQ w r o'):=by
 cases o<;>first|(simp[FR] at hc;done)|simp[setObj,Sem.run,h,pQ]
theorem Gp (w:World)(r:Nat)(o:Obj):(pQ w r o).heap.size=w.heap.size:=by simp[pQ]
theorem Gm (w:World)(r:Nat)(o:Obj){k:Nat}(h:k≠r):(pQ w r o).heap[k]?=w.heap[k]?:=by
 simp only[pQ,Array.getElem?_setIfInBounds]
 rw[if_neg (Ne.symm h)]
theorem Gn {w:World}{r:Nat}{o:Obj}(o':Obj)(h:w.heap[r]?=some o):(pQ w r o').heap[r]?=some o':=by
 have aG:r<w.heap.size:=by
  rcases Nat.lt_or_ge r w.heap.size with h1|h1
  ·exact h1
  ·rw[Array.getElem?_eq_none h1] at h;cases h
 simp only[pQ,Array.getElem?_setIfInBounds,if_true,aG]
section
variable {P:Program}{T:cf}{κ ν:Type} [DecidableEq κ]{eK:κ→SV}{eV:ν→SV}
structure sc (w:World) (nm:Nat) (eK:κ→SV) (eV:ν→SV) (l:List ((κ × ν) × Nat)) (clock:Nat):Prop where
 at_:w.heap[nm]?=some (.map (dC eK eV l).toArray clock)
 nd:(l.map (·.2)).Nodup
 lt:∀p∈l,p.2<clock
 keys:(l.map (·.1.1)).Nodup
theorem Cl (hT:dy P T){kt:TypeId}(K:gB T kt eK)(hV:kJ eV){w:World}{nm:Nat}{l:List ((κ × ν) × Nat)}{clock:Nat} :
  Ck w nm (kd eK eV l) clock↔sc w nm eK eV l clock:=by
 have he:=NR K.cl hV l
 constructor
 ·rintro⟨ms,h1,h2,h3,h4,h5⟩
  rw[he] at h1;cases h1
  refine⟨h2,by simpa [dC,Function.comp_def] using h3,λp hp=>?_,?_⟩
  ·exact h4 _ (List.mem_map.2 ⟨p,hp,rfl⟩)
  ·have:((l.map (·.1.1)).map λk=>cv (eK k)).Nodup:=by simpa [dC,Function.comp_def] using h5
   unfold List.Nodup at this ⊢
   rw[List.pairwise_map] at this
   exact this.imp λaV h=>aV (by rw[h])
 ·rintro⟨h1,h2,h3,h4⟩
  refine⟨_,he,h1,by simpa [dC,Function.comp_def] using h2,λm hm=>?_,?_⟩
  ·obtain⟨p,hp,rfl⟩:=List.mem_map.1 hm
   exact h3 p hp
  ·have e:(dC eK eV l).map (·.key)=(l.map (·.1.1)).map λk=>cv (eK k):=by simp[dC,Function.comp_def]
   rw[e]
   unfold List.Nodup at h4 ⊢
   rw[List.pairwise_map]
   exact h4.imp λaV h=>aV (key_inj hT K h)
theorem ad1 {l:List ((κ × ν) × Nat)}{k:κ}{v:ν}{b:Nat}:∀x,x∈(jY l k v b).map (·.1.1)↔x∈l.map (·.1.1)∨x=k:=by
 induction l with
 |nil=>intro x;simp[jY]
 |cons p r ih =>
  intro x
  simp only[jY]
  split
  ·rename_i e;subst e;simp only[List.map_cons,List.mem_cons]
   constructor
   ·rintro(h|h)
    ·exact .inr h
    ·exact .inl (.inr h)
   ·rintro((h|h)|h)
    ·exact .inl h
    ·exact .inr h
    ·exact .inl h
  ·simp only[List.map_cons,List.mem_cons,ih x,or_assoc]
theorem ad2 {l:List ((κ × ν) × Nat)}{k:κ}{v:ν}{b:Nat}(h:(l.map (·.1.1)).Nodup):((jY l k v b).map (·.1.1)).Nodup:=by
 induction l with
 |nil=>simp[jY]
 |cons p r ih =>
  simp only[List.map_cons,List.nodup_cons] at h
  simp only[jY]
  split
  ·rename_i e;subst e;simpa using h
  ·rename_i e
   simp only[List.map_cons,List.nodup_cons]
   refine⟨λhm=>?_,ih h.2⟩
   rcases(ad1 _).1 hm with hm|hm
   ·exact h.1 hm
   ·exact e hm
theorem Ta {l:List ((κ × ν) × Nat)}{k:κ}{v:ν}{b:Nat}(h:k∈l.map (·.1.1)):(jY l k v b).map (·.2)=l.map (·.2):=by
 induction l with
 |nil=>simp at h
 |cons p r ih =>
  simp only[jY]
  split
  ·rfl
  ·rename_i e
   simp only[List.map_cons,List.mem_cons] at h
   simp[ih (h.resolve_left λx=>e x.symm)]
theorem HK {l:List ((κ × ν) × Nat)}{k:κ}:(oV l k).Sublist l:=by
 induction l with
 |nil=>exact .slnil
 |cons p r ih =>
  simp only[oV]
  split
  ·exact List.sublist_cons_self _ _
  ·exact ih.cons_cons _
theorem ads {kt:TypeId}(K:gB T kt eK)(k:κ)(w:World):(Instr.keyThatStays (cv (eK k)) (cv (eK k))).run P w=.ok (cv (eK k)) w:=by
 simp[Instr.keyThatStays,K.same k]
theorem Ai (hT:dy P T){kt:TypeId}(K:gB T kt eK)(k:κ)(b:Bool)(w:World):(Instr.checkKey b 10000 kt (cv (eK k))).run P w=.ok () w :=
 Nj hT b 9 10000 (by decide) kt _ _ (K.vC k) ⟨λ_=>none,Ak (K.cl k)⟩ w
theorem Cm (l:List ((κ × ν) × Nat)):(l.map (·.1)).map (·.1)=l.map (·.1.1):=by simp[Function.comp_def]
theorem aa5 (hT:dy P T){mt kt vt:TypeId}{ti:TI}(ht:T mt=some ti)(hd:ti.desc=.map kt vt)(K:gB T kt eK){w:World}{nm:Nat}{l:List ((κ × ν) × Nat)}{clock:Nat}
  (h:sc w nm eK eV l clock) (k:κ) (v:ν):∃w' l' HE,(Instr.mapUpdate mt (.map (some nm)) (cv (eK k)) (cv (eV v))).run P w=.ok () w'∧sc w' nm eK eV l' HE∧l'.map (·.1)=bN (l.map (·.1)) k v ∧
   w'.heap.size=w.heap.size∧(∀b,b≠nm→w'.heap[b]?=w.heap[b]?)∧dF w w':=by
 cases hf:lm k l 0 with
 |none =>
  have hk:=N4 hf
  have bW:=hk
  rw[Cm] at bW
  refine⟨pQ w nm (.map (dC eK eV (l++[((k,v),clock)])).toArray (clock+1)),l++[((k,v),clock)],clock+1,?_,⟨Gn _ h.at_,?_,?_,?_⟩,?_,Gp _ _ _,λb hb=>Gm _ _ _ hb,⟨rfl,rfl⟩⟩
  ·simp only[Instr.mapUpdate,Sem.run_bind,dX hT ht,hd,Result.andThen,qL h.at_ rfl,Ai hT K,List.toList_toArray,AR hT K,hf,Option.map_none]
   rw[CL _ h.at_ rfl]
   simp[dC]
  ·rw[List.map_append,List.nodup_append]
   refine⟨h.nd,by simp,?_⟩
   intro a ha b hb
   simp at hb;subst hb
   obtain⟨p,hp,rfl⟩:=List.mem_map.1 ha
   have:=h.lt p hp
   omega
  ·intro p hp
   rcases List.mem_append.1 hp with hp|hp
   ·have:=h.lt p hp;omega
   ·simp at hp;subst hp;exact Nat.lt_succ_self _
  ·rw[List.map_append,List.nodup_append]
   refine⟨h.keys,by simp,?_⟩
   intro a ha b hb
   simp at hb;subst hb
   rintro rfl;exact bW ha
  ·rw[←S_ l k v clock,ad3 hk]
 |some x =>
  obtain⟨j,v0⟩:=x
  obtain⟨h1,b,h2,h3,_⟩:=Ic hf
  simp only[Nat.sub_zero] at h2 h3
  have hk:k∈l.map (·.1.1):=List.mem_map.2 ⟨_,List.mem_of_getElem? h2,rfl⟩
  refine⟨pQ w nm (.map (dC eK eV (jY l k v 0)).toArray clock),jY l k v 0,clock,?_,⟨Gn _ h.at_,?_,?_,?_⟩,S_ l k v 0,Gp _ _ _,λb hb=>Gm _ _ _ hb,⟨rfl,rfl⟩⟩
  ·have kj:(dC eK eV l)[j]?=some ⟨cv (eK k),cv (eV v0),b⟩:=by simp[dC,h2]
   simp only[Instr.mapUpdate,Sem.run_bind,dX hT ht,hd,Result.andThen,qL h.at_ rfl,Ai hT K,List.toList_toArray,AR hT K,hf,Option.map_some]
   simp only[List.getElem?_toArray,kj,Option.map_some,Option.getD_some,ads K,Result.andThen]
   rw[CL _ h.at_ rfl]
   congr 3
   have:=h3 v eK eV
   rw[←this]
   simp
  ·rw[Ta hk];exact h.nd
  ·intro p hp
   have:p.2∈(jY l k v 0).map (·.2):=List.mem_map.2 ⟨p,hp,rfl⟩
   rw[Ta hk] at this
   obtain⟨q,hq,e⟩:=List.mem_map.1 this
   rw[←e];exact h.lt q hq
  ·exact ad2 h.keys
theorem VX (hT:dy P T){mt kt vt ty:TypeId}{ti:TI}(ht:T mt=some ti)(hd:ti.desc=.map kt vt)(K:gB T kt eK){w:World}{nm:Nat}{l:List ((κ × ν) × Nat)}{clock:Nat}
  (h:sc w nm eK eV l clock) (k:κ):∃w' l',(Builtin.delete_ #[mt,kt] ty #[.map (some nm),cv (eK k)]).run P w=.ok (.tuple #[]) w'∧sc w' nm eK eV l' clock∧l'.map (·.1)=j7 (l.map (·.1)) k ∧
   w'.heap.size=w.heap.size∧(∀b,b≠nm→w'.heap[b]?=w.heap[b]?)∧dF w w':=by
 refine⟨pQ w nm (.map (dC eK eV (oV l k)).toArray clock),oV l k,?_,⟨Gn _ h.at_,(HK.map _).nodup h.nd,λp hp=>h.lt p (HK.subset hp),(HK.map _).nodup h.keys⟩,VS l k,Gp _ _ _,λb hb=>Gm _ _ _ hb,⟨rfl,rfl⟩⟩
 cases hf:lm k l 0 with
 |none =>
  have hk:=N4 hf
  have e:oV l k=l:=by
   clear hf h
   induction l with
   |nil=>rfl
   |cons p r ih =>
    simp only[List.map_cons,List.mem_cons,not_or] at hk
    simp only[oV]
    rw[if_neg (λe=>hk.1 e.symm),ih hk.2]
  rw[e]
  simp[Builtin.delete_,Sem.run_bind,dX hT ht,hd,Result.andThen,qL h.at_ rfl,Ai hT K,AR hT K,hf,CL _ h.at_ rfl]
 |some x =>
  obtain⟨j,v0⟩:=x
  obtain⟨h1,b,h2,_,h3⟩:=Ic hf
  simp only[Nat.sub_zero] at h2 h3
  have:=h3 eK eV
  have hl:j<(dC eK eV l).length:=by have:=iI h2;simpa [dC] using this
  simp only[Builtin.delete_,Sem.run_bind,List.getElem?_toArray,List.getElem?_cons_zero,List.getElem?_cons_succ,dX hT ht,hd,Result.andThen,qL h.at_ rfl,Ai hT K,List.toList_toArray,AR hT K,hf,Option.map_some]
  rw[CL _ h.at_ rfl]
  simp[Array.eraseIdxIfInBounds,hl,this]
theorem aaZ (hT:dy P T){mt kt vt:TypeId}{ti tv:TI}(ht:T mt=some ti)(hd:ti.desc=.map kt vt)(hv:T vt=some tv)(K:gB T kt eK){w:World}{nm:Nat}{l:List ((κ × ν) × Nat)}{clock:Nat}
  (h:sc w nm eK eV l clock) (k:κ) (ok:Bool):(Instr.lookup mt (.map (some nm)) (cv (eK k)) ok).run P w =
   .ok (match br (l.map (·.1)) k with
    |some v=>if ok then .tuple #[cv (eV v),.bool true] else cv (eV v)
    |none=>if ok then .tuple #[tv.zero,.bool false] else tv.zero) w:=by
 simp only[Instr.lookup,Sem.run_bind,dX hT ht,hd,Result.andThen,qL h.at_ rfl,Sem.run_pure,Ai hT K,List.toList_toArray,AR hT K]
 rw[←Q6 l k 0]
 cases hf:lm k l 0 with
 |none=>simp[xe hT hv,Result.andThen]
 |some x=>simp
end
section
variable {P:Program}{T:cf}{κ ν:Type}{eK:κ→SV}{eV:ν→SV}
theorem aaN {l aN rest:List ((κ × ν) × Nat)}(hp:l.Perm (aN++rest))(hn:(l.map (·.2)).Nodup):(l.filter λp=>!(aN.map (·.2)).contains p.2).Perm rest:=by
 have h1:=hp.filter (λp=>!(aN.map (·.2)).contains p.2)
 rw[List.filter_append] at h1
 have h2:aN.filter (λp=>!(aN.map (·.2)).contains p.2)=[]:=by
  rw[List.filter_eq_nil_iff]
  intro p ko
  have:p.2∈aN.map (·.2):=List.mem_map.2 ⟨p,ko,rfl⟩
  simp only[List.contains_iff_mem.2 this,Bool.not_true,Bool.false_eq_true,not_false_eq_true]
 have eN:((aN++rest).map (·.2)).Nodup:=((hp.map (·.2)).nodup_iff).1 hn
 rw[List.map_append,List.nodup_append] at eN
 have h3:rest.filter (λp=>!(aN.map (·.2)).contains p.2)=rest:=by
  rw[List.filter_eq_self]
  intro p ko
  have h4:p.2∈rest.map (·.2):=List.mem_map.2 ⟨p,ko,rfl⟩
  have h5:p.2 ∉ aN.map (·.2):=λh=>eN.2.2 _ h _ h4 rfl
  simp only[Bool.not_eq_true']
  rw[Bool.eq_false_iff]
  exact λh=>h5 (List.contains_iff_mem.1 h)
 rw[h2,h3,List.nil_append] at h1
 exact h1
theorem abi [DecidableEq κ]{w:World}{qC nm:Nat}{l aN rest:List ((κ × ν) × Nat)}{clock ty:Nat}(h:sc w nm eK eV l clock)(oc:w.heap[qC]?=some (.mapIter (some nm) clock (aN.map (·.2)).toArray clock))
  (hp:l.Perm (aN++rest)):(rest=[]∧(Instr.next (.pointer (some ⟨qC,0,none⟩)) false ty).run P w=.ok (.tuple #[.bool false]) w) ∨
  ∃p iY w',rest.Perm (p::iY)∧(Instr.next (.pointer (some ⟨qC,0,none⟩)) false ty).run P w=.ok (.tuple #[.bool true,cv (eK p.1.1),cv (eV p.1.2)]) w' ∧
   w'.heap[qC]?=some (.mapIter (some nm) clock ((aN++[p]).map (·.2)).toArray clock)∧w'.heap.size=w.heap.size∧(∀b,b≠qC→w'.heap[b]?=w.heap[b]?)∧dF w w':=by
 have hl:=aaN hp h.nd
 have hold:∀x∈(dC eK eV l).toArray.toList,x.born<clock:=by
  intro x hx
  obtain⟨p,ko,rfl⟩:=List.mem_map.1 (show x∈dC eK eV l by simpa using hx)
  exact h.lt p ko
 obtain⟨fl,ry⟩:∃fl,fl=l.filter λp=>!(aN.map (·.2)).contains p.2:=⟨_,rfl⟩
 have YE:∀p∈fl,p∈l:=λp hp=>by rw[ry] at hp;exact(List.mem_filter.1 hp).1
 simp only[Instr.next,Sem.run_bind,qL oc rfl,qL h.at_ rfl,Result.andThen,next_test_false _ _ clock clock hold (Nat.le_refl _),Bool.false_eq_true,if_false]
 have eL:(dC eK eV l).toArray.filter (λe=>!((aN.map (·.2)).toArray.contains e.born))=(dC eK eV fl).toArray:=by
  apply Array.toList_inj.1
  rw[Array.toList_filter,ry]
  simp only[dC,List.filter_map,List.contains_toArray,Function.comp_def]
 rw[←ry] at hl
 clear ry
 generalize hL:(dC eK eV fl).toArray=L at eL
 have gU:∀x∈L.toList,x.born<clock:=by
  intro x hx
  rw[←hL] at hx
  obtain⟨p,ko,rfl⟩:=List.mem_map.1 (show x∈dC eK eV fl by simpa using hx)
  exact h.lt p (YE p ko)
 simp only[eL]
 have e1:L.filter (λx=>decide (x.born<clock))=L:=Array.filter_eq_self.2 (λx hx=>by simpa using gU x (by simpa using hx))
 have e2:L.filter (λx=>decide (x.born≥clock))=#[]:=by
  rw[Array.filter_eq_empty_iff]
  intro x hx
  have:=gU x (by simpa using hx)
  simp
  omega
 simp only[e1,e2,Array.append_empty]
 have dr:L.size=rest.length:=by rw[←hL];simp[dC,hl.length_eq]
 by_cases h0:L.size=0
 ·left
  have:L=#[]:=Array.eq_empty_of_size_eq_zero h0
  refine⟨List.eq_nil_of_length_eq_zero (by omega),?_⟩
  subst this
  simp[choose,Sem.run,Question.forced]
 ·right
  have aV:L.isEmpty=false:=by simp[Array.isEmpty,h0]
  simp only[aV,Bool.false_eq_true,if_false,Array.empty_append,Array.size_map]
  have yz:∃(j:Nat) (w1:World),j<L.size∧w1.heap=w.heap∧dF w w1∧(choose (Question.mapNext L.size)).run P w=.ok j w1:=by
   by_cases hf:L.size≤1
   ·exact⟨0,w,by omega,rfl,dF.refl _,by simp[choose,Sem.run,Question.forced,hf]⟩
   ·exact⟨_,w.drew,Nat.mod_lt _ (by omega),rfl,⟨rfl,rfl⟩,by
     simp only[choose,Sem.run,Question.forced,decide_eq_true_eq,hf,if_false,Question.cut]
     rfl⟩
  obtain⟨j,w1,hj,uo,JR,cr⟩:=yz
  have pv:j<fl.length:=by rw[←hL] at hj;simpa [dC] using hj
  obtain⟨p,lC⟩:∃p,fl[j]?=some p:=⟨_,List.getElem?_eq_getElem pv⟩
  have X6:L[j]?=some ⟨cv (eK p.1.1),cv (eV p.1.2),p.2⟩:=by rw[←hL];simp[dC,lC]
  have jy:p∈rest:=hl.mem_iff.1 (List.mem_of_getElem? lC)
  obtain⟨s,t,bD⟩:=List.append_of_mem jy
  refine⟨p,s++t,pQ w1 qC (.mapIter (some nm) clock ((aN++[p]).map (·.2)).toArray clock),by rw[bD];exact List.perm_middle,?_,Gn _ (by rw[uo];exact oc),by rw[Gp,uo],λb hb=>by rw[Gm _ _ _ hb,uo],JR.trans ⟨rfl,rfl⟩⟩
  simp only[cr,Array.getElem?_map,X6,Option.map_some,Sem.run_bind,Result.andThen]
  rw[CL _ (by rw[uo];exact oc) rfl]
  simp
theorem Wh [DecidableEq κ]{w:World}{qC nm:Nat}{l aN:List ((κ × ν) × Nat)}{p:(κ × ν) × Nat}{clock:Nat}(h:sc w nm eK eV l clock)(oc:w.heap[qC]?=some (.mapIter (some nm) clock ((aN++[p]).map (·.2)).toArray clock))
  (hp:p∈l):(Instr.entry (.pointer (some ⟨qC,0,none⟩))).run P w=.ok (.tuple #[cv (eK p.1.1),cv (eV p.1.2)]) w:=by
 have hb:((aN++[p]).map (·.2)).toArray.back?=some p.2:=by simp
 have hf:(dC eK eV l).toArray.find? (λe=>e.born == p.2)=some ⟨cv (eK p.1.1),cv (eV p.1.2),p.2⟩:=by
  rw[List.find?_toArray]
  have:=find_born ⟨cv (eK p.1.1),cv (eV p.1.2),p.2⟩ (dC eK eV l) (by simpa [dC,Function.comp_def] using h.nd) (List.mem_map.2 ⟨p,hp,rfl⟩)
  exact this
 simp only[Instr.entry,Sem.run_bind,qL oc rfl,qL h.at_ rfl,Result.andThen,hb,hf]
 simp
theorem ab3 (hT:dy P T){mt kt vt:TypeId}{ti:TI}(ht:T mt=some ti)(hd:ti.desc=.map kt vt){w:World}{nm:Nat}{es:Array MapEntry}{clock:Nat}(h:w.heap[nm]?=some (.map es clock)) :
  (Instr.range mt (.map (some nm))).run P w=.ok (.pointer (some ⟨w.heap.size,0,none⟩)) (w.alloc (.mapIter (some nm) clock #[] clock)):=by
 simp only[Instr.range,Sem.run_bind,dX hT ht,hd,Result.andThen,qL h rfl]
 simp
theorem aaP (hT:dy P T){mt kt vt ty:TypeId}{ti:TI}(ht:T mt=some ti)(hd:ti.desc=.map kt vt){w:World}{nm:Nat}{es:Array MapEntry}{clock:Nat}(h:w.heap[nm]?=some (.map es clock)) :
  (Builtin.len_ #[mt] ty #[.map (some nm)]).run P w=.ok (goInt es.size) w:=by
 simp[Builtin.len_,Sem.run_bind,dX hT ht,hd,Result.andThen,qL h rfl]
end
section
variable {X:Cx}{ρ:Env}{st:St}{a:Act}{w:World}
theorem Mod.xo (hm:Mod X ρ st a w){id:Nat}{hb hb':HB}{nm:Nm}{b:Nat}{w':World}(hf:ab st.H id=some hb)(hl:hb.live=true)(hn:ρ id=some nm)(ho:nm.owner=some b)
  (hs:w'.heap.size=w.heap.size) (hk:∀k,k≠b→w'.heap[k]?=w.heap[k]?) (ap:ao ρ w' hb' nm) (iF:hb'.live=true) (mj:∀s n g,hb'≠.ro s n g) (bD:dF w w':=by exact⟨rfl,rfl⟩) :
  Mod X ρ { st with H:=(id,hb')::st.H } a w' where
 fm:=hm.fm
 gs:=hm.gs
 df:=hm.df
 hm:=hm.hm.put hf hl hn ho (by omega) (λk _ mi=>hk k mi) ap iF mj
 kp:=hm.kp.put hf hl hn ho (by omega) (λk _ mi=>hk k mi) bD (λs C e=>by subst e;cases nm<;>simp only[ao] at ap;cases ho)
 nx:=hm.nx
 sz:=hm.sz
theorem Mod.heap (hm:Mod X ρ st a w){w':World}(h:w'.heap=w.heap)(bD:dF w w':=by exact⟨rfl,rfl⟩):Mod X ρ st a w' where
 fm:=hm.fm
 gs:=hm.gs
 df:=hm.df
 hm:=hm.hm.world (by rw[h];exact Nat.le_refl _) (λb _=>by rw[h])
 kp:=hm.kp.world (by rw[h];exact Nat.le_refl _) (λb _=>by rw[h]) bD
 nx:=hm.nx
 sz:=hm.sz
end
section
variable {P:Program}{T:cf}{κ ν:Type} [DecidableEq κ]{eK:κ→SV}{eV:ν→SV}
theorem SB:∀{nw:List (SV × SV × Nat)} {l:List (κ × ν)},(nw.map λe=>(e.1,e.2.1))=dT eK eV l→∃ts:List ((κ × ν) × Nat),ts.map (·.1)=l∧nw=kd eK eV ts
 |[],[],_=>⟨[],rfl,rfl⟩
 |[],_::_,h=>by simp[dT] at h
 |_::_,[],h=>by simp[dT] at h
 |(a,b,n)::r,(k,v)::l,h=>by
  simp only[dT,List.map_cons,List.cons.injEq,Prod.mk.injEq] at h
  obtain⟨⟨rfl,rfl⟩,h⟩:=h
  obtain⟨ts,h1,h2⟩:=SB (nw:=r) (l:=l) h
  exact⟨((k,v),n)::ts,by simp[h1],by simp[h2,kd]⟩
theorem uV (hT:dy P T){kt:TypeId}(K:gB T kt eK)(hV:kJ eV){ρ:Env}{w:World}{nm:Nat}{l:List (κ × ν)} :
  ao ρ w (.mp (dT eK eV l)) (.bO nm)↔∃ts clock,sc w nm eK eV ts clock∧(ts.map (·.1)).Perm l:=by
 constructor
 ·rintro⟨nw,clock,h1,h2⟩
  obtain⟨l',h3,h4⟩:=abS h2
  obtain⟨ts,h5,rfl⟩:=SB (eK:=eK) (eV:=eV) (l:=l') h4
  exact⟨ts,clock,(Cl hT K hV).1 h1,by rw[h5];exact h3⟩
 ·rintro⟨ts,clock,h1,h2⟩
  refine⟨kd eK eV ts,clock,(Cl hT K hV).2 h1,?_⟩
  have:=h2.map (λp:κ × ν=>(eK p.1,eV p.2))
  simpa [dT,kd,Function.comp_def] using this
theorem FI (hT:dy P T){kt:TypeId}(K:gB T kt eK)(hV:kJ eV){ρ:Env}{w:World}{nm:Nat}{l:List (κ × ν)}(h:ao ρ w (.mp (dT eK eV l)) (.bO nm)):(l.map (·.1)).Nodup:=by
 obtain⟨ts,clock,h1,h2⟩:=(uV hT K hV).1 h
 have:=(h2.map (·.1)).nodup_iff.1 (by rw[Cm];exact h1.keys)
 exact this
end
section
variable {X:Cx}{st:St}{κ ν:Type} [DecidableEq κ]
theorem CR {ρ:Env}{id:Nat}{v:Value}(h:den ρ (.sm id)=some v):∃nm,ρ id=some (.bO nm)∧v=.map (some nm):=by
 simp only[den] at h
 split at h<;>cases h
 exact⟨_,by assumption,rfl⟩
def eQ (st:St)(f:List (Nat × FE)→List Nat→List (Nat × HB)→Nat→List fE→Prop):Prop:=match st with
 |⟨F,gs,H,nx,D⟩=>f F gs H nx D
theorem eG (st:St)(f:List (Nat × FE)→List Nat→List (Nat × HB)→Nat→List fE→Prop):eQ st f=f st.F st.gs st.H st.nx st.D:=by cases st;rfl
def y7 (ok:Bool)(v:SV)(p:Bool):SV:=match ok with
 |true=>.bn [v,.sb p]
 |false=>v
theorem sL {ops:List Oper}{i:Nat}{o:Oper}{r:List Oper}{Q:Exit→Act→World→Prop}{K:St→Prop}{Kp:List PanicEntry→St→Prop}{t:TypeId}{d:Nat}(hX:X.Ok)(hC:dm X Q K Kp)(hi:ops.drop i=o::r)
  (hc:o.op=.makeMap t none) (hg:o.guard=none) (bz:o.dst=some d) (hp:eF st.gs X.nt (some d)=false)
  (h:eQ st λF gs H nx D=>fa (nx+1) λaA=>c7 X ops Q K Kp (i+1) r ⟨(d,⟨[],.sm nx⟩)::F,gs,(nx,.mp [])::H,aA,D⟩):eB X ops Q K Kp i o r st:=by
 refine kg hX hC hi (by rw[hc];intro c h;cases h) hg fun ρ a w hm=>?_
 have mX:=hm.new (d:=some d) (s:=.sm st.nx) (v:=.map (some w.heap.size)) (hb:=.mp []) (nm:=.bO w.heap.size) (o:=.map #[] 0) hp (by simp[den,cj]) (by
  refine⟨[],0,⟨[],rfl,?_,by simp,by simp,by simp⟩,by simp⟩
  show(w.heap.push _)[w.heap.size]?=_
  simp) (by intro b hb;simpa [Nm.owner] using hb.symm) (by intro b hb;simp[eX] at hb)
 refine⟨_,_,_,_,.inl ?_,by rw[bz];exact mX,?_⟩
 ·simp only[execOp,hc]
  exact cy (by simp[Instr.makeMap])
 ·rw[eG,fw] at h;exact h
theorem mS (eK:κ→SV)(eV:ν→SV)(l:List (κ × ν))(k:κ)(v:ν)(l':List (κ × ν))(hl:l'=bN l k v)(id:Nat){ops:List Oper}{i:Nat}{o:Oper}{r:List Oper}{Q:Exit→Act→World→Prop}{Kn:St→Prop}{Kp:List PanicEntry→St→Prop}
  {t kt vt:TypeId} {ti:TI} {m kx x:Operand} (hX:X.Ok) (hC:dm X Q Kn Kp) (hi:ops.drop i=o::r)
  (hc:o.op=.mapUpdate t m kx x∨o.op=.insert t m kx x) (hg:o.guard=none) (hp:o.dst=none) (ht:X.T t=some ti) (hd:ti.desc=.map kt vt) (K:gB X.T kt eK) (V:kJ eV)
  (h1:ev (findF st.F) [] m=some (.sm id)) (h2:ev (findF st.F) [] kx=some (eK k)) (h3:ev (findF st.F) [] x=some (eV v)) (h4:ab st.H id=some (.mp (dT eK eV l)))
  (h:eQ st λF gs H nx D=>(l.map (·.1)).Nodup→c7 X ops Q Kn Kp (i+1) r ⟨F,gs,(id,.mp (dT eK eV l'))::H,nx,D⟩):eB X ops Q Kn Kp i o r st:=by
 subst hl
 refine kg hX hC hi (by rcases hc with hc|hc<;>rw[hc]<;>intro c h<;>cases h) hg fun ρ a w hm=>?_
 have hs:bu a []:=λx hx=>by cases hx
 obtain⟨nm,hn,ap⟩:=hm.hm.ok _ _ h4
 obtain⟨ak,eN,e1⟩:=CR (aQ hm.fm hs h1)
 rw[hn] at eN;cases eN
 have e2:=aQ hm.fm hs h2
 rw[qg (K.cl k)] at e2
 have e3:=aQ hm.fm hs h3
 rw[qg (V v)] at e3
 simp only[Option.some.injEq] at e2 e3
 have kl:=FI hX.dx K V ap
 obtain⟨ts,clock,m1,m2⟩:=(uV hX.dx K V).1 ap
 obtain⟨w',LM,HE,q1,q2,q3,q4,q5,q6⟩:=aa5 hX.dx ht hd K m1 k v
 have cr:(execOp a.eval o).run X.P w=.ok .skip w':=by
  rcases hc with hc|hc
  ·simp only[execOp,hc,e1,←e2,←e3];exact K_ q1
  ·simp only[execOp,hc,e1,←e2,←e3];exact K_ q1
 refine⟨undef,w',ρ,{ st with H:=(id,.mp (dT eK eV (bN l k v)))::st.H },.inr ⟨cr,rfl⟩,?_,?_⟩
 ·rw[hp]
  refine hm.xo h4 rfl hn rfl q4 q5 ((uV hX.dx K V).2 ⟨LM,HE,q2,?_⟩) rfl (λ_ _ _ h=>by cases h) q6
  rw[q3]
  exact ad0 m2 (by rw[Cm];exact m1.keys) k v
 ·rw[eG] at h;exact h kl
def LZ:Value→Option SV
 |.agg cs=>match ofValues cs.toList with
  |some l=>some (.agg l)
  |none=>none
 |x=>ofValue x
theorem TB (ρ:Env){x:Value}{s:SV}(h:LZ x=some s):den ρ s=some x:=by
 unfold LZ at h
 split at h
 ·split at h
  ·rename_i l e
   cases h
   obtain⟨h1,h2⟩:=yW ρ e
   simp[den,h1,h2]
  ·cases h
 ·exact FU ρ h
theorem mR (eK:κ→SV)(eV:ν→SV)(l:List (κ × ν))(k:κ)(id:Nat){ops:List Oper}{i:Nat}{o:Oper}{r:List Oper}{Q:Exit→Act→World→Prop}{Kn:St→Prop}{Kp:List PanicEntry→St→Prop}
  {t kt vt:TypeId} {ti tv:TI} {m kx:Operand} {ok:Bool} {d:Nat} {z:SV} (hX:X.Ok) (hC:dm X Q Kn Kp) (hi:ops.drop i=o::r)
  (hc:o.op=.lookup t m kx ok) (hg:o.guard=none) (hp:eF st.gs X.nt o.dst=false) (bz:o.dst=some d) (ht:X.T t=some ti) (hd:ti.desc=.map kt vt) (hv:X.T vt=some tv) (hz:LZ tv.zero=some z) (K:gB X.T kt eK) (V:kJ eV)
  (h1:ev (findF st.F) [] m=some (.sm id)) (h2:ev (findF st.F) [] kx=some (eK k)) (h4:ab st.H id=some (.mp (dT eK eV l)))
  (h:eQ st λF gs H nx D=>(l.map (·.1)).Nodup→(∀v,br l k=some v→c7 X ops Q Kn Kp (i+1) r ⟨(d,⟨[],y7 ok (eV v) true⟩)::F,gs,H,nx,D⟩) ∧
   (br l k=none→c7 X ops Q Kn Kp (i+1) r ⟨(d,⟨[],y7 ok z false⟩)::F,gs,H,nx,D⟩)):eB X ops Q Kn Kp i o r st:=by
 refine kg hX hC hi (by rw[hc];intro c h;cases h) hg fun ρ a w hm=>?_
 have hs:bu a []:=λx hx=>by cases hx
 obtain⟨nm,hn,ap⟩:=hm.hm.ok _ _ h4
 obtain⟨ak,eN,e1⟩:=CR (aQ hm.fm hs h1)
 rw[hn] at eN;cases eN
 have e2:=aQ hm.fm hs h2
 rw[qg (K.cl k)] at e2
 simp only[Option.some.injEq] at e2
 have kl:=FI hX.dx K V ap
 obtain⟨ts,clock,m1,m2⟩:=(uV hX.dx K V).1 ap
 have q:=aaZ hX.dx ht hd hv K m1 k ok
 rw[aaW m2 (by rw[Cm];exact m1.keys)] at q
 have cr:∀u,(Instr.lookup t (.map (some ak)) (cv (eK k)) ok).run X.P w=.ok u w→(execOp a.eval o).run X.P w=.ok (.value u) w:=by
  intro u q
  simp only[execOp,hc,e1,←e2];exact cy q
 cases hl:br l k with
 |some v =>
  refine⟨_,w,ρ,_,.inl (cr _ q),hm.put (d:=o.dst) (s:=y7 ok (eV v) true) hp ?_,?_⟩
  ·simp only[hl]
   cases ok
   ·exact qg (V v) ρ
   ·simp[y7,den,ai,qg (V v) ρ]
  ·rw[eG] at h;rw[bz];exact(h kl).1 v hl
 |none =>
  refine⟨_,w,ρ,_,.inl (cr _ q),hm.put (d:=o.dst) (s:=y7 ok z false) hp ?_,?_⟩
  ·simp only[hl]
   cases ok
   ·exact TB ρ hz
   ·simp[y7,den,ai,TB ρ hz]
  ·rw[eG] at h;rw[bz];exact(h kl).2 hl
theorem Wz (eK:κ→SV)(eV:ν→SV)(l:List (κ × ν))(k:κ)(id:Nat){ops:List Oper}{i:Nat}{o:Oper}{r:List Oper}{Q:Exit→Act→World→Prop}{Kn:St→Prop}{Kp:List PanicEntry→St→Prop}
  {t kt vt:TypeId} {ti:TI} {m kx:Operand} {c:Call} (hX:X.Ok) (hC:dm X Q Kn Kp) (hi:ops.drop i=o::r)
  (hc:o.op=.call c) (bi:c.callee=.builtin .delete) (lr:c.args=#[m,kx]) (gG:c.argTypes=#[t,kt]) (hg:o.guard=none) (bz:o.dst=none) (ht:X.T t=some ti) (hd:ti.desc=.map kt vt) (K:gB X.T kt eK) (V:kJ eV)
  (h1:ev (findF st.F) [] m=some (.sm id)) (h2:ev (findF st.F) [] kx=some (eK k)) (h4:ab st.H id=some (.mp (dT eK eV l)))
  (h:eQ st λF gs H nx D=>(l.map (·.1)).Nodup→c7 X ops Q Kn Kp (i+1) r ⟨F,gs,(id,.mp (dT eK eV (j7 l k)))::H,nx,D⟩):eB X ops Q Kn Kp i o r st:=by
 refine kg hX hC hi (by rw[hc];intro c h;cases h) hg fun ρ a w hm=>?_
 have hs:bu a []:=λx hx=>by cases hx
 obtain⟨nm,hn,ap⟩:=hm.hm.ok _ _ h4
 obtain⟨ak,eN,e1⟩:=CR (aQ hm.fm hs h1)
 rw[hn] at eN;cases eN
 have e2:=aQ hm.fm hs h2
 rw[qg (K.cl k)] at e2
 simp only[Option.some.injEq] at e2
 have kl:=FI hX.dx K V ap
 obtain⟨ts,clock,m1,m2⟩:=(uV hX.dx K V).1 ap
 obtain⟨w',LM,q1,q2,q3,q4,q5,q6⟩:=VX (ty:=o.type) hX.dx ht hd K m1 k
 have cr:(execOp a.eval o).run X.P w=.ok (.value (.tuple #[])) w':=by
  have ju:c.args.map a.eval=#[.map (some ak),cv (eK k)]:=by rw[lr];simp[e1,e2]
  simp only[execOp,hc,Sem.run_bind,resolve,bi,ju,gG]
  simp only[Sem.run_pure,Result.andThen,invoke,builtin]
  exact cy q1
 refine⟨_,w',ρ,{ st with H:=(id,.mp (dT eK eV (j7 l k)))::st.H },.inl cr,?_,?_⟩
 ·rw[bz]
  refine hm.xo h4 rfl hn rfl q4 q5 ((uV hX.dx K V).2 ⟨LM,_,q2,?_⟩) rfl (λ_ _ _ h=>by cases h) q6
  rw[q3]
  exact VT m2 (by rw[Cm];exact m1.keys) k
 ·rw[eG] at h;exact h kl
end
section
variable {X:Cx}{st:St}{κ ν:Type} [DecidableEq κ]
theorem SP {ρ:Env}{id:Nat}{v:Value}(h:den ρ (.sp id 0)=some v):∃nm,ρ id=some (.bO nm)∧v=.pointer (some ⟨nm,0,none⟩):=nX h
theorem Ed (eK:κ→SV)(eV:ν→SV)(l:List (κ × ν))(id:Nat){ops:List Oper}{i:Nat}{o:Oper}{r:List Oper}{Q:Exit→Act→World→Prop}{Kn:St→Prop}{Kp:List PanicEntry→St→Prop}
  {t kt vt:TypeId} {ti:TI} {m:Operand} {d:Nat} (hX:X.Ok) (hC:dm X Q Kn Kp) (hi:ops.drop i=o::r)
  (hc:o.op=.range t m) (hg:o.guard=none) (bz:o.dst=some d) (hp:eF st.gs X.nt (some d)=false) (ht:X.T t=some ti) (hd:ti.desc=.map kt vt) (K:gB X.T kt eK) (V:kJ eV)
  (h1:ev (findF st.F) [] m=some (.sm id)) (h4:ab st.H id=some (.mp (dT eK eV l)))
  (h:eQ st λF gs H nx D=>fa (nx+1) λaA=>(l.map (·.1)).Nodup→∀(ts:List ((κ × ν) × Nat)) (clock:Nat),(ts.map (·.1)).Perm l →
   c7 X ops Q Kn Kp (i+1) r ⟨(d,⟨[],.sp nx 0⟩)::F,gs,(nx,.it id clock [] clock)::(id,.map (kd eK eV ts) clock)::H,aA,D⟩):eB X ops Q Kn Kp i o r st:=by
 refine kg hX hC hi (by rw[hc];intro c h;cases h) hg fun ρ a w hm=>?_
 have hs:bu a []:=λx hx=>by cases hx
 obtain⟨nm,hn,ap⟩:=hm.hm.ok _ _ h4
 obtain⟨ak,eN,e1⟩:=CR (aQ hm.fm hs h1)
 rw[hn] at eN;cases eN
 have kl:=FI hX.dx K V ap
 obtain⟨ts,clock,m1,m2⟩:=(uV hX.dx K V).1 ap
 have ck:=hm.xo (hb':=.map (kd eK eV ts) clock) (w':=w) h4 rfl hn rfl rfl (λ_ _=>rfl) ((Cl hX.dx K V).2 m1) rfl (λ_ _ _ h=>by cases h)
 have aG:ak<w.heap.size:=by
  rcases Nat.lt_or_ge ak w.heap.size with h|h
  ·exact h
  ·have:=m1.at_;rw[Array.getElem?_eq_none h] at this;cases this
 have dZ:id≠st.nx:=λe=>by have:=hm.nx id (by omega);rw[hn] at this;cases this
 have mX:=ck.new (d:=some d) (s:=.sp st.nx 0) (v:=.pointer (some ⟨w.heap.size,0,none⟩)) (hb:=.it id clock [] clock) (nm:=.bO w.heap.size) (o:=.mapIter (some ak) clock #[] clock) hp
  (by show den (aq ρ st.nx _) (.sp st.nx 0)=_;simp[den,cj]) (by
   refine⟨ak,by show aq ρ st.nx _ id=_;rw[bF _ _ dZ];exact hn,?_⟩
   show(w.heap.push _)[w.heap.size]?=_
   simp) (by intro b hb;simpa [Nm.owner] using hb.symm) (by intro b hb;simp[eX] at hb)
 refine⟨_,_,_,_,.inl ?_,by rw[bz];exact mX,?_⟩
 ·simp only[execOp,hc,e1]
  exact cy (ab3 hX.dx ht hd m1.at_)
 ·rw[eG,fw] at h;exact h kl ts clock m2
theorem Ec (eK:κ→SV)(eV:ν→SV)(id yK clock:Nat)(ts aN rest:List ((κ × ν) × Nat)){ops:List Oper}{i:Nat}{o:Oper}{r:List Oper}{Q:Exit→Act→World→Prop}{Kn:St→Prop}{Kp:List PanicEntry→St→Prop}
  {kt:TypeId} {m:Operand} {d:Nat} (hX:X.Ok) (hC:dm X Q Kn Kp) (hi:ops.drop i=o::r)
  (hc:o.op=.next m false) (hg:o.guard=none) (bz:o.dst=some d) (hp:eF st.gs X.nt (some d)=false) (K:gB X.T kt eK) (V:kJ eV)
  (h1:ev (findF st.F) [] m=some (.sp yK 0)) (h4:ab st.H id=some (.map (kd eK eV ts) clock)) (h5:ab st.H yK=some (.it id clock (aN.map (·.2)) clock)) (jy:ts.Perm (aN++rest))
  (h:eQ st λF gs H nx D=>(rest=[]→c7 X ops Q Kn Kp (i+1) r ⟨(d,⟨[],.bn [.sb false]⟩)::F,gs,H,nx,D⟩) ∧
   ∀(p:(κ × ν) × Nat) (iY:List ((κ × ν) × Nat)),rest.Perm (p::iY)→c7 X ops Q Kn Kp (i+1) r ⟨(d,⟨[],.bn [.sb true,eK p.1.1,eV p.1.2]⟩)::F,gs,(yK,.it id clock ((aN++[p]).map (·.2)) clock)::H,nx,D⟩):eB X ops Q Kn Kp i o r st:=by
 refine kg hX hC hi (by rw[hc];intro c h;cases h) hg fun ρ a w hm=>?_
 have hs:bu a []:=λx hx=>by cases hx
 obtain⟨nm,hn,ap⟩:=hm.hm.ok _ _ h4
 cases nm<;>simp only[ao] at ap
 rename_i nm
 have m1:=(Cl hX.dx K V).1 ap
 obtain⟨qC,oc,e1⟩:=SP (aQ hm.fm hs h1)
 obtain⟨fg,By,JB⟩:=hm.hm.ok _ _ h5
 rw[oc] at By;cases By
 obtain⟨mb,Bz,JC⟩:=JB
 rw[hn] at Bz;cases Bz
 rw[eG] at h
 rcases abi (P:=X.P) (ty:=o.type) m1 JC jy with⟨q1,q2⟩|⟨p,iY,w',q1,q2,q3,q4,q5,q6⟩
 ·refine⟨_,w,ρ,_,.inl (by simp only[execOp,hc,e1];exact cy q2),hm.put (d:=o.dst) (s:=.bn [.sb false]) (by rw[bz];exact hp) (by simp[den,ai]),?_⟩
  rw[bz];exact h.1 q1
 ·have ck:=hm.xo (hb':=.it id clock ((aN++[p]).map (·.2)) clock) (w':=w') h5 rfl oc rfl q4 q5 ⟨_,hn,q3⟩ rfl (λ_ _ _ h=>by cases h) q6
  refine⟨_,w',ρ,_,.inl (by simp only[execOp,hc,e1];exact cy q2),ck.put (d:=o.dst) (s:=.bn [.sb true,eK p.1.1,eV p.1.2]) (by rw[bz];exact hp) (by simp[den,ai,qg (K.cl _) ρ,qg (V _) ρ]),?_⟩
  rw[bz];exact h.2 p iY q1
theorem Eb (eK:κ→SV)(eV:ν→SV)(id yK clock:Nat)(ts aN:List ((κ × ν) × Nat))(p:(κ × ν) × Nat){ops:List Oper}{i:Nat}{o:Oper}{r:List Oper}{Q:Exit→Act→World→Prop}{Kn:St→Prop}{Kp:List PanicEntry→St→Prop}
  {kt:TypeId} {m:Operand} {d:Nat} (hX:X.Ok) (hC:dm X Q Kn Kp) (hi:ops.drop i=o::r)
  (hc:o.op=.entry m) (hg:o.guard=none) (bz:o.dst=some d) (hp:eF st.gs X.nt (some d)=false) (K:gB X.T kt eK) (V:kJ eV)
  (h1:ev (findF st.F) [] m=some (.sp yK 0)) (h4:ab st.H id=some (.map (kd eK eV ts) clock)) (h5:ab st.H yK=some (.it id clock ((aN++[p]).map (·.2)) clock)) (jy:p∈ts)
  (h:eQ st λF gs H nx D=>c7 X ops Q Kn Kp (i+1) r ⟨(d,⟨[],.bn [eK p.1.1,eV p.1.2]⟩)::F,gs,H,nx,D⟩):eB X ops Q Kn Kp i o r st:=by
 refine kg hX hC hi (by rw[hc];intro c h;cases h) hg fun ρ a w hm=>?_
 have hs:bu a []:=λx hx=>by cases hx
 obtain⟨nm,hn,ap⟩:=hm.hm.ok _ _ h4
 cases nm<;>simp only[ao] at ap
 rename_i nm
 have m1:=(Cl hX.dx K V).1 ap
 obtain⟨qC,oc,e1⟩:=SP (aQ hm.fm hs h1)
 obtain⟨fg,By,JB⟩:=hm.hm.ok _ _ h5
 rw[oc] at By;cases By
 obtain⟨mb,Bz,JC⟩:=JB
 rw[hn] at Bz;cases Bz
 have q:=Wh (P:=X.P) m1 JC jy
 rw[eG] at h
 refine⟨_,w,ρ,_,.inl (by simp only[execOp,hc,e1];exact cy q),hm.put (d:=o.dst) (s:=.bn [eK p.1.1,eV p.1.2]) (by rw[bz];exact hp) (by simp[den,ai,qg (K.cl _) ρ,qg (V _) ρ]),?_⟩
 rw[bz];exact h
theorem WG (eK:κ→SV)(eV:ν→SV)(l:List (κ × ν))(id:Nat){ops:List Oper}{i:Nat}{o:Oper}{r:List Oper}{Q:Exit→Act→World→Prop}{Kn:St→Prop}{Kp:List PanicEntry→St→Prop}
  {t kt vt:TypeId} {ti:TI} {m:Operand} {c:Call} {d:Nat} (hX:X.Ok) (hC:dm X Q Kn Kp) (hi:ops.drop i=o::r)
  (hc:o.op=.call c) (bi:c.callee=.builtin .len) (lr:c.args=#[m]) (gG:c.argTypes=#[t]) (hg:o.guard=none) (bz:o.dst=some d) (hp:eF st.gs X.nt (some d)=false) (ht:X.T t=some ti) (hd:ti.desc=.map kt vt) (K:gB X.T kt eK) (V:kJ eV)
  (h1:ev (findF st.F) [] m=some (.sm id)) (h4:ab st.H id=some (.mp (dT eK eV l)))
  (h:eQ st λF gs H nx D=>c7 X ops Q Kn Kp (i+1) r ⟨(d,⟨[],.si .i64 l.length⟩)::F,gs,H,nx,D⟩):eB X ops Q Kn Kp i o r st:=by
 refine kg hX hC hi (by rw[hc];intro c h;cases h) hg fun ρ a w hm=>?_
 have hs:bu a []:=λx hx=>by cases hx
 obtain⟨nm,hn,ap⟩:=hm.hm.ok _ _ h4
 obtain⟨ak,eN,e1⟩:=CR (aQ hm.fm hs h1)
 rw[hn] at eN;cases eN
 obtain⟨ts,clock,m1,m2⟩:=(uV hX.dx K V).1 ap
 have q:=aaP (P:=X.P) (ty:=o.type) hX.dx ht hd m1.at_
 have hlen:(dC eK eV ts).toArray.size=l.length:=by simp[dC,←m2.length_eq]
 rw[hlen] at q
 rw[eG] at h
 refine⟨_,w,ρ,_,.inl ?_,hm.put (d:=o.dst) (s:=.si .i64 l.length) (by rw[bz];exact hp) rfl,by rw[bz];exact h⟩
 have ju:c.args.map a.eval=#[.map (some ak)]:=by rw[lr];simp[e1]
 simp only[execOp,hc,Sem.run_bind,resolve,bi,ju,gG]
 simp only[Sem.run_pure,Result.andThen,invoke,builtin]
 exact cy q
end
theorem chunks {sz:Nat}{Q:Nat→List Value→Prop}:∀(n:Nat),(∀i,i<n→∃vs:List Value,vs.length=sz∧Q i vs)→∃news:List Value,news.length=n*sz∧∀i,i<n→Q i ((news.drop (i*sz)).take sz)
 |0,_=>⟨[],by simp,λi h=>by omega⟩
 |n+1,h=>by
  obtain⟨news,h1,h2⟩:=chunks n λi hi=>h i (by omega)
  obtain⟨vs,h3,h4⟩:=h n (by omega)
  refine⟨news++vs,by rw[List.length_append,h1,h3,Nat.add_mul];omega,λi hi=>?_⟩
  rcases Nat.lt_or_ge i n with aG|kj
  ·have h5:(i+1)*sz≤n*sz:=Nat.mul_le_mul_right _ aG
   rw[Nat.add_mul] at h5
   rw[List.drop_append_of_le_length (by omega),List.take_append_of_le_length (by simp;omega)]
   exact h2 i aG
  ·have:i=n:=by omega
   subst this
   rw[List.drop_append,h1,List.drop_eq_nil_of_le (by omega)]
   simp only[Nat.sub_self,List.drop_zero,List.nil_append]
   rw[List.take_of_length_le (by omega)]
   exact h4
theorem J1 {sz j n:Nat}(h:j<n*sz):j / sz<n∧j % sz<sz∧j=(j / sz)*sz+j % sz:=by
 have cR:0<sz:=Nat.pos_of_ne_zero λe=>by subst e;simp at h
 refine⟨(Nat.div_lt_iff_lt_mul cR).2 h,Nat.mod_lt _ cR,?_⟩
 have:=Nat.div_add_mod j sz
 rw[Nat.mul_comm] at this
 omega
theorem Nl {sz n j:Nat}{news:List Value}(hl:news.length=n*sz)(h:j<n*sz):news[j]?=((news.drop ((j / sz)*sz)).take sz)[j % sz]?:=by
 obtain⟨h1,h2,h3⟩:=J1 h
 rw[List.getElem?_take,if_pos h2,List.getElem?_drop,←h3]
section
variable {P:Program}{T:cf}{ρ:Env}{H:LH}{w:World}
theorem Lk (hH:HM ρ H w){sz id n:Nat}{get:Nat→List SV}(h:cn sz H id=some (n,get)){v:Value}(hv:den ρ (.sl id)=some v) :
  ∃(A:Option Addr) (c:Nat) (news:List Value),v=.slice A n c∧(0<n→∃ad,A=some ad)∧news.length=n*sz∧(∀u∈news,u.oneCell'=true)∧(∀i,i<n→ai ρ (get i)=some ((news.drop (i*sz)).take sz)) ∧
   ∀ad,A=some ad→∀j u,news[j]?=some u→w.cell? (ad.add j)=some u:=by
 unfold cn at h
 have one:∀(news:List Value),news.length=n*sz→(∀i,i<n→((news.drop (i*sz)).take sz).all (·.oneCell')=true)→∀u∈news,u.oneCell'=true:=by
  intro news hl ha u hu
  obtain⟨j,hj⟩:=List.getElem?_of_mem hu
  have pv:=iI hj
  rw[hl] at pv
  obtain⟨h1,h2,h3⟩:=J1 pv
  rw[Nl hl pv] at hj
  exact List.all_eq_true.1 (ha _ h1) u (List.mem_of_getElem? hj)
 split at h
 ·rename_i s n' get' e
  split at h
  ·rename_i hb
   have:s=sz:=by simpa using hb
   subst this;cases h
   obtain⟨nm,hn,ap⟩:=hH.ok _ _ e
   cases nm<;>simp only[ao] at ap
   rename_i A n2 c s'
   obtain⟨rfl,rfl,_,h3⟩:=ap
   simp only[den,hn] at hv;cases hv
   have hex:∃news:List Value,news.length=n2*s'∧∀i,i<n2→ai ρ (get i)=some ((news.drop (i*s')).take s')∧((news.drop (i*s')).take s').all (·.oneCell')=true ∧
     ∀ad,A=some ad→∀j v,((news.drop (i*s')).take s')[j]?=some v→w.cell? (ad.add (i*s'+j))=some v:=by
    refine chunks (Q:=λi vs=>ai ρ (get i)=some vs∧vs.all (·.oneCell')=true∧∀ad,A=some ad→∀j v,vs[j]?=some v→w.cell? (ad.add (i*s'+j))=some v) n2 λi hi=>?_
    obtain⟨ad,e1,_,e2⟩:=h3 (by omega)
    obtain⟨vs,d1,d2,d3,d4⟩:=e2 i hi
    exact⟨vs,d3,d1,d2,λDl ha=>by rw[e1] at ha;cases ha;exact d4⟩
   obtain⟨news,g1,g2⟩:=hex
   refine⟨_,_,news,rfl,λh=>let ⟨ad,e,_⟩:=h3 h;⟨ad,e⟩,g1,one news g1 λi hi=>(g2 i hi).2.1,λi hi=>(g2 i hi).1,λad ha j u hj=>?_⟩
   have pv:=iI hj
   rw[g1] at pv
   obtain⟨k1,k2,k3⟩:=J1 pv
   rw[Nl g1 pv] at hj
   have:=(g2 _ k1).2.2 ad ha _ _ hj
   rw[←k3] at this;exact this
  ·cases h
 ·rename_i T' s n' xs e
  split at h
  ·rename_i hb
   have:s=sz:=by simpa using hb
   subst this;cases h
   obtain⟨nm,hn,ap⟩:=hH.ok _ _ e
   cases nm<;>simp only[ao] at ap
   rename_i nb n2 c s'
   obtain⟨rfl,rfl,h3,vs,rest,d1,d2,d3,d4,d5⟩:=ap
   simp only[den,hn] at hv;cases hv
   refine⟨_,_,vs,rfl,λ_=>⟨_,rfl⟩,d3,List.all_eq_true.1 d2,λi hi=>?_,λad ha j u hj=>?_⟩
   ·show ai ρ (pT _ (nY _ _))=_
    rw[GD,As]
    exact An d1 _ _
   ·cases ha
    rw[lR]
    simp only[World.cell?,d5,List.getElem?_toArray]
    rw[List.getElem?_append_left (iI hj)]
    exact hj
  ·cases h
 ·rename_i T' s n' get' e
  split at h
  ·rename_i hb
   have:s=sz:=by simpa using hb
   subst this;cases h
   obtain⟨nm,hn,ap⟩:=hH.ok _ _ e
   cases nm<;>simp only[ao] at ap
   ·obtain⟨rfl,rfl,rfl,rfl,rfl⟩:=ap
    simp only[den,hn] at hv;cases hv
    exact⟨_,_,[],rfl,λh=>by omega,by simp,by simp,λi hi=>by omega,λad ha=>by cases ha⟩
   rename_i nb n2 c s'
   obtain⟨rfl,rfl,h3,cells,d5,d6,d7⟩:=ap
   simp only[den,hn] at hv;cases hv
   have hle:n2*s'≤cells.length:=by rw[d6];exact Nat.mul_le_mul_right _ h3.1
   have g1:(cells.take (n2*s')).length=n2*s':=by simp;omega
   have g2:∀i,i<n2→ai ρ (get i)=some (((cells.take (n2*s')).drop (i*s')).take s')∧(((cells.take (n2*s')).drop (i*s')).take s').all (·.oneCell')=true:=by
    intro i hi
    obtain⟨vs,c1,c2,c3,c4⟩:=d7 i hi
    have jT:(i+1)*s'≤n2*s':=Nat.mul_le_mul_right _ hi
    rw[Nat.add_mul] at jT
    have:((cells.take (n2*s')).drop (i*s')).take s'=vs:=by
     apply List.ext_getElem?
     intro j
     rw[List.getElem?_take]
     split
     ·rw[List.getElem?_drop,List.getElem?_take,if_pos (by omega)]
      obtain⟨v,hv⟩:∃v,vs[j]?=some v:=⟨_,List.getElem?_eq_getElem (by omega)⟩
      rw[hv];exact c4 j v hv
     ·rw[List.getElem?_eq_none (by omega)]
    rw[this];exact⟨c1,c2⟩
   refine⟨_,_,cells.take (n2*s'),rfl,λ_=>⟨_,rfl⟩,g1,one _ g1 λi hi=>(g2 i hi).2,λi hi=>(g2 i hi).1,λad ha j u hj=>?_⟩
   cases ha
   rw[lR]
   simp only[World.cell?,d5,List.getElem?_toArray]
   rw[List.getElem?_take] at hj
   split at hj
   ·exact hj
   ·cases hj
  ·cases h
 ·cases h
theorem HM.add {id g:Nat}{hb:HB}{nm:Nm}{w':World}(h:HM ρ H w)(hf:ρ id=none)(hs:w.heap.size≤w'.heap.size)(hk:∀k,k<w.heap.size→k≠g→w'.heap[k]?=w.heap[k]?)
  (hg:¬Own ρ H g) (hr:∀j size n get nm,H j=some (.ro size n get)→0<n→ρ j=some nm→eX nm≠some g) (ap:ao (aq ρ id nm) w' hb nm) (cM:∀b,nm.owner=some b→b=g) (kq:eX nm=none) (EM:¬Fz H g) (ma:∀s C,hb≠.ax s C:=by intro s C h;cases h) :
  HM (aq ρ id nm) (jI H id hb) w' where
 ok j hb' hj:=by
  by_cases e:id=j
  ·subst e
   rw[cP] at hj;cases hj
   exact⟨nm,cj _ _ _,ap⟩
  ·rw[aR _ _ e] at hj
   obtain⟨ak,h1,h2⟩:=h.ok j hb' hj
   refine⟨ak,by rw[bF _ _ (Ne.symm e)];exact h1,kK (Ext.aq nm hf) (vm hs ?_ ?_ ?_ h2)⟩
   ·intro hl c hc
    have ho:Own ρ H c:=⟨j,hb',ak,hj,hl,h1,hc⟩
    exact hk c (h.lt ho) (λe=>hg (e ▸ ho))
   ·intro size n get c ex fG iG
    subst ex
    have aV:=hr j size n get ak hj fG h1
    cases ak<;>simp only[ao] at h2
    obtain⟨_,_,_,h3⟩:=h2
    obtain⟨ad,vI,aG,_⟩:=h3 fG
    subst vI
    have JJ:=iG
    simp only[eX] at iG;cases iG
    refine hk _ aG λe=>aV (e ▸ JJ)
   ·intro size C v n get c ex hc fG iG
    subst ex
    have hz:Fz H c:=⟨j,size,C,v,n,get,hj,hc,fG,iG⟩
    exact hk _ (h.sN hz) λe=>EM (e ▸ hz)
 sep i j wu wv c_ dE b h1 h2 l1 l2 r1 r2 o1 o2:=by
  by_cases e1:id=i<;>by_cases e2:id=j
  ·exact e1.symm.trans e2
  ·subst e1
   rw[cj] at r1;cases r1
   rw[aR _ _ e2] at h2
   rw[bF _ _ (Ne.symm e2)] at r2
   have:=cM b o1;subst this
   exact absurd ⟨j,wv,dE,h2,l2,r2,o2⟩ hg
  ·subst e2
   rw[cj] at r2;cases r2
   rw[aR _ _ e1] at h1
   rw[bF _ _ (Ne.symm e1)] at r1
   have:=cM b o2;subst this
   exact absurd ⟨i,wu,c_,h1,l1,r1,o1⟩ hg
  ·rw[aR _ _ e1] at h1
   rw[bF _ _ (Ne.symm e1)] at r1
   rw[aR _ _ e2] at h2
   rw[bF _ _ (Ne.symm e2)] at r2
   exact h.sep i j wu wv c_ dE b h1 h2 l1 l2 r1 r2 o1 o2
 ro j size n get ak b hj hn gW hb':=by
  intro ho
  by_cases e:id=j
  ·subst e
   rw[cj] at gW;cases gW
   rw[kq] at hb';cases hb'
  ·rw[aR _ _ e] at hj
   rw[bF _ _ (Ne.symm e)] at gW
   rcases Own.cons hf ho with h1|h1
   ·have:=cM b h1;subst this
    exact hr j size n get ak hj hn gW hb'
   ·exact h.ro j size n get ak b hj hn gW hb' h1
 ax b hz ho:=by
  have hz:=hz.aq ma
  rcases Own.cons hf ho with h1|h1
  ·have:=cM b h1;subst this
   exact EM hz
  ·exact h.ax b hz h1
theorem HM.kill (h:HM ρ H w){id:Nat}(hs:∃nm,ρ id=some nm):HM ρ (jI H id .dead) w where
 ok j hb hj:=by
  by_cases e:id=j
  ·subst e
   rw[cP] at hj;cases hj
   obtain⟨nm,hn⟩:=hs
   exact⟨nm,hn,trivial⟩
  ·rw[aR _ _ e] at hj;exact h.ok j hb hj
 sep i j wu wv c_ dE b h1 h2 l1 l2 r1 r2 o1 o2:=by
  by_cases e1:id=i
  ·subst e1;rw[cP] at h1;cases h1;cases l1
  ·by_cases e2:id=j
   ·subst e2;rw[cP] at h2;cases h2;cases l2
   ·rw[aR _ _ e1] at h1;rw[aR _ _ e2] at h2
    exact h.sep i j wu wv c_ dE b h1 h2 l1 l2 r1 r2 o1 o2
 ro j size n get ak b hj hn hr hb' ho:=by
  by_cases e:id=j
  ·subst e;rw[cP] at hj;cases hj
  ·rw[aR _ _ e] at hj
   refine h.ro j size n get ak b hj hn hr hb' ?_
   obtain⟨i,x,nm,h1,h2,h3,h4⟩:=ho
   by_cases e2:id=i
   ·subst e2;rw[cP] at h1;cases h1;cases h2
   ·rw[aR _ _ e2] at h1;exact⟨i,x,nm,h1,h2,h3,h4⟩
 ax b hz ho:=by
  refine h.ax b (hz.aq λs C h=>by cases h) ?_
  obtain⟨i,x,nm,h1,h2,h3,h4⟩:=ho
  by_cases e2:id=i
  ·subst e2;rw[cP] at h1;cases h1;cases h2
  ·rw[aR _ _ e2] at h1;exact⟨i,x,nm,h1,h2,h3,h4⟩
theorem Own.kill {id b:Nat}(h:Own ρ (jI H id .dead) b):∃i hb nm,i≠id∧H i=some hb∧hb.live=true∧ρ i=some nm∧nm.owner=some b:=by
 obtain⟨i,x,nm,h1,h2,h3,h4⟩:=h
 by_cases e2:id=i
 ·subst e2;rw[cP] at h1;cases h1;cases h2
 ·rw[aR _ _ e2] at h1;exact⟨i,x,nm,Ne.symm e2,h1,h2,h3,h4⟩
end
theorem adH {xs ys:List Value}{n m sz i:Nat}(h:xs.length=n*sz)(hy:ys.length=m*sz)(hi:i<n+m) :
  (((xs++ys).drop (i*sz)).take sz)=if i<n then(xs.drop (i*sz)).take sz else(ys.drop ((i-n)*sz)).take sz:=by
 split
 ·rename_i aG
  have h5:(i+1)*sz≤n*sz:=Nat.mul_le_mul_right _ aG
  rw[Nat.add_mul] at h5
  rw[List.drop_append_of_le_length (by omega),List.take_append_of_le_length (by simp;omega)]
 ·rename_i kj
  have h5:n*sz≤i*sz:=Nat.mul_le_mul_right _ (by omega)
  rw[List.drop_append,List.drop_eq_nil_of_le (by omega),List.nil_append,h,Nat.sub_mul]
section
variable {X:Cx}{ρ:Env}{st:St}{a:Act}{w:World}
theorem Uf (hX:X.Ok)(hm:Mod X ρ st a w){t e ty:TypeId}{ti te:TI}(ht:X.T t=some ti)(hd:ti.desc=.slice e)(ff:X.T e=some te)(yI:te.zero.cells.size=te.size)(cR:0<te.size)(sS:te.bytes≤1000)
  {v:Value} {n m:Nat} {xs news:List Value} {get aH get':Nat→List SV} (cM:w.ownsRow 0 e te.size v n xs) (oh:n+m≤1000000)
  (kY:∀i,i<n→ai ρ (get i)=some ((xs.drop (i*te.size)).take te.size)) (IU:∀u∈xs,u.oneCell'=true)
  (ki:∀g,v.ownBlock=some g→¬Own ρ (ab st.H) g∧(∀j size n get nm,ab st.H j=some (.ro size n get)→0<n→ρ j=some nm→eX nm≠some g)∧(X.G.M g∨X.G.w0.heap.size≤g)∧¬Fz (ab st.H) g)
  {A:Option Addr} {c:Nat} (hA:0<m→∃ad,A=some ad) (hl:news.length=m*te.size) (Ba:∀u∈news,u.oneCell'=true)
  (EJ:∀i,i<m→ai ρ (aH i)=some ((news.drop (i*te.size)).take te.size)) (hc:∀ad,A=some ad→∀j u,news[j]?=some u→w.cell? (ad.add j)=some u)
  (gS:A=none→m=0)
  (jg:∀i,i<n+m→get' i=if i<n then get i else aH (i-n)) :
  ∃v' w' nm,(Builtin.append_ #[t,t] ty #[v,.slice A m c]).run X.P w=.ok v' w'∧den (aq ρ st.nx nm) (.sl st.nx)=some v' ∧
   Mod X (aq ρ st.nx nm) { st with H:=(st.nx,.vec e te.size (n+m) get')::st.H,nx:=st.nx+1 } a w':=by
 obtain⟨hu,⟨inf,i1,i2,i3,i4⟩,_⟩:=hX.dx t ti ht
 rw[hd] at hu
 obtain⟨hue,⟨B2,j1,j2,j3,j4⟩,_⟩:=hX.dx e te ff
 have cr:∃v' w',(Builtin.append_ #[t,t] ty #[v,.slice A m c]).run X.P w=.ok v' w'∧w'.ownsRow 0 e te.size v' (n+m) (xs++news)∧w.grownBy w' v.ownBlock∧∀g,v'.ownBlock=some g→v.ownBlock=some g∨w.heap.size≤g:=by
  have I0:(n+m)*te.bytes≤140737488355328:=by have:=Nat.mul_le_mul oh sS;omega
  cases A with
  |some ad =>
   obtain⟨v',w',q1,q2,q3,_⟩:=run_append_own (P:=X.P) w 0 t ty e B2 te.zero te.size te.bytes hu j1 j2 j3 j4 yI cR v n xs cM ad m c news hl (hc ad rfl) Ba (by unfold maxLen;omega)
    I0 (Nat.zero_le _)
   refine⟨v',w',q1,q2,q3,λg' Jg=>?_⟩
   rcases cM.2 with⟨rfl,rfl⟩|⟨g,cap,cur,rfl,hbg,hg,s7,jw,pj,aeZ⟩
   ·have hx:xs=[]:=List.eq_nil_of_length_eq_zero (by simpa using cM.1)
    subst hx
    obtain⟨v2,w2,r1,r2,_⟩:=run_append_own (P:=X.P) w w.heap.size t ty e B2 te.zero te.size te.bytes hu j1 j2 j3 j4 yI cR _ 0 [] (World.ownsRow_nil w _ e _) ad m c news hl (hc ad rfl) Ba (by unfold maxLen;omega)
     I0 (Nat.le_refl _)
    rw[q1] at r1;cases r1
    exact .inr (r2.lt g' Jg).1
   ·by_cases uI:n+m≤cap
    ·have dI:n*B2.size+news.length≤cur.size:=by rw[j3,hl,pj,←Nat.add_mul];exact Nat.mul_le_mul_right _ uI
     have hr:=run_append_room (P:=X.P) w t ty e B2 hu j1 g n cap cur hg ad m c news (by rw[j3];exact hl) (hc ad rfl) Ba uI dI
     rw[q1] at hr;cases hr
     exact .inl Jg
    ·have holds:∀j u,xs[j]?=some u→w.cell? ((⟨g,0,none⟩:Addr).add j)=some u:=cM.cells (g:=g) rfl
     have hr:=run_append_grow (P:=X.P) w t ty e B2 te.zero hu j1 j2 ⟨g,0,none⟩ n cap xs (by rw[j3];exact cM.1) holds ad m c news (by rw[j3];exact hl) (hc ad rfl) (by omega) (by omega) (growslice_fits (by omega) (by rw[j4];exact I0))
     rw[q1] at hr;cases hr
     simp[Value.ownBlock] at Jg
     exact .inr (by omega)
  |none =>
   obtain rfl:=gS rfl
   have lB:news=[]:=List.eq_nil_of_length_eq_zero (by rw[hl];simp)
   subst lB
   refine⟨v,w,?_,by simpa using cM,⟨rfl,rfl,rfl,Nat.le_refl _,λ_ _ _=>rfl⟩,λg hg=>.inl hg⟩
   rcases cM.2 with⟨rfl,rfl⟩|⟨g,cap,cur,rfl,_,EL,hle,_⟩
   ·simp[Builtin.append_,run_underlying hu,sizeOf,typeInfo,j1,Builtin.lenOf,Builtin.firstCells]
   ·simp[Builtin.append_,run_underlying hu,sizeOf,typeInfo,j1,Builtin.lenOf,Builtin.firstCells,hle,storeCells]
 obtain⟨v',w',q1,q2,q3,q4⟩:=cr
 have iR:ρ st.nx=none:=hm.nx _ (Nat.le_refl _)
 have Yq:∀i,i<n+m→ai ρ (get' i)=some (((xs++news).drop (i*te.size)).take te.size):=by
  intro i hi
  rw[jg i hi,adH cM.1 hl hi]
  split
  ·exact kY i (by assumption)
  ·exact EJ _ (by omega)
 have cq:∀u∈xs++news,u.oneCell'=true:=λu hu=>(List.mem_append.1 hu).elim (IU u) (Ba u)
 have fin:∀(nm:Nm) (g:Nat),den (aq ρ st.nx nm) (.sl st.nx)=some v'→ao (aq ρ st.nx nm) w' (.vec e te.size (n+m) get') nm→(∀b,nm.owner=some b→b=g)→eX nm=none →
   (v.ownBlock=some g∨(w.heap.size≤g∧v.ownBlock=none)∨(w.heap.size≤g)) →
   Mod X (aq ρ st.nx nm) { st with H:=(st.nx,.vec e te.size (n+m) get')::st.H,nx:=st.nx+1 } a w':=by
  intro nm g uw ap PM kq EK
  have hk:∀k,k<w.heap.size→v.ownBlock≠some k→w'.heap[k]?=w.heap[k]?:=λk hk aV=>q3.block k hk (λe=>aV e.symm)
  have tj:HM ρ (ab st.H) w':=by
   refine⟨λj hb hj=>?_,hm.hm.sep,hm.hm.ro,hm.hm.ax⟩
   obtain⟨ak,h1,h2⟩:=hm.hm.ok j hb hj
   refine⟨ak,h1,vm q3.size ?_ ?_ ?_ h2⟩
   ·intro iF c' im
    have ho:Own ρ (ab st.H) c':=⟨j,hb,ak,hj,iF,h1,im⟩
    exact hk c' (hm.hm.lt ho) (λe=>(ki c' e).1 ho)
   ·intro size n get c' ex fG iG
    subst ex
    cases ak<;>simp only[ao] at h2
    obtain⟨_,_,_,h3⟩:=h2
    obtain⟨ad,vI,aG,_⟩:=h3 fG
    subst vI
    have JJ:=iG
    simp only[eX] at iG;cases iG
    exact hk _ aG (λe=>(ki _ e).2.1 j _ _ _ _ hj fG h1 JJ)
   ·intro size C v2 n2 aH c' ex im fG iG
    subst ex
    have hz:Fz (ab st.H) c':=⟨j,size,C,v2,n2,aH,hj,im,fG,iG⟩
    exact hk _ (hm.hm.sN hz) (λe=>(ki _ e).2.2.2 hz)
  have fV:¬Own ρ (ab st.H) g:=by
   rcases EK with h|h|h
   ·exact(ki g h).1
   ·intro ho;have:=hm.hm.lt ho;omega
   ·intro ho;have:=hm.hm.lt ho;omega
  have Jk:∀j size n get nm,ab st.H j=some (.ro size n get)→0<n→ρ j=some nm→eX nm≠some g:=by
   intro j size n get nm hj hn hr hb
   have aG:g<w.heap.size:=by
    obtain⟨fg,k1,k2⟩:=hm.hm.ok j _ hj
    rw[hr] at k1;cases k1
    cases nm<;>simp only[ao] at k2
    obtain⟨_,_,_,h3⟩:=k2
    obtain⟨ad,vI,aG,_⟩:=h3 hn
    subst vI
    simp only[eX,Option.some.injEq] at hb
    omega
   rcases EK with h|h|h
   ·exact(ki g h).2.1 j size n get nm hj hn hr hb
   ·omega
   ·omega
  have hM:X.G.M g∨X.G.w0.heap.size≤g:=by
   have:=hm.kp.size
   rcases EK with h|h|h
   ·exact(ki g h).2.2.1
   ·exact .inr (by omega)
   ·exact .inr (by omega)
  have EM:¬Fz (ab st.H) g:=by
   rcases EK with h|h|h
   ·exact(ki g h).2.2.2
   ·intro hz;have:=hm.hm.sN hz;omega
   ·intro hz;have:=hm.hm.sN hz;omega
  exact{
   fm:=hm.fm.ext (Ext.aq nm iR)
   gs:=hm.gs
   df:=hm.df.ext (Ext.aq nm iR)
   hm:=by
    have:=tj.add (w':=w') (hb:=.vec e te.size (n+m) get') iR (Nat.le_refl _) (λ_ _ _=>rfl) fV Jk ap PM kq EM
    exact this
   kp:={
    str:=hm.kp.str.trans ⟨q3.os,q3.output⟩
    size:=Nat.le_trans hm.kp.size q3.size
    same:=λb hb sZ=>by
     rw[←hm.kp.same b hb sZ]
     have:=hm.kp.size
     exact hk b (by omega) (λe=>by
      rcases(ki b e).2.2.1 with h|h
      ·exact sZ h
      ·omega)
    own:=λb ho=>by
     rcases Own.cons iR ho with h|h
     ·rw[PM b h];exact hM
     ·exact hm.kp.own b h
    ext:=hm.kp.ext.trans (Ext.aq nm iR)
    fz:=λb hz=>hm.kp.fz b (hz.aq λs C h=>by cases h) }
   nx:=λj hj=>by
    have:st.nx+1≤j:=hj
    rw[bF _ _ (by omega)];exact hm.nx j (by omega)
   sz:=hm.sz }
 rcases q2.2 with⟨rfl,hz⟩|⟨g,cap,cur,rfl,_,EL,hle,jw,dr,ZQ⟩
 ·refine⟨_,w',.sl none 0 0 te.size,q1,by simp[den,cj],fin _ (w.heap.size) (by simp[den,cj]) ⟨rfl,rfl,rfl,hz,rfl⟩ (by intro b hb;cases hb) rfl (.inr (.inr (Nat.le_refl _)))⟩
 ·refine⟨_,w',.row g (n+m) cap te.size,q1,by simp[den,cj],fin _ g (by simp[den,cj]) ?_ (by intro b hb;simpa [Nm.owner] using hb.symm) rfl ?_⟩
  ·refine⟨rfl,rfl,⟨hle,jw⟩,cur.toList,by simpa using EL,by simpa using dr,λi hi=>?_⟩
   have jT:(i+1)*te.size≤(n+m)*te.size:=Nat.mul_le_mul_right _ hi
   rw[Nat.add_mul] at jT
   have hlen:(xs++news).length=(n+m)*te.size:=q2.1
   refine⟨_,fT (Ext.aq _ iR) _ _ (Yq i hi),?_,by simp only[List.length_take,List.length_drop,hlen];omega,λj u hj=>?_⟩
   ·rw[List.all_eq_true]
    intro x hx
    exact cq x (List.mem_of_mem_drop (List.mem_of_mem_take hx))
   ·rw[List.getElem?_take] at hj
    split at hj
    ·rw[List.getElem?_drop,←ZQ,List.getElem?_take] at hj
     split at hj
     ·exact hj
     ·cases hj
    ·cases hj
  ·rcases q4 g rfl with h|h
   ·exact .inl h
   ·exact .inr (.inr h)
end
end Go.X
