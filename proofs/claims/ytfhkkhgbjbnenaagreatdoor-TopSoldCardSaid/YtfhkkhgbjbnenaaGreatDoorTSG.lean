/- Lot: what the program's and the document's grades come to, plain (laws of grade); Lot: broken, Check, Sum. -/
import Derived.Test.YtfhkkhgbjbnenaaGreatDoorTSF
import Derived.Test.YtfhkkhgbjbnenaaGreatDoorTSD
import Derived.Test.YtfhkkhgbjbnenaaGreatDoorTSC

set_option linter.unusedVariables false
set_option linter.unusedSimpArgs false
set_option linter.unusedSectionVars false
set_option maxRecDepth 100000
set_option maxHeartbeats 4000000

namespace Go.X.Gr
open Go Go.Proofs Go.X
theorem Ow {γ α:Type}{f:γ→α→γ × Bool}:∀{a b:List α} {c:γ},dH f c (a++b)=if(dH f c a).2=true then dH f (dH f c a).1 b else dH f c a
 |[],b,c=>rfl
 |x::r,b,c=>by
  cases e:(f c x).2 with
  |true=>rw[List.cons_append,n6 e,n6 e,Ow]
  |false=>rw[List.cons_append,n7 e,n7 e];rfl
theorem AX {γ α β:Type}{h:γ→β→γ × Bool}{m:α→List β}:∀{l:List α} {c:γ},dH (λc x=>dH h c (m x)) c l=dH h c (l.flatMap m)
 |[],c=>rfl
 |x::r,c=>by
  rw[List.flatMap_cons,Ow]
  cases e:(dH h c (m x)).2 with
  |true=>rw[n6 (f:=λc x=>dH h c (m x)) e,if_pos rfl,AX]
  |false =>
   rw[n7 (f:=λc x=>dH h c (m x)) e,if_neg (by decide)]
   rw[←e]
theorem Ox {γ α β:Type}{h:γ→β→γ × Bool}{m:α→β}:∀{l:List α} {c:γ},dH (λc x=>h c (m x)) c l=dH h c (l.map m)
 |[],c=>rfl
 |x::r,c=>by
  rw[List.map_cons]
  cases e:(h c (m x)).2 with
  |true=>rw[n6 (f:=λc x=>h c (m x)) e,n6 e,Ox]
  |false=>rw[n7 (f:=λc x=>h c (m x)) e,n7 e]
theorem Oy {γ α:Type}{f:γ→α→γ × Bool}(h:∀c x,(f c x).2=true):∀{l:List α} {c:γ},dH f c l=(l.foldl (λc x=>(f c x).1) c,true)
 |[],c=>rfl
 |x::r,c=>by rw[n6 (h c x),Oy h];rfl
def f5 {γ:Type}(f:γ→Int→Int→Int→Int→Int→γ × Bool)(c:γ)(b:B5):γ × Bool:=f c b.1 b.2.1 b.2.2.1 b.2.2.2.1 b.2.2.2.2
theorem RK {γ:Type}{f:γ→Int→Int→Int→Int→Int→γ × Bool}{g:aB}{c:γ}:nq f g c=dH (f5 f) c (bO g):=by
 unfold nq bO
 rw[←AX]
 congr 1
 funext c a0
 unfold jB sq
 rw[←AX]
 congr 1
 funext c a1
 unfold jC sr
 rw[←AX]
 congr 1
 funext c a2
 unfold jD sw
 rw[←AX]
 congr 1
 funext c a3
 unfold jE q_
 rw[←Ox]
 rfl
theorem Cp {st a k:Int}:cN st a k=true↔a-k≤st∧k-a≤st:=by
 unfold cN
 rw[Bool.not_eq_true',decide_eq_false_iff_not]
 omega
theorem FG {g:aB}{b:B5}:b∈bO g↔fR g b:=by
 obtain⟨a0,a1,a2,a3,a4⟩:=b
 constructor
 ·intro h
  obtain⟨b0,h0,h⟩:=List.mem_flatMap.1 h
  obtain⟨b1,h1,h⟩:=List.mem_flatMap.1 h
  obtain⟨b2,h2,h⟩:=List.mem_flatMap.1 h
  obtain⟨b3,h3,h⟩:=List.mem_flatMap.1 h
  obtain⟨b4,h4,h⟩:=List.mem_map.1 h
  cases h
  obtain⟨m0,_⟩:=List.mem_filter.1 h0
  obtain⟨m1,f1⟩:=List.mem_filter.1 h1
  obtain⟨m2,f2⟩:=List.mem_filter.1 h2
  obtain⟨m3,f3⟩:=List.mem_filter.1 h3
  obtain⟨m4,f4⟩:=List.mem_filter.1 h4
  simp only[jQ,iE,ik,gR,Bool.and_eq_true,Cp] at f1 f2 f3 f4
  exact⟨mA.1 m0,mA.1 m1,mA.1 m2,mA.1 m3,mA.1 m4,f1,f2.1,f3.1,f4.1.1,f2.2,f3.2,f4.2,f4.1.2⟩
 ·intro h
  refine List.mem_flatMap.2 ⟨a0,List.mem_filter.2 ⟨mA.2 h.r0,rfl⟩,?_⟩
  refine List.mem_flatMap.2 ⟨a1,List.mem_filter.2 ⟨mA.2 h.r1,?_⟩,?_⟩
  ·exact Cp.2 h.tE
  refine List.mem_flatMap.2 ⟨a2,List.mem_filter.2 ⟨mA.2 h.r2,?_⟩,?_⟩
  ·simp only[iE,Bool.and_eq_true,Cp]
   exact⟨h.tF,h.qM⟩
  refine List.mem_flatMap.2 ⟨a3,List.mem_filter.2 ⟨mA.2 h.r3,?_⟩,?_⟩
  ·simp only[ik,Bool.and_eq_true,Cp]
   exact⟨h.tG,h.tK⟩
  refine List.mem_map.2 ⟨a4,List.mem_filter.2 ⟨mA.2 h.r4,?_⟩,rfl⟩
  simp only[gR,Bool.and_eq_true,Cp]
  exact⟨⟨h.tI,h.tJ⟩,h.tL⟩
theorem wq {g:aB}:hasB g=true↔∃b,fR g b:=by
 unfold hasB
 rw[RK]
 cases h:bO g with
 |nil =>
  constructor
  ·intro h1;cases h1
  ·rintro⟨b,hb⟩
   have:=FG.2 hb
   rw[h] at this
   cases this
 |cons b r =>
  constructor
  ·intro _;exact⟨b,FG.1 (h ▸ List.mem_cons_self)⟩
  ·intro _
   rw[n7 (f:=f5 AJ) rfl]
   rfl
def il (F:Int→Int→Int→Int→Int→Int)(b:B5):Int:=F b.1 b.2.1 b.2.2.1 b.2.2.2.1 b.2.2.2.2
def tx (L:Int→Int→Int→Int→Int→Fc)(b:B5):Fc:=L b.1 b.2.1 b.2.2.1 b.2.2.2.1 b.2.2.2.2
theorem adY {κ ν:Type} [DecidableEq κ]{m:List (κ × ν)}{k:κ}{v:ν}{x:κ}:x∈(bN m k v).map (·.1)↔x∈m.map (·.1)∨x=k:=by
 induction m with
 |nil=>simp[bN]
 |cons q r ih =>
  unfold bN
  split
  ·rename_i e
   simp only[List.map_cons,List.mem_cons]
   constructor
   ·rintro(h|h)
    ·exact .inr h
    ·exact .inl (.inr h)
   ·rintro((h|h)|h)
    ·left;first|exact h.trans e|exact h.trans e.symm|(rw[h];exact e)|(rw[h];exact e.symm)
    ·exact .inr h
    ·exact .inl h
  ·simp only[List.map_cons,List.mem_cons,ih,or_assoc]
theorem N6 {L:Int→Int→Int→Int→Int→Fc}{g:aB}{f:Fc}:f∈(rk L g).map (·.1)↔∃b,fR g b∧tx L b=f:=by
 have key:∀(l:List B5) (c:List (Fc × Bool)),f∈(l.foldl (λc b=>(f5 (yf L) c b).1) c).map (·.1)↔f∈c.map (·.1)∨∃b∈l,tx L b=f:=by
  intro l
  induction l with
  |nil=>intro c;simp
  |cons x r ih =>
   intro c
   rw[List.foldl_cons,ih]
   have:f∈((f5 (yf L) c x).1).map (·.1)↔f∈c.map (·.1)∨f=tx L x:=adY
   rw[this]
   constructor
   ·rintro((h|h)|⟨b,hb,e⟩)
    ·exact .inl h
    ·exact .inr ⟨x,List.mem_cons_self,h.symm⟩
    ·exact .inr ⟨b,List.mem_cons_of_mem _ hb,e⟩
   ·rintro(h|⟨b,hb,e⟩)
    ·exact .inl (.inl h)
    ·rcases List.mem_cons.1 hb with rfl|hb
     ·exact .inl (.inr e.symm)
     ·exact .inr ⟨b,hb,e⟩
 unfold rk
 rw[RK,Oy (λ_ _=>rfl)]
 show f∈((bO g).foldl (λc b=>(f5 (yf L) c b).1) []).map (·.1)↔_
 rw[key]
 simp only[List.map_nil,List.not_mem_nil,false_or,FG]
theorem Ld {L:List (Int × Int)}{g:aB}{k:Nat}:(cD L g).testBit k=true↔∃b,fR g b∧cC L (tx kz b)=k:=by
 unfold cD
 rw[Eo,List.any_eq_true]
 constructor
 ·rintro⟨f,hf,e⟩
  obtain⟨b,hb,rfl⟩:=N6.1 hf
  exact⟨b,hb,of_decide_eq_true e⟩
 ·rintro⟨b,hb,e⟩
  exact⟨_,N6.2 ⟨b,hb,rfl⟩,decide_eq_true e⟩
theorem adX (q:Nat):eA (q:Int)=2 ^ (q+1)-1:=by
 unfold eA
 rw[Int.toNat_natCast,Nat.pow_succ]
 omega
theorem SE {L:List (Int × Int)}{g:aB}{q:Nat}:cD L g-(cD L g &&& eA (q:Int))=0↔∀b,fR g b→cC L (tx kz b)≤q:=by
 have hle:cD L g &&& eA (q:Int)≤cD L g:=Nat.and_le_left
 have BO:cD L g-(cD L g &&& eA (q:Int))=0↔cD L g &&& eA (q:Int)=cD L g:=by omega
 rw[BO,adX]
 constructor
 ·intro h b hb
  have h1:(cD L g).testBit (cC L (tx kz b))=true:=Ld.2 ⟨b,hb,rfl⟩
  rw[←h,Nat.testBit_and,Nat.testBit_two_pow_sub_one] at h1
  simp at h1
  omega
 ·intro h
  refine Nat.eq_of_testBit_eq λk=>?_
  rw[Nat.testBit_and,Nat.testBit_two_pow_sub_one]
  cases h1:(cD L g).testBit k with
  |false=>rfl
  |true =>
   obtain⟨b,hb,e⟩:=Ld.1 h1
   have:=h b hb
   simp
   omega
theorem Wm {g:aB}{L:List (Int × Int)}(h:da g L=true):ft g L true=0:=by unfold ft;rw[if_pos h];rfl
theorem AB {g:aB}{L:List (Int × Int)}(h:da g L=true):gl g L true=if hasB g=true then 0 else 10:=by unfold gl;rw[if_pos (Wm h)]
theorem J8 {L:List (Int × Int)}{q:Nat}(hq:q<L.length):qB L (q:Int)=true:=by
 unfold qB aE
 rw[Bool.and_eq_true,decide_eq_true_eq,decide_eq_true_eq]
 omega
theorem acg {g:aB}{L:List (Int × Int)}(h:da g L=true)(hh:hasB g=true):rW g L true=cD (dW L) g:=by unfold rW;rw[AB h,if_pos hh];rfl
theorem Sc {g:aB}{L:List (Int × Int)}(h:da g L=true)(hh:hasB g=true){q:Nat}(hq:q<L.length):qJ g L q=vd (cD (dW L) g) (eA (q:Int)):=by unfold qJ;rw[J8 hq,AB h,if_pos hh];rfl
theorem FC (a0 a1 a2 a3 a4:Int):(a0≤f_ a0 a1 a2 a3 a4∧a1≤f_ a0 a1 a2 a3 a4∧a2≤f_ a0 a1 a2 a3 a4∧a3≤f_ a0 a1 a2 a3 a4∧a4≤f_ a0 a1 a2 a3 a4) ∧
  (f_ a0 a1 a2 a3 a4=a0∨f_ a0 a1 a2 a3 a4=a1∨f_ a0 a1 a2 a3 a4=a2∨f_ a0 a1 a2 a3 a4=a3∨f_ a0 a1 a2 a3 a4=a4):=by
 unfold f_
 obtain⟨x,hx⟩:∃x,max a0 a1=x:=⟨_,rfl⟩
 rw[hx]
 obtain⟨y,hy⟩:∃y,max x a2=y:=⟨_,rfl⟩
 rw[hy]
 obtain⟨z,hz⟩:∃z,max y a3=z:=⟨_,rfl⟩
 rw[hz]
 omega
theorem RD {f:Nat→Int}:∀{n:Nat},0≤kC f n∧∀i,i<n→f i≤kC f n∧0-f i≤kC f n
 |0=>⟨Int.le_refl _,λi hi=>absurd hi (Nat.not_lt_zero _)⟩
 |n+1=>by
  obtain⟨h1,h2⟩:=RD (f:=f) (n:=n)
  have e:kC f (n+1)=max (kC f n) (max (f n-0) (0-f n)):=rfl
  rw[e]
  refine⟨by omega,λi hi=>?_⟩
  by_cases h:i=n
  ·subst h;omega
  ·have:=h2 i (by omega);omega
theorem RE {f:Nat→Int}{c:Int}(hc:0≤c):∀{n:Nat},(∀i,i<n→f i≤c∧0-f i≤c)→kC f n≤c
 |0,_=>hc
 |n+1,h=>by
  have h1:=RE hc (f:=f) (n:=n) λi hi=>h i (by omega)
  have h2:=h n (by omega)
  have e:kC f (n+1)=max (kC f n) (max (f n-0) (0-f n)):=rfl
  rw[e]
  omega
theorem Ti {f:Nat→Int}{o x:Int}:∀{n:Nat},o≤qQ f o x n∧∀k,k<n→x-f k≤qQ f o x n
 |0=>⟨Int.le_refl _,λi hi=>absurd hi (Nat.not_lt_zero _)⟩
 |n+1=>by
  obtain⟨h1,h2⟩:=Ti (f:=f) (o:=o) (x:=x) (n:=n)
  have e:qQ f o x (n+1)=max (qQ f o x n) (x-f n):=rfl
  rw[e]
  refine⟨by omega,λi hi=>?_⟩
  by_cases h:i=n
  ·subst h;omega
  ·have:=h2 i (by omega);omega
theorem Tj {f:Nat→Int}{o x c:Int}(ho:o≤c):∀{n:Nat},(∀k,k<n→x-f k≤c)→qQ f o x n≤c
 |0,_=>ho
 |n+1,h=>by
  have h1:=Tj ho (f:=f) (x:=x) (n:=n) λi hi=>h i (by omega)
  have h2:=h n (by omega)
  have e:qQ f o x (n+1)=max (qQ f o x n) (x-f n):=rfl
  rw[e]
  omega
theorem Tg {f:Nat→Int}{n:Nat}:∀{m:Nat},0≤ld f n m∧∀i k,i<m→k<n→f i-f k≤ld f n m
 |0=>⟨Int.le_refl _,λi k hi=>absurd hi (Nat.not_lt_zero _)⟩
 |m+1=>by
  obtain⟨h1,h2⟩:=Tg (f:=f) (n:=n) (m:=m)
  have e:ld f n (m+1)=qQ f (ld f n m) (f m) n:=rfl
  obtain⟨k1,k2⟩:=Ti (f:=f) (o:=ld f n m) (x:=f m) (n:=n)
  rw[e]
  refine⟨by omega,λi k hi hk=>?_⟩
  by_cases h:i=m
  ·subst h;exact k2 k hk
  ·have:=h2 i k (by omega) hk;omega
theorem Th {f:Nat→Int}{n:Nat}{c:Int}(hc:0≤c):∀{m:Nat},(∀i k,i<m→k<n→f i-f k≤c)→ld f n m≤c
 |0,_=>hc
 |m+1,h=>Tj (Th hc (m:=m) λi k hi hk=>h i k (by omega) hk) λk hk=>h m k (by omega) hk
theorem Ha {b:B5}{i:Nat}(hi:i<5):eg b i=b.1∨eg b i=b.2.1∨eg b i=b.2.2.1∨eg b i=b.2.2.2.1∨eg b i=b.2.2.2.2:=by
 have:i=0∨i=1∨i=2∨i=3∨i=4:=by omega
 rcases this with rfl|rfl|rfl|rfl|rfl<;>simp[eg]
theorem abw {b:B5}:kC (eg b) 5=il pM b:=by
 obtain⟨h0,h⟩:=RD (f:=eg b) (n:=5)
 have g0:=h 0 (by decide);have g1:=h 1 (by decide);have g2:=h 2 (by decide);have g3:=h 3 (by decide);have g4:=h 4 (by decide)
 simp only[eg] at g0 g1 g2 g3 g4
 obtain⟨m1,m2⟩:=FC b.1 b.2.1 b.2.2.1 b.2.2.2.1 b.2.2.2.2
 obtain⟨k1,k2⟩:=FC (0-b.1) (0-b.2.1) (0-b.2.2.1) (0-b.2.2.2.1) (0-b.2.2.2.2)
 have e:il pM b=max (f_ b.1 b.2.1 b.2.2.1 b.2.2.2.1 b.2.2.2.2) (f_ (0-b.1) (0-b.2.1) (0-b.2.2.1) (0-b.2.2.2.1) (0-b.2.2.2.2)):=rfl
 rw[e]
 generalize f_ b.1 b.2.1 b.2.2.1 b.2.2.2.1 b.2.2.2.2=M at m1 m2
 generalize f_ (0-b.1) (0-b.2.1) (0-b.2.2.1) (0-b.2.2.2.1) (0-b.2.2.2.2)=N at k1 k2
 refine Int.le_antisymm (RE (by omega) λi hi=>?_) ?_
 ·have:=Ha (b:=b) hi
  omega
 ·omega
theorem ad7 {b:B5}:ld (eg b) 5 5=il pU b:=by
 obtain⟨h0,h⟩:=Tg (f:=eg b) (n:=5) (m:=5)
 obtain⟨m1,m2⟩:=FC b.1 b.2.1 b.2.2.1 b.2.2.2.1 b.2.2.2.2
 obtain⟨k1,k2⟩:=FC (0-b.1) (0-b.2.1) (0-b.2.2.1) (0-b.2.2.2.1) (0-b.2.2.2.2)
 have e:il pU b=f_ b.1 b.2.1 b.2.2.1 b.2.2.2.1 b.2.2.2.2+f_ (0-b.1) (0-b.2.1) (0-b.2.2.1) (0-b.2.2.2.1) (0-b.2.2.2.2):=rfl
 rw[e]
 generalize f_ b.1 b.2.1 b.2.2.1 b.2.2.2.1 b.2.2.2.2=M at m1 m2
 generalize f_ (0-b.1) (0-b.2.1) (0-b.2.2.1) (0-b.2.2.2.1) (0-b.2.2.2.2)=N at k1 k2
 refine Int.le_antisymm (Th (by omega) λi k hi hk=>?_) ?_
 ·have q1:eg b i≤M:=by have:=Ha (b:=b) hi;omega
  have q2:0-eg b k≤N:=by have:=Ha (b:=b) hk;omega
  omega
 ·obtain⟨i,hi,ei⟩:∃i,i<5∧eg b i=M:=by
   rcases m2 with h|h|h|h|h
   ·exact⟨0,by decide,h.symm⟩
   ·exact⟨1,by decide,h.symm⟩
   ·exact⟨2,by decide,h.symm⟩
   ·exact⟨3,by decide,h.symm⟩
   ·exact⟨4,by decide,h.symm⟩
  obtain⟨k,hk,ek⟩:∃k,k<5∧0-eg b k=N:=by
   rcases k2 with h|h|h|h|h
   ·exact⟨0,by decide,h.symm⟩
   ·exact⟨1,by decide,h.symm⟩
   ·exact⟨2,by decide,h.symm⟩
   ·exact⟨3,by decide,h.symm⟩
   ·exact⟨4,by decide,h.symm⟩
  have:=h i k hi hk
  omega
def o5 (b:B5):Fc:=(kC (eg b) 5,ld (eg b) 5 5)
theorem WJ {b:B5}:o5 b=tx kz b:=by
 unfold o5
 rw[abw,ad7]
 rfl
theorem NV {g:aB}{L:List (Int × Int)}(h:da g L=true):ft g L false=2:=by unfold ft;rw[if_pos h];rfl
theorem aaa {n lo hi:Int}(h:lo≤n∧n≤hi):aE n lo hi=true:=by simp only[aE,Bool.and_eq_true,decide_eq_true_eq];exact h
end Go.X.Gr
namespace Go.X
open Go
section
variable {X:Cx}{st:St}
end
section
variable {X:Cx}{ρ:Env}{st:St}{a:Act}{w:World}
theorem Mod.Rs (hm:Mod X ρ st a w)(s:Nat)(get:Nat→List SV):Mod X (aq ρ st.nx (.sl none 0 0 s)) { st with H:=(st.nx,.ro s 0 get)::st.H,nx:=st.nx+1 } a w:=by
 have hf:ρ st.nx=none:=hm.nx _ (Nat.le_refl _)
 exact{
  fm:=hm.fm.ext (Ext.aq _ hf)
  gs:=hm.gs
  df:=hm.df.ext (Ext.aq _ hf)
  hm:={
   ok:=λj hb hj=>by
    rw[ba] at hj
    by_cases e:st.nx=j
    ·subst e;rw[cP] at hj;cases hj
     exact⟨_,cj _ _ _,rfl,rfl,Nat.le_refl _,λh=>absurd h (Nat.lt_irrefl _)⟩
    ·rw[aR _ _ e] at hj
     obtain⟨nm,h1,h2⟩:=hm.hm.ok j hb hj
     exact⟨nm,by rw[bF _ _ (Ne.symm e)];exact h1,kK (Ext.aq _ hf) h2⟩
   sep:=λi j x y c_ dE b h1 h2 l1 l2 r1 r2 o1 o2=>by
    rw[ba] at h1 h2
    by_cases e1:st.nx=i
    ·subst e1;rw[cj] at r1;cases r1;cases o1
    ·by_cases e2:st.nx=j
     ·subst e2;rw[cj] at r2;cases r2;cases o2
     ·rw[aR _ _ e1] at h1;rw[aR _ _ e2] at h2
      rw[bF _ _ (Ne.symm e1)] at r1;rw[bF _ _ (Ne.symm e2)] at r2
      exact hm.hm.sep i j x y c_ dE b h1 h2 l1 l2 r1 r2 o1 o2
   ro:=λj size n get' nm b hj hn hr hb ho=>by
    rw[ba] at hj
    by_cases e:st.nx=j
    ·subst e;rw[cP] at hj;cases hj;omega
    ·rw[aR _ _ e] at hj
     rw[bF _ _ (Ne.symm e)] at hr
     rcases Own.cons hf ho with h|h
     ·cases h
     ·exact hm.hm.ro j size n get' nm b hj hn hr hb h
   ax:=λb hz ho=>by
    rw[ba] at hz
    rcases Own.cons hf ho with h|h
    ·cases h
    ·exact hm.hm.ax b (hz.aq λs C h=>by cases h) h }
  kp:={
   str:=hm.kp.str
   size:=hm.kp.size
   same:=hm.kp.same
   own:=λb ho=>by
    rcases Own.cons hf ho with h|h
    ·cases h
    ·exact hm.kp.own b h
   ext:=hm.kp.ext.trans (Ext.aq _ hf)
   fz:=λb hz=>hm.kp.fz b (by rw[ba] at hz;exact hz.aq λs C h=>by cases h) }
  nx:=λj hj=>by
   have:st.nx+1≤j:=hj
   rw[bF _ _ (by omega)];exact hm.nx j (by omega)
  sz:=hm.sz }
def S1 (C:Value→Nat→(Nat→List SV)→Prop)(v:Value)(n:Nat)(get:Nat→List SV):Prop :=
 (v=.slice none 0 0∧n=0)∨∃ad c,v=.slice (some ad) n c∧C v n get
end
def LA (F:List (Nat × FE)):List (Nat × FE)→Prop
 |[]=>True
 |(d,e)::r=>(findF F d=some e∧e.gp=[])∧LA F r
theorem Eg {A:List (Nat × FE)}:∀{L:List (Nat × FE)},(∀p∈L,findF A p.1=some p.2)→∀{t:Nat} {e:FE},(findF L t=some e→findF A t=some e∧(t,e)∈L)∧((t,e)∈L→findF L t=some e)
 |[],_,t,e=>⟨λh=>(by cases h),λh=>(by cases h)⟩
 |(d,x)::r,hc,t,e=>by
  have ih:=Eg (A:=A) (L:=r) (λp hp=>hc p (List.mem_cons_of_mem _ hp)) (t:=t) (e:=e)
  have h0:=hc (d,x) List.mem_cons_self
  simp only[findF]
  constructor
  ·intro h
   split at h
   ·rename_i hd
    cases h
    have:d=t:=Nat.eq_of_beq_eq_true hd
    subst this
    exact⟨h0,List.mem_cons_self⟩
   ·obtain⟨h1,h2⟩:=ih.1 h
    exact⟨h1,List.mem_cons_of_mem _ h2⟩
  ·intro h
   split
   ·rename_i hd
    have:d=t:=Nat.eq_of_beq_eq_true hd
    subst this
    have h1:=hc (d,e) h
    rw[h0] at h1
    exact h1
   ·rename_i hd
    rcases List.mem_cons.1 h with h|h
    ·cases h
     rw[Nat.beq_refl] at hd
     exact absurd rfl hd
    ·exact ih.2 h
theorem Rm {X:Cx}{ρ:Env}{A F F':List (Nat × FE)}{gs:List Nat}{H:List (Nat × HB)}{nx aA:Nat}{D:List fE}{a:Act}{w:World}(hA:∀p∈A,findF A p.1=some p.2∧p.2.gp=[])(h1:∀p∈F,p∈A)(h2:∀p∈F',p∈F)(hn:nx≤aA)
  (hm:Mod X ρ ⟨F,gs,H,nx,D⟩ a w):Mod X ρ ⟨F',[],H,aA,D⟩ a w:=by
 have key:∀t e,findF F' t=some e→findF F t=some e∧e.gp=[]:=λt e h=>by
  have m:=((Eg (A:=A) (L:=F') λp hp=>(hA p (h1 p (h2 p hp))).1).1 h).2
  exact⟨(Eg (A:=A) (L:=F) λp hp=>(hA p (h1 p hp)).1).2 (h2 _ m),(hA _ (h1 _ (h2 _ m))).2⟩
 exact{
  fm:=λt e h=>hm.fm t e (key t e h).1
  gs:=λt e h x hx=>by rw[(key t e h).2] at hx;cases hx
  df:=hm.df
  hm:=hm.hm
  kp:=hm.kp
  nx:=λj hj=>hm.nx j (Nat.le_trans hn hj)
  sz:=hm.sz }
def xC:Nat→List (List Bool)
 |0=>[[]]
 |n+1=>(xC n).flatMap λl=>[false::l,true::l]
theorem Kz:∀(l:List Bool),l∈xC l.length
 |[]=>List.mem_cons_self
 |b::r=>by
  refine List.mem_flatMap.2 ⟨r,Kz r,?_⟩
  cases b<;>simp
def nU (bf:Nat→List Nat)(l:List Bool):Bool:=(List.range l.length).all λi=>!(l.getD i false)||(bf i).all λj=>l.getD j false
def iv (dk:Nat→List (Nat × FE))(base:List (Nat × FE))(l:List Bool):List (Nat × FE):=((List.range l.length).flatMap λi=>if l.getD i false=true then dk i else[])++base
theorem rY {dk:Nat→List (Nat × FE)}{base:List (Nat × FE)}{l:List Bool}{p:Nat × FE}:p∈iv dk base l↔(∃i,i<l.length∧l.getD i false=true∧p∈dk i)∨p∈base:=by
 unfold iv
 rw[List.mem_append,List.mem_flatMap]
 constructor
 ·rintro(⟨i,hi,hp⟩|hp)
  ·left
   split at hp
   ·rename_i h
    exact⟨i,List.mem_range.1 hi,h,hp⟩
   ·cases hp
  ·exact .inr hp
 ·rintro(⟨i,hi,h,hp⟩|hp)
  ·exact .inl ⟨i,List.mem_range.2 hi,by rw[if_pos h];exact hp⟩
  ·exact .inr hp
def yO (ops:Array Oper)(m:Nat)(arr:List Bool→Array Bool)(gJ:Nat→Nat)(ex:List Bool→Bool)(bf:Nat→List Nat)(l:List Bool):Bool :=
 !nU bf l||(ex l||(let rs:=Region.ready .any ops (arr l);!rs.isEmpty&&rs.all λo=>(List.range m).any λi=>gJ i == o&&(!(l.getD i true)&&((bf i).all (λj=>l.getD j false)&&(arr l).setIfInBounds o true == arr (l.set i true)))))
section
variable {X:Cx}{st:St}
end
section
variable {X:Cx}{st:St}
theorem acW (de id Tc n size:Nat)(v:Value)(get:Nat→List SV)(cs cs':List SV){C:Value→Nat→(Nat→List SV)→Prop}{c:Code}{K:Ex→St→Prop}(h1:ab st.H id=some (.cells Tc cs))(h2:ab st.H de=some (.ax size C))(hc:S1 C v n get)(hu:o8 st.nx v cs'=cs)
  (h:eQ st λF gs H nx D=>fa (nx+1) λaA=>aX X c ⟨F,gs,(id,.cells Tc cs')::(nx,.ro size n get)::H,aA,D⟩ K):aX X c st K:=by
 intro ρ a w hm
 rw[eG,fw] at h
 have dZ:id≠st.nx:=λe=>by
  obtain⟨nm,h2,_⟩:=hm.hm.ok _ _ h1
  rw[hm.nx id (by omega)] at h2;cases h2
 obtain⟨nm,h3,h4⟩:=hm.hm.ok _ _ h1
 have key:∀ρ',Ext ρ ρ'→Mod X ρ' { st with H:=(st.nx,.ro size n get)::st.H,nx:=st.nx+1 } a w→v.oneCell'=true→den ρ' (.sl st.nx)=some v→(∀j,j≠st.nx→ρ' j=ρ j)→c.wpIn (FW X.r) 0 X.P (sf X K) a w:=by
  intro ρ' hx cI hv hd hs
  have h5:ab ((st.nx,.ro size n get)::st.H) id=some (.cells Tc cs):=by
   rw[ba,aR _ _ (Ne.symm dZ)];exact h1
  refine h _ a w (cI.swap (hb':=.cells Tc cs') h5 rfl (nm:=nm) (by rw[hs id dZ];exact h3) ?_ (λ_ _ _ h=>by cases h))
  have h6:=kK hx h4
  cases nm<;>simp only[ao] at h6 ⊢
  obtain⟨vs,d1,d2,d3⟩:=h6
  exact⟨vs,by rw[←rh hv hd,hu];exact d1,d2,d3⟩
 rcases hc with⟨rfl,rfl⟩|⟨ad,k,rfl,hc⟩
 ·exact key _ (Ext.aq _ (hm.nx _ (Nat.le_refl _))) (hm.Rs size get) rfl (by simp[den,cj]) (λj hj=>bF _ _ hj)
 ·exact key _ (Ext.aq _ (hm.nx _ (Nat.le_refl _))) (hm.focus h2 hc) rfl (by simp[den,cj]) (λj hj=>bF _ _ hj)
end
theorem Vq {ι:Type}{P:Program}{T:cf}{C:Nat→Option Ct}(hX:∀G r nt,(⟨P,T,C,G,r,nt⟩:Cx).Ok){n:Nat}{fn:Func}{c:Code}(hf:P.funcs[n]?=some fn)(hb:fn.body=some c){l:List SV}(hlen:l.length≤fn.ntmps)
  {H:List (Nat × HB)} {nx:Nat} {Rv:SV→List (Nat × HB)→Nat→Prop} {Rp:List PanicEntry→List (Nat × HB)→Nat→Prop} (v':ι→SV) (H':ι→List (Nat × HB)) (aA:Nat)
  (h:∀G:cp,(∀j,nx≤j→G.ρ j=none)→exec ⟨P,T,C,G,none,fn.ntmps⟩ c (start l H nx) (zB ⟨P,T,C,G,none,fn.ntmps⟩ fn.results.toList (λv st=>∃x s,oH nx v st.H st.nx (v' x) (H' x) aA s) (λ_ _=>False)))
  (hk:∀x,Rv (v' x) (H' x) aA):bG P n l H nx Rv Rp:=by
 intro ρ w aM hm aU hd
 refine(HA hX hf hb hlen (Rv:=λv jM jV=>∃x s,oH nx v jM jV (v' x) (H' x) aA s) (Rp:=λ_ _ _=>False) h ρ w aM hm aU hd).mono ?_
 rintro e w' (⟨v,jM,jV,fo,u,rfl,h1,h2,h3,h4,x,s,hs⟩|⟨_,_,_,_,_,_,_,_,hF⟩)
 ·have ck:Mod ⟨P,T,C,⟨w,Own ρ (ab H),ρ,Fz (ab H)⟩,none,0⟩ fo ⟨[],[],jM,jV,[]⟩ { tmps:=#[],defers:=[] } w':={
   fm:=λt e hf=>by cases hf
   gs:=λt e hf=>by cases hf
   df:=trivial
   hm:=h2
   kp:=h3
   nx:=h4
   sz:=rfl }
  have cI:=ck.oz (n0:=nx) (s:=s) (af:=⟨[],[],H' x,aA,[]⟩) ⟨trivial,hs.H,hs.inj,hs.fix,hs.ge,rfl,trivial⟩ aU
  exact .inl ⟨v' x,H' x,aA,_,u,rfl,by rw[ui _ hs.vi,←tR _ _ hs.v];exact h1,cI.hm,cI.kp,cI.nx,hk x⟩
 ·exact hF.elim
theorem Mq:∀{m:Nat} {l:List Bool},l∈xC m→l.length=m
 |0,l,h=>by rw[List.mem_singleton.1 h];rfl
 |m+1,l,h=>by
  obtain⟨l',h1,h2⟩:=List.mem_flatMap.1 h
  have:=Mq h1
  rcases List.mem_cons.1 h2 with rfl|h2
  ·simp[this]
  ·rw[List.mem_singleton.1 h2];simp[this]
section
variable {X:Cx}{ops:List Oper}{A:List Nat}{S:List (Nat × Nat)}{st:St}{acc:List DE}{L:Nat→Bool}{ρ:Env}{a:Act}{w:World}
end
section
variable {X:Cx}{st:St}
end
section
variable {X:Cx}{A A':List Nat}{S:List (Nat × Nat)}{st:St}{acc:List DE}
end
section
variable {X:Cx}{st:St}
end
end Go.X
namespace Go.X
open Go Go.Proofs
variable {P:Program}
end Go.X
namespace Go.X
open Go
section
variable {X:Cx}{ρ:Env}{st:St}{a:Act}{w:World}
theorem Mod.ack (hm:Mod X ρ st a w){bI e size n:Nat}{get:Nat→List SV}(h1:ab st.H bI=some (.vec e size n get)) :
  ∃A c,den ρ (.sl bI)=some (.slice A n c)∧Mod X (aq ρ st.nx (.sl A n c size)) { st with H:=(st.nx,.ro size n get)::(bI,.dead)::st.H,nx:=st.nx+1 } a w:=by
 have hf:ρ st.nx=none:=hm.nx _ (Nat.le_refl _)
 obtain⟨nm,g1,g2⟩:=hm.hm.ok _ _ h1
 have hk:=hm.kill h1
 have key:∃A c,den ρ (.sl bI)=some (.slice A n c)∧ao (aq ρ st.nx (.sl A n c size)) w (.ro size n get) (.sl A n c size)∧∀b,eX (.sl A n c size)=some b→0<n→¬Own ρ (ab ((bI,.dead)::st.H)) b:=by
  cases nm<;>simp only[ao] at g2
  ·obtain⟨rfl,rfl,rfl,rfl,rfl⟩:=g2
   exact⟨none,0,by simp[den,g1],⟨rfl,rfl,Nat.le_refl _,λh=>absurd h (Nat.lt_irrefl _)⟩,λb hb=>by cases hb⟩
  ·rename_i nb n' c s'
   obtain⟨rfl,rfl,hle,cells,d5,d6,d7⟩:=g2
   have aG:nb<w.heap.size:=by
    rcases Nat.lt_or_ge nb w.heap.size with h|h
    ·exact h
    ·rw[Array.getElem?_eq_none h] at d5;cases d5
   refine⟨some ⟨nb,0,none⟩,c,by simp[den,g1],⟨rfl,rfl,hle.1,λ_=>⟨_,rfl,aG,λi hi=>?_⟩⟩,λb hb _ hO=>?_⟩
   ·obtain⟨vs,c1,c2,c3,c4⟩:=d7 i hi
    refine⟨vs,fT (Ext.aq _ hf) _ _ c1,c2,c3,λj v hv=>?_⟩
    rw[lR]
    simp only[World.cell?,d5,List.getElem?_toArray]
    exact c4 j v hv
   ·simp only[eX,Option.some.injEq] at hb
    subst hb
    obtain⟨i',x',ak,q0,q1,q2,q3,q4⟩:=Own.kill hO
    exact q0 (hm.hm.sep i' bI x' _ ak _ nb q1 h1 q2 rfl q3 g1 q4 rfl)
 obtain⟨A,c,hd,ap,fY⟩:=key
 refine⟨A,c,hd,?_⟩
 have ER:=hk.hm
 exact{
  fm:=hm.fm.ext (Ext.aq _ hf)
  gs:=hm.gs
  df:=hm.df.ext (Ext.aq _ hf)
  hm:={
   ok:=λj hb hj=>by
    rw[ba] at hj
    by_cases e:st.nx=j
    ·subst e;rw[cP] at hj;cases hj
     exact⟨_,cj _ _ _,ap⟩
    ·rw[aR _ _ e] at hj
     obtain⟨nm,h1,h2⟩:=ER.ok j hb hj
     exact⟨nm,by rw[bF _ _ (Ne.symm e)];exact h1,kK (Ext.aq _ hf) h2⟩
   sep:=λi j x y c_ dE b h1 h2 l1 l2 r1 r2 o1 o2=>by
    rw[ba] at h1 h2
    by_cases e1:st.nx=i
    ·subst e1;rw[cj] at r1;cases r1;cases o1
    ·by_cases e2:st.nx=j
     ·subst e2;rw[cj] at r2;cases r2;cases o2
     ·rw[aR _ _ e1] at h1;rw[aR _ _ e2] at h2
      rw[bF _ _ (Ne.symm e1)] at r1;rw[bF _ _ (Ne.symm e2)] at r2
      exact ER.sep i j x y c_ dE b h1 h2 l1 l2 r1 r2 o1 o2
   ro:=λj s2 n2 get' nm b hj hn hr hb ho=>by
    rw[ba] at hj
    rcases Own.cons hf ho with h|h
    ·cases h
    by_cases e:st.nx=j
    ·subst e;rw[cP] at hj;cases hj
     rw[cj] at hr;cases hr
     exact fY b hb hn h
    ·rw[aR _ _ e] at hj
     rw[bF _ _ (Ne.symm e)] at hr
     exact ER.ro j s2 n2 get' nm b hj hn hr hb h
   ax:=λb hz ho=>by
    rw[ba] at hz
    rcases Own.cons hf ho with h|h
    ·cases h
    ·exact ER.ax b (hz.aq λ_ _ h=>by cases h) h }
  kp:={
   str:=hm.kp.str
   size:=hm.kp.size
   same:=hm.kp.same
   own:=λb ho=>by
    rcases Own.cons hf ho with h|h
    ·cases h
    ·exact hk.kp.own b h
   ext:=hm.kp.ext.trans (Ext.aq _ hf)
   fz:=λb hz=>hk.kp.fz b (by rw[ba] at hz;exact hz.aq λ_ _ h=>by cases h) }
  nx:=λj hj=>by
   have:st.nx+1≤j:=hj
   rw[bF _ _ (by omega)];exact hm.nx j (by omega)
  sz:=hm.sz }
def zb (id new:Nat):List SV→List SV
 |[]=>[]
 |.sl j::r=>(match Nat.beq j id with
  |true=>.sl new
  |false=>.sl j)::zb id new r
 |x::r=>x::zb id new r
theorem NG {ρ:Env}{id new:Nat}(h:den ρ (.sl new)=den ρ (.sl id)):∀l:List SV,ai ρ (zb id new l)=ai ρ l
 |[]=>rfl
 |x::r=>by
  have ih:=NG h r
  cases x with
  |sl j =>
   simp only[zb]
   split
   ·rename_i e
    have:j=id:=Nat.eq_of_beq_eq_true e
    subst this
    simp only[ai,ih,h]
   ·simp only[ai,ih]
  |_=>simp only[zb,ai,ih]
theorem acX (bI iA Tc e size n:Nat)(get:Nat→List SV)(cs cs':List SV){c:Code}{K:Ex→St→Prop}(h1:ab st.H bI=some (.vec e size n get))(h2:ab st.H iA=some (.cells Tc cs))(hu:zb bI st.nx cs=cs')
  (h:eQ st λF gs H nx D=>fa (nx+1) λaA=>aX X c ⟨F,gs,(iA,.cells Tc cs')::(nx,.ro size n get)::(bI,.dead)::H,aA,D⟩ K):aX X c st K:=by
 intro ρ a w hm
 rw[eG,fw] at h
 obtain⟨A,k,hd,cI⟩:=hm.ack h1
 have hf:ρ st.nx=none:=hm.nx _ (Nat.le_refl _)
 obtain⟨nm,h3,h4⟩:=hm.hm.ok _ _ h2
 have sU:iA≠st.nx:=λe=>by rw[e] at h3;rw[hf] at h3;cases h3
 have pj:iA≠bI:=λe=>by rw[e] at h2;rw[h1] at h2;cases h2
 have h5:ab ((st.nx,.ro size n get)::(bI,.dead)::st.H) iA=some (.cells Tc cs):=by
  rw[ba,aR _ _ (Ne.symm sU),ba,aR _ _ (Ne.symm pj)];exact h2
 have uu:den (aq ρ st.nx (.sl A n k size)) (.sl st.nx)=den (aq ρ st.nx (.sl A n k size)) (.sl bI):=by
  rw[uj (Ext.aq _ hf) _ _ hd]
  simp[den,cj]
 refine h _ a w (cI.swap (hb':=.cells Tc cs') h5 rfl (nm:=nm) (by rw[bF _ _ sU];exact h3) ?_ (λ_ _ _ h=>by cases h))
 have h6:=kK (Ext.aq (.sl A n k size) hf) h4
 cases nm<;>simp only[ao] at h6 ⊢
 obtain⟨vs,d1,d2,d3⟩:=h6
 exact⟨vs,by rw[←hu,NG uu];exact d1,d2,d3⟩
end
def m9 (s:Nat→Nat)(n:Nat):List (Nat × FE)→Prop
 |[]=>True
 |(_,⟨[],v⟩)::r=>(eY v (bX s v)∧dM n v=true)∧m9 s n r
 |_::_=>False
theorem Km {s:Nat→Nat}{n:Nat}:∀{L:List (Nat × FE)},m9 s n L→∀p∈L,p.2.gp=[]∧eY p.2.v (bX s p.2.v)∧dM n p.2.v=true
 |[],_,p,h=>by cases h
 |(_,⟨[],v⟩)::r,hk,p,h=>by
  rcases List.mem_cons.1 h with rfl|h
  ·exact⟨rfl,hk.1⟩
  ·exact Km hk.2 p h
 |(_,⟨_::_,_⟩)::_,hk,p,h=>hk.elim
theorem Tt {s:Nat→Nat}{n:Nat}{F:List (Nat × FE)}:∀{L:List (Nat × FE)},qR s n F L→∀p∈L,p.2.gp=[]∧∃u,findF F p.1=some ⟨[],u⟩∧eY u (bX s p.2.v)∧dM n p.2.v=true
 |[],_,p,h=>by cases h
 |(t,⟨[],v⟩)::r,hk,p,h=>by
  simp only[qR] at hk
  rcases List.mem_cons.1 h with rfl|h
  ·have h1:=hk.1
   split at h1
   ·rename_i u e1
    exact⟨rfl,u,e1,h1.1,h1.2⟩
   ·exact h1.elim
  ·exact Tt hk.2 p h
 |(_,⟨_::_,_⟩)::_,hk,p,h=>by simp only[qR] at hk
theorem Tu {s:Nat→Nat}{n:Nat}{F:List (Nat × FE)}:∀{L:List (Nat × FE)},(∀p∈L,p.2.gp=[]∧∃u,findF F p.1=some ⟨[],u⟩∧eY u (bX s p.2.v)∧dM n p.2.v=true)→qR s n F L
 |[],_=>trivial
 |(t,⟨g,v⟩)::r,h=>by
  obtain⟨h1,u,h2,h3,h4⟩:=h (t,⟨g,v⟩) List.mem_cons_self
  have h1:g=[]:=h1
  subst h1
  simp only[qR]
  rw[h2]
  exact⟨⟨h3,h4⟩,Tu λp hp=>h p (List.mem_cons_of_mem _ hp)⟩
theorem Od {t:Nat}:∀{L:List (Nat × FE)},(∀p∈L,p.1≠t)→∀B,findF (L++B) t=findF B t
 |[],_,B=>rfl
 |(d,x)::r,h,B=>by
  have hd:Nat.beq d t=false:=by
   cases hb:Nat.beq d t with
   |false=>rfl
   |true=>exact absurd (Nat.eq_of_beq_eq_true hb) (h (d,x) List.mem_cons_self)
  show findF ((d,x)::(r++B)) t=_
  simp only[findF,hd]
  exact Od (λq hq=>h q (List.mem_cons_of_mem _ hq)) B
theorem Oc {B:List (Nat × FE)}{t:Nat}{e:FE}:∀{L:List (Nat × FE)},findF L t=some e→findF (L++B) t=some e
 |[],h=>by cases h
 |(d,x)::r,h=>by
  show findF ((d,x)::(r++B)) t=_
  simp only[findF] at h ⊢
  split at h
  ·rename_i hd
   simp only[hd]
   exact h
  ·rename_i hd
   simp only[hd]
   exact Oc h
structure oJ (n0:Nat) (s:Nat→Nat) (N:Nat) (rX sl:List (Nat × FE)) (H' H:List (Nat × HB)) (D:List fE):Prop where
 wF:qR s N rX sl
 key:rX.map (·.1)=sl.map (·.1)
 wH:gN s N H' H
 inj:tp s H=true
 fix:yl s n0=true
 ge:Nat.ble n0 N=true
 wD:GL s N D D
theorem zK {D:List fE}{X:Cx}{ops:Array Oper}{K:Ex→St→Prop}(hX:X.Ok)(m:Nat)(arr:List Bool→Array Bool)(gJ:Nat→Nat)(ex:List Bool→Bool)(dk:Nat→List (Nat × FE))(base:List (Nat × FE))(Hf:List Bool→List (Nat × HB))(mv:List Bool→Nat)(bf:Nat→List Nat)(rest:Nat)(n0:Nat)(hn:∀j,n0≤j→X.G.ρ j=none)
  (Bc:∀i,i<m→∀j∈bf i,j<m) (Be:∀l∈xC m,yO ops m arr gJ ex bf l=true) (hA:LA (iv dk base (List.replicate m true)) (iv dk base (List.replicate m true)))
  (bD:∀i,i<m→∀l:List Bool,l.length=m→l.getD i true=false→(∀j∈bf i,l.getD j false=true)→nU bf l=true→∃o,ops[gJ i]?=some o∧o.guard=none ∧
   ((∀(tail:List (Nat × FE)) (Q:Exit→Act→World→Prop) (Kn:St→Prop),dm X Q Kn (λ_ _=>False)→Kn ⟨dk i++((bf i).flatMap dk++(base++tail)),[],Hf (l.set i true),mv (l.set i true),D⟩ →
    c7 X [o] Q Kn (λ_ _=>False) 0 [o] ⟨(bf i).flatMap dk++(base++tail),[],Hf l,mv l,D⟩) ∨
   ∃(s:Nat→Nat) (rX:List (Nat × FE)) (H':List (Nat × HB)) (aA:Nat),oJ n0 s (mv (l.set i true)) rX (dk i) H' (Hf (l.set i true)) D∧m9 s (mv (l.set i true)) base∧(∀j,j<m→j≠i→m9 s (mv (l.set i true)) (dk j)) ∧
    ∀(tail:List (Nat × FE)) (Q:Exit→Act→World→Prop) (Kn:St→Prop),dm X Q Kn (λ_ _=>False)→Kn ⟨rX++((bf i).flatMap dk++(base++tail)),[],H',aA,D⟩ →
     c7 X [o] Q Kn (λ_ _=>False) 0 [o] ⟨(bf i).flatMap dk++(base++tail),[],Hf l,mv l,D⟩))
  (cK:∀l:List Bool,l.length=m→ex l=true→ie X ops (l.count false+rest) (arr l) ⟨iv dk base l,[],Hf l,mv l,D⟩ K) :
  ∀l:List Bool,l.length=m→nU bf l=true→ie X ops (l.count false+rest) (arr l) ⟨iv dk base l,[],Hf l,mv l,D⟩ K:=by
 have A8:∀p∈iv dk base (List.replicate m true),findF (iv dk base (List.replicate m true)) p.1=some p.2∧p.2.gp=[]:=by
  generalize iv dk base (List.replicate m true)=A at hA
  have:∀L:List (Nat × FE),LA A L→∀p∈L,findF A p.1=some p.2∧p.2.gp=[]:=by
   intro L
   induction L with
   |nil=>intro _ p hp;cases hp
   |cons q r ih =>
    intro h p hp
    obtain⟨d,e⟩:=q
    rcases List.mem_cons.1 hp with rfl|hp
    ·exact h.1
    ·exact ih h.2 p hp
  exact this A hA
 have cq:∀l:List Bool,l.length=m→∀p∈iv dk base l,p∈iv dk base (List.replicate m true):=by
  intro l hl p hp
  rcases rY.1 hp with⟨i,hi,_,h⟩|h
  ·refine rY.2 (.inl ⟨i,by simpa [hl] using hi,?_,h⟩)
   have:i<m:=hl ▸ hi
   simp[List.getD,this]
  ·exact rY.2 (.inr h)
 have main:∀k,∀l:List Bool,l.length=m→nU bf l=true→l.count false=k→ie X ops (k+rest) (arr l) ⟨iv dk base l,[],Hf l,mv l,D⟩ K:=by
  intro k
  induction k with
  |zero =>
   intro l hl bi hk
   have hc:=Be l (hl ▸ Kz l)
   cases he:ex l with
   |true=>have:=cK l hl he;rw[hk] at this;exact this
   |false =>
    unfold yO at hc
    rw[bi,he] at hc
    simp only[Bool.not_true,Bool.false_or,Bool.and_eq_true,Bool.not_eq_true',List.all_eq_true,List.any_eq_true,beq_iff_eq] at hc
    obtain⟨aV,JM⟩:=hc
    cases hr:Region.ready .any ops (arr l) with
    |nil=>rw[hr] at aV;cases aV
    |cons o r =>
     obtain⟨i,ir,-,uC,-⟩:=JM o (by rw[hr];exact List.mem_cons_self)
     have ir:i<m:=List.mem_range.1 ir
     have mg:i<l.length:=by omega
     have Jr:l[i]=false:=by
      rw[List.getD,List.getElem?_eq_getElem mg] at uC
      simpa using uC
     have:false∈l:=Jr ▸ List.getElem_mem mg
     have:=List.count_pos_iff.2 this
     omega
  |succ k ih =>
   intro l hl bi hk
   have hc:=Be l (hl ▸ Kz l)
   cases he:ex l with
   |true=>have:=cK l hl he;rw[hk] at this;exact this
   |false =>
   unfold yO at hc
   rw[bi,he] at hc
   simp only[Bool.not_true,Bool.false_or,Bool.and_eq_true,Bool.not_eq_true',List.all_eq_true,List.any_eq_true,beq_iff_eq] at hc
   obtain⟨aV,JM⟩:=hc
   refine⟨fun ρ a w cL=>?_⟩
   rw[show k+1+rest=(k+rest)+1 by omega]
   refine wpAnyIn_all (rs:=Region.ready .any ops (arr l)) rfl (by intro h;rw[h] at aV;cases aV) λoi hi=>?_
   obtain⟨i,ir,rfl,uC,Jl,rD⟩:=JM oi hi
   have ir:i<m:=List.mem_range.1 ir
   have mg:i<l.length:=by omega
   obtain⟨o,ho,hg,tj⟩:=bD i ir l hl uC Jl bi
   rw[rD]
   have hlen:(l.set i true).length=m:=by rw[List.length_set,hl]
   have Ji:∀j,(l.set i true).getD j false=true↔j=i∨l.getD j false=true:=by
    intro j
    simp only[List.getD,List.getElem?_set]
    by_cases e:i=j
    ·subst e;simp[mg]
    ·simp[e,Ne.symm e]
   have wy:nU bf (l.set i true)=true:=by
    unfold nU at bi ⊢
    rw[List.all_eq_true] at bi ⊢
    intro j hj
    rw[List.length_set] at hj
    have h0:=bi j hj
    cases hd:(l.set i true).getD j false with
    |false=>rfl
    |true =>
     rw[Bool.not_true,Bool.false_or,List.all_eq_true]
     intro q hq
     refine(Ji q).2 ?_
     rcases(Ji j).1 hd with rfl|hd
     ·exact .inr (Jl q hq)
     ·rw[hd] at h0
      rw[Bool.not_true,Bool.false_or,List.all_eq_true] at h0
      exact .inr (h0 q hq)
   have Yt:(l.set i true).count false=k:=by
    have ES:l[i]?=some false:=by
     have:l.getD i true=false:=uC
     rw[List.getD,List.getElem?_eq_getElem mg] at this
     rw[List.getElem?_eq_getElem mg]
     simpa using this
    have Jr:l[i]=false:=by rw[List.getElem?_eq_getElem mg] at ES;simpa using ES
    have:=List.count_set (a:=true) (b:=false) (l:=l) (i:=i) mg
    rw[Jr] at this
    simp at this
    omega
   have Z9:=ih (l.set i true) hlen wy Yt
   have gU:∀p∈(bf i).flatMap dk++(base++iv dk base l),p∈iv dk base l:=by
    intro p hp
    rcases List.mem_append.1 hp with hp|hp
    ·obtain⟨j,hj,hp⟩:=List.mem_flatMap.1 hp
     exact rY.2 (.inl ⟨j,hl ▸ Bc i ir j hj,Jl j hj,hp⟩)
    ·rcases List.mem_append.1 hp with hp|hp
     ·exact rY.2 (.inr hp)
     ·exact hp
   have wI:=Rm (F':=(bf i).flatMap dk++(base++iv dk base l)) A8 (cq l hl) gU (Nat.le_refl _) cL
   refine Lw hX (l:=[gJ i]) (K:=K) (st:=⟨(bf i).flatMap dk++(base++iv dk base l),[],Hf l,mv l,D⟩) ⟨?_,trivial⟩ (gJ i) (List.mem_singleton.2 rfl) ρ a w wI |> λh=>by rw[rD] at h;exact h
   have Za:nth ops.toList (gJ i)=some o:=by rw[jA,Array.getElem?_toList];exact ho
   rw[Za]
   show(match o.guard with
    |none=>_
    |some _=>False)
   rw[hg]
   have iq:ie X ops (k+rest) ((arr l).setIfInBounds (gJ i) true) ⟨dk i++((bf i).flatMap dk++(base++iv dk base l)),[],Hf (l.set i true),mv (l.set i true),D⟩ K:=by
    rw[rD]
    refine⟨fun ρ a w cI=>?_⟩
    refine Z9.h ρ a w (Rm (F:=dk i++((bf i).flatMap dk++(base++iv dk base l))) (nx:=mv (l.set i true)) A8 ?_ ?_ (Nat.le_refl _) cI)
    ·intro p hp
     rcases List.mem_append.1 hp with hp|hp
     ·refine rY.2 (.inl ⟨i,by simpa using ir,?_,hp⟩)
      simp[List.getD,ir]
     ·exact cq l hl p (gU p hp)
    ·intro p hp
     rcases rY.1 hp with⟨j,hj,hd,gV⟩|gV
     ·rw[List.length_set] at hj
      rcases(Ji j).1 hd with e|hd
      ·exact List.mem_append_left _ (e ▸ gV)
      ·exact List.mem_append_right _ (List.mem_append_right _ (List.mem_append_right _ (rY.2 (.inl ⟨j,hj,hd,gV⟩))))
     ·exact List.mem_append_right _ (List.mem_append_right _ (List.mem_append_left _ gV))
   rcases tj with tj|⟨s,rX,H',aA,hN,mi,YS,tj⟩
   ·exact tj _ _ _ bm iq
   ·refine tj _ _ _ bm (ij n0 s hn (af:=⟨dk i++((bf i).flatMap dk++(base++iv dk base l)),[],Hf (l.set i true),mv (l.set i true),D⟩) ?_ iq)
    refine⟨Tu λp hp=>?_,hN.wH,hN.inj,hN.fix,hN.ge,rfl,hN.wD⟩
    have h1:∀p∈dk i,p.2.gp=[]∧∃u,findF (rX++((bf i).flatMap dk++(base++iv dk base l))) p.1=some ⟨[],u⟩∧eY u (bX s p.2.v)∧dM (mv (l.set i true)) p.2.v=true:=λp hp=>by
     obtain⟨q1,u,q2,q3,q4⟩:=Tt hN.wF p hp
     exact⟨q1,u,Oc q2,q3,q4⟩
    rcases List.mem_append.1 hp with hp|hp
    ·exact h1 p hp
    ·have Zk:=cq l hl p (gU p hp)
     by_cases hk:∃q∈rX,q.1=p.1
     ·obtain⟨q,hq,JI⟩:=hk
      have:p.1∈(dk i).map (·.1):=by rw[←hN.key];exact List.mem_map.2 ⟨q,hq,JI⟩
      obtain⟨q2,tg,PS⟩:=List.mem_map.1 this
      have gS:q2∈iv dk base (List.replicate m true):=rY.2 (.inl ⟨i,by simpa using ir,by simp[List.getD,ir],tg⟩)
      have e1:=(A8 _ gS).1
      have e2:=(A8 _ Zk).1
      rw[PS,e2] at e1
      have:p=q2:=Prod.ext PS.symm (Option.some.inj e1)
      exact h1 p (this ▸ tg)
     ·have pw:p.2.gp=[]∧eY p.2.v (bX s p.2.v)∧dM (mv (l.set i true)) p.2.v=true:=by
       rcases rY.1 (gU p hp) with⟨j,hj,hd,gV⟩|gV
       ·refine Km (YS j (hl ▸ hj) ?_) p gV
        rintro rfl
        rw[List.getD,List.getElem?_eq_getElem hj] at uC hd
        simp at uC hd
        rw[uC] at hd;cases hd
       ·exact Km mi p gV
      refine⟨pw.1,p.2.v,?_,pw.2⟩
      rw[Od λq hq JI=>hk ⟨q,hq,JI⟩]
      have e3:findF ((bf i).flatMap dk++(base++iv dk base l)) p.1=some p.2:=(Eg (A:=iv dk base (List.replicate m true)) (L:=(bf i).flatMap dk++(base++iv dk base l)) λq hq=>(A8 q (cq l hl q (gU q hq))).1).2 hp
      rw[e3,←pw.1]
 exact λl hl bi=>main _ l hl bi rfl
end Go.X
namespace Go.X
open Go Go.ChangeShapes Go.WideShapes Go.ChangeAt Go.RowKit
section
variable {X:Cx}{ρ:Env}{st:St}{a:Act}{w:World}
def uM (v:Value)(n:Nat):Prop:=(v=.slice none 0 0∧n=0)∨∃ad c,v=.slice (some ad) n c
theorem uM.one {v:Value}{n:Nat}(h:uM v n):v.oneCell'=true:=by
 rcases h with⟨rfl,_⟩|⟨ad,c,rfl⟩<;>rfl
theorem Lb (id Tc T size:Nat)(get:Nat→List SV)(cs cs':List SV){c:Code}{K:Ex→St→Prop}(h1:ab st.H id=some (.cells Tc cs))(hu:o8 st.nx (.slice none 0 0) cs'=cs)
  (h:eQ st λF gs H nx D=>fa (nx+1) λaA=>aX X c ⟨F,gs,(id,.cells Tc cs')::(nx,.vec T size 0 get)::H,aA,D⟩ K):aX X c st K:=by
 intro ρ a w hm
 rw[eG,fw] at h
 have dZ:id≠st.nx:=λe=>by
  obtain⟨nm,h2,_⟩:=hm.hm.ok _ _ h1
  rw[hm.nx id (by omega)] at h2;cases h2
 obtain⟨nm,h3,h4⟩:=hm.hm.ok _ _ h1
 have hx:Ext ρ (aq ρ st.nx (.sl none 0 0 size)):=Ext.aq _ (hm.nx _ (Nat.le_refl _))
 have cI:=hm.FO T size get
 have hd:den (aq ρ st.nx (.sl none 0 0 size)) (.sl st.nx)=some (.slice none 0 0):=by simp[den,cj]
 have h5:ab ((st.nx,.vec T size 0 get)::st.H) id=some (.cells Tc cs):=by
  rw[ba,aR _ _ (Ne.symm dZ)];exact h1
 refine h _ a w (cI.swap (hb':=.cells Tc cs') h5 rfl (nm:=nm) (by rw[bF _ _ dZ];exact h3) ?_ (λ_ _ _ h=>by cases h))
 have h6:=kK hx h4
 cases nm<;>simp only[ao] at h6 ⊢
 obtain⟨vs,d1,d2,d3⟩:=h6
 exact⟨vs,by rw[←rh rfl hd,hu];exact d1,d2,d3⟩
end
def Mb (P:Program)(f:Nat)(W:World)(aM:List Value):Prop :=
 ∃(ρ:Env) (H:List (Nat × HB)) (l:List SV) (nx:Nat),HM ρ (ab H) W∧(∀b,¬Own ρ (ab H) b)∧(∀j,nx≤j→ρ j=none)∧ai ρ l=some aM∧bG P f l H nx (λv _ _=>v=.sb true) (λ_ _ _=>False)
section
variable {H:Type}{enc:TypeId × Value→H}
end
end Go.X
namespace Go.X
open Go
theorem AU {p:Prop}(h:p:=by repeat' (first|exact trivial|exact rfl|exact List.Perm.refl _|(intro i hi;first|exact⟨rfl,rfl⟩|exact rfl)|(intro v m g h;exact h)|assumption|refine And.intro ?_ ?_)):p:=h
theorem aS {X:Cx}{st:St}{K:Ex→St→Prop}{ops:Array Oper}{fuel:Nat}{listed:Array Bool}(rs:List Nat)(hX:X.Ok)(h:CU X ops fuel listed st K rs)(hr:Region.ready .any ops listed=rs:=by kernel_rfl)(aV:rs≠[]:=by decide):ie X ops (fuel+1) listed st K:=aJ rs hX hr aV h
theorem aT {X:Cx}{st:St}{K:Ex→St→Prop}(i:Nat){d:Nat}{o:Oper}{pre:Option Prop}{v:SV}{ops:Array Oper}{fuel:Nat}{listed:Array Bool}(hX:X.Ok)
  (h:qU pre (eQ st λF gs H nx D=>fX v λv'=>ie X ops fuel (listed.setIfInBounds i true) ⟨(d,⟨[],v'⟩)::F,gs,H,nx,D⟩ K)) (hr:X.r=none:=by rfl) (ho:ops[i]?=some o:=by rfl) (hd:o.dst=some d:=by rfl) (hg:o.guard=none:=by rfl)
  (hc:core X.T (findF st.F) [] (λ_=>none) st.nx o.op=some ⟨pre,v,.no⟩:=by rfl) (s7:rG o.op=none:=by rfl) (hp:eF st.gs X.nt (some d)=false:=by rfl) (hs:Region.noSelect ops=true:=by kernel_rfl) (hf:Region.free .any ops listed i=true:=by kernel_rfl)
  (BK:(Region.ready .any ops listed).contains i=true:=by kernel_rfl):ie X ops (fuel+1) listed st K:=ef i hX hr ho hd hg hc s7 hp hs hf BK h
end Go.X
namespace Go.X.Lt
open Go Go.Proofs Go.X
open Go.X.Gr (aB az au bQ dj ca da hasB cD dW eA aE bZ iC bc bR code fq)
noncomputable abbrev P:Program:=Tryz.prog
def pl:List Nat:=[36,103]
theorem pO:xA P pl:=by
 intro t ht
 simp only[pl,List.mem_cons,List.not_mem_nil,or_false] at ht
 rcases ht with rfl|rfl<;>exact⟨by kernel_rfl,by kernel_rfl,by decide⟩
noncomputable abbrev T:cf:=xn P pl
theorem bP:P.follows .mixedOrders=true:=by kernel_rfl
theorem ah:Good P T []:=⟨ve pO,λp h=>by cases h⟩
structure Lo where
 nL:Nat
 li:Nat→Int × Int
 st:Int
 nB:Nat
 bl:Nat→aB
 nP:Nat
 bE:Nat→Int
 g7:Int
 nO:Nat
 od:Nat→Int × Int
def LL (x:Lo):List (Int × Int):=(List.range x.nL).map x.li
theorem Dd (x:Lo):(LL x).length=x.nL:=by simp[LL]
def gP (x:Lo)(b:Nat):aB:={ x.bl b with st:=x.st }
def gZ (x:Lo):aB:=⟨0,0,0,0,0,0,0,0,0,0,x.st⟩
def gf (x:Lo)(b:Nat):Nat:=cD (dW (LL x)) (gP x b)
def ea (x:Lo)(b n:Nat):Bool:=decide (gf x b-(gf x b &&& eA (n:Int))=0)
structure dp (x:Lo):Prop where
 nB:x.nB≤6
 nO:x.nO≤4
 g7:0≤x.g7∧x.g7≤50
 nP:x.nP=x.nL
 gz:da (gZ x) (LL x)=true
 gb:∀b,b<x.nB→da (gP x b) (LL x)=true
 bE:∀i,i<x.nP→(0≤x.bE i∧x.bE i≤100)∧(0<i→x.bE i≤x.bE (i-1))
 od:∀i,i<x.nO→(0≤(x.od i).1∧(x.od i).1<(x.nL:Int))∧1≤(x.od i).2∧(x.od i).2≤6
 has:∀b,b<x.nB→hasB (gP x b)=true
theorem dp.nL {x:Lo}(h:dp x):1≤x.nL∧x.nL≤4:=by
 have:=h.gz
 simp only[da,Gr.kh,aE,Dd,Bool.and_eq_true,decide_eq_true_eq] at this
 omega
def dG (p:aB):List SV:=[.si .i64 p.l0,.si .i64 p.h0,.si .i64 p.l1,.si .i64 p.h1,.si .i64 p.l2,.si .i64 p.h2,.si .i64 p.l3,.si .i64 p.h3,.si .i64 p.l4,.si .i64 p.h4]
def e_ (i0 i1 i2 i3:Nat)(x:Lo):List SV:=[.sl i0,.si .i64 x.st,.sl i1,.sl i2,.si .i64 x.g7,.sl i3]
def Lf (x:Lo):List SV:=[.sl 0,.si .i64 x.st,.sl 1,.sl 2,.si .i64 x.g7,.sl 3,.sm 4,.sm 5,.sl 6]
def aK (k:Nat × Nat):SV:=.agg [.si .i64 (k.1:Int),.si .i64 (k.2:Int)]
def bV (b:Bool):SV:=.sb b
def iV (z:Int):SV:=.si .i64 z
def nK (n:Nat):SV:=.si .i64 (n:Int)
theorem Dy:kJ bV:=λa=>⟨.bool a,rfl⟩
theorem pG:kJ iV:=λa=>⟨.int .i64 a,rfl⟩
theorem Mo:gB T 103 aK where
 ty:=⟨_,rfl⟩
 vC:=λa=>by kernel_rfl
 eq:=λa b=>by
  have h:l5 T 9 103 (aK a) (aK b)=some (decide ((a.1:Int)=b.1)&&(decide ((a.2:Int)=b.2)&&true)):=by kernel_rfl
  rw[h]
  congr 1
  by_cases h:a=b
  ·subst h;simp
  ·rw[decide_eq_false h]
   simp only[Bool.and_true,Bool.and_eq_false_iff,decide_eq_false_iff_not]
   by_cases h1:(a.1:Int)=b.1
   ·right;intro h2;exact h (Prod.ext (by omega) (by omega))
   ·left;exact h1
 cl:=λa=>⟨.agg #[.int .i64 a.1,.int .i64 a.2],rfl⟩
 same:=λa=>by
  have:cv (aK a)=.agg #[.int .i64 a.1,.int .i64 a.2]:=rfl
  rw[this]
  simp[Instr.sameBits]
theorem nk:gB T 3 nK where
 ty:=⟨_,rfl⟩
 vC:=λa=>by kernel_rfl
 eq:=λa b=>by
  have h:l5 T 9 3 (nK a) (nK b)=some (decide ((a:Int)=b)):=by kernel_rfl
  rw[h]
  congr 1
  by_cases h:a=b
  ·subst h;simp
  ·rw[decide_eq_false h,decide_eq_false (by omega)]
 cl:=λa=>⟨.int .i64 a,rfl⟩
 same:=λa=>by
  have:cv (nK a)=.int .i64 (a:Int):=rfl
  rw[this]
  simp[Instr.sameBits]
def dV (x:Lo)(es:List ((Nat × Nat) × Bool)):Prop:=∀k v,br es k=some v→v=ea x k.1 k.2
def bK (es:List ((Nat × Nat) × Bool)):List (SV × SV):=dT aK bV es
def ey (x:Lo)(es:List ((Nat × Nat) × Bool))(nS:Nat):List (Nat × HB):=[(0,.ro 2 x.nL λi=>az (x.li i)),(1,.ro 10 x.nB λi=>dG (x.bl i)),(2,.ro 1 x.nP λi=>iC (x.bE i)),(3,.ro 2 x.nO λi=>az (x.od i)),(4,.mp (bK es)),(5,.mp []),(6,.vec 3 1 nS λi=>iC ((gf x i:Nat):Int)),(7,.cells 113 (Lf x))]
theorem B9 {l:List (Nat × Ct)}(g:Good P T l):aP P 75 fq:=bq (C:=aC l) g.ok Tryz.func75 (c:=code Tryz.f75) rfl λfr args H out h hp=>by
 simp only[fq,bd] at h
 split at h
 ·cases h
  exact dt rfl (Nat.le_of_ble_eq_true rfl) λG hG=>⟨.inl rfl,cz rfl rfl rfl⟩
 ·cases h
theorem v8 {l:List (Nat × Ct)}(g:Good P T l):Good P T ((75,fq)::l):=g.add (B9 g) (cZ _) (aw Tryz.func75 (c:=code Tryz.f75) rfl (by decide))
theorem k20 {l:List (Nat × Ct)}(g:Good P T l):aP P 20 fq:=bq (C:=aC l) g.ok Tryz.func20 (c:=code Tryz.f20) rfl λfr args H out h hp=>by
 simp only[fq,bd] at h
 split at h
 ·cases h
  exact dt rfl (Nat.le_of_ble_eq_true rfl) λG hG=>⟨.inl rfl,cz rfl rfl rfl⟩
 ·cases h
theorem OM {l:List (Nat × Ct)}(g:Good P T l):Good P T ((20,fq)::l):=g.add (k20 g) (cZ _) (aw Tryz.func20 (c:=code Tryz.f20) rfl (by decide))
def iX (e:Int):List PanicEntry:=[{ v:=kE 143 .i64 e,recovered:=false }]
def lV:Ct:=bd fun
 |[.sb b,.si .i64 e]=>some ⟨none,some (!b,iX e),.bn [],[]⟩
 |_=>none
theorem B7 {l:List (Nat × Ct)}(g:Good P T l):aP P 57 lV:=by
 refine bq (C:=aC _) g.ok Tryz.func57 (c:=code Tryz.f57) rfl λfr args H out h hp=>?_
 simp only[lV,bd] at h
 split at h
 ·rename_i b e
  cases h
  refine dt rfl (Nat.le_of_ble_eq_true rfl) λG hG=>?_
  refine Br.mk (λh=>?_) (λh=>?_)
  ·refine AM aj rfl rfl rfl ?_
   exact⟨by rw[h];rfl,trivial⟩
  ·exact⟨.inr ⟨_,by rw[h]⟩,cz trivial rfl rfl⟩
 ·cases h
theorem v5 {l:List (Nat × Ct)}(g:Good P T l):Good P T ((57,lV)::l):=g.add (B7 g) (cZ _) (aw Tryz.func57 (c:=code Tryz.f57) rfl (by decide))
theorem oR:Body P 36:=aw Tryz.func36 (c:=code Tryz.f36) rfl (by decide)
theorem hV (ρ:Env)(k:IntKind)(m:Int):den ρ (.cg 143 (.agg [.si k m]))=some (kE 143 k m):=by
 simp[den,ai,kE,Value.oneCell']
theorem T6:oF P 35 (kE 143) 47:=by
 refine sh (C:=aC []) (Vs:=λk m=>.cg 143 (.agg [.si k m])) ah.ok hV Tryz.func35 (c:=_) rfl (by decide) rfl rfl rfl rfl rfl rfl (by decide) (by decide) ?_ ?_
 ·intro x G Q hG hC
  refine av (ah.ok _ _ _) hC rfl rfl rfl rfl ⟨oR,cT ah.ok Tryz.func36 (c:=code Tryz.f36) rfl (Nat.le_of_ble_eq_true rfl) λG2 b_=>?_⟩
  exact Br.mk (λh=>rfl) (λh=>by cases h)
 ·intro x k m G Q hG hC
  refine av (ah.ok _ _ _) hC rfl rfl rfl rfl ⟨oR,cT ah.ok Tryz.func36 (c:=code Tryz.f36) rfl (Nat.le_of_ble_eq_true rfl) λG2 b_=>?_⟩
  exact Br.mk (λh=>by cases h) (λ_=>Br.mk (λh=>by cases h) (λ_=>rfl))
theorem T8:oF P 41 (kE 143) 47:=by
 refine sh (C:=aC []) (Vs:=λk m=>.cg 143 (.agg [.si k m])) ah.ok hV Tryz.func41 (c:=_) rfl (by decide) rfl rfl rfl rfl rfl rfl (by decide) (by decide) ?_ ?_
 ·intro x G Q hG hC
  refine av (ah.ok _ _ _) hC rfl rfl rfl rfl ⟨oR,cT ah.ok Tryz.func36 (c:=code Tryz.f36) rfl (Nat.le_of_ble_eq_true rfl) λG2 b_=>?_⟩
  exact Br.mk (λh=>rfl) (λh=>by cases h)
 ·intro x k m G Q hG hC
  refine av (ah.ok _ _ _) hC rfl rfl rfl rfl ⟨oR,cT ah.ok Tryz.func36 (c:=code Tryz.f36) rfl (Nat.le_of_ble_eq_true rfl) λG2 b_=>?_⟩
  exact Br.mk (λh=>by cases h) (λ_=>Br.mk (λh=>by cases h) (λ_=>rfl))
theorem G6:oF P 45 (kE 143) 47:=by
 refine sh (C:=aC []) (Vs:=λk m=>.cg 143 (.agg [.si k m])) ah.ok hV Tryz.func45 (c:=_) rfl (by decide) rfl rfl rfl rfl rfl rfl (by decide) (by decide) ?_ ?_
 ·intro x G Q hG hC
  refine av (ah.ok _ _ _) hC rfl rfl rfl rfl ⟨oR,cT ah.ok Tryz.func36 (c:=code Tryz.f36) rfl (Nat.le_of_ble_eq_true rfl) λG2 b_=>?_⟩
  exact Br.mk (λh=>rfl) (λh=>by cases h)
 ·intro x k m G Q hG hC
  refine av (ah.ok _ _ _) hC rfl rfl rfl rfl ⟨oR,cT ah.ok Tryz.func36 (c:=code Tryz.f36) rfl (Nat.le_of_ble_eq_true rfl) λG2 b_=>?_⟩
  exact Br.mk (λh=>by cases h) (λ_=>Br.mk (λh=>by cases h) (λ_=>rfl))
theorem T9:oF P 47 (kE 143) 47:=by
 refine sh (C:=aC []) (Vs:=λk m=>.cg 143 (.agg [.si k m])) ah.ok hV Tryz.func47 (c:=_) rfl (by decide) rfl rfl rfl rfl rfl rfl (by decide) (by decide) ?_ ?_
 ·intro x G Q hG hC
  refine av (ah.ok _ _ _) hC rfl rfl rfl rfl ⟨oR,cT ah.ok Tryz.func36 (c:=code Tryz.f36) rfl (Nat.le_of_ble_eq_true rfl) λG2 b_=>?_⟩
  exact Br.mk (λh=>rfl) (λh=>by cases h)
 ·intro x k m G Q hG hC
  refine av (ah.ok _ _ _) hC rfl rfl rfl rfl ⟨oR,cT ah.ok Tryz.func36 (c:=code Tryz.f36) rfl (Nat.le_of_ble_eq_true rfl) λG2 b_=>?_⟩
  exact Br.mk (λh=>by cases h) (λ_=>Br.mk (λh=>by cases h) (λ_=>rfl))
theorem T_:oF P 55 (kE 143) 47:=by
 refine sh (C:=aC []) (Vs:=λk m=>.cg 143 (.agg [.si k m])) ah.ok hV Tryz.func55 (c:=_) rfl (by decide) rfl rfl rfl rfl rfl rfl (by decide) (by decide) ?_ ?_
 ·intro x G Q hG hC
  refine av (ah.ok _ _ _) hC rfl rfl rfl rfl ⟨oR,cT ah.ok Tryz.func36 (c:=code Tryz.f36) rfl (Nat.le_of_ble_eq_true rfl) λG2 b_=>?_⟩
  exact Br.mk (λh=>rfl) (λh=>by cases h)
 ·intro x k m G Q hG hC
  refine av (ah.ok _ _ _) hC rfl rfl rfl rfl ⟨oR,cT ah.ok Tryz.func36 (c:=code Tryz.f36) rfl (Nat.le_of_ble_eq_true rfl) λG2 b_=>?_⟩
  exact Br.mk (λh=>by cases h) (λ_=>Br.mk (λh=>by cases h) (λ_=>rfl))
theorem Ua:oF P 58 (kE 143) 47:=by
 refine sh (C:=aC []) (Vs:=λk m=>.cg 143 (.agg [.si k m])) ah.ok hV Tryz.func58 (c:=_) rfl (by decide) rfl rfl rfl rfl rfl rfl (by decide) (by decide) ?_ ?_
 ·intro x G Q hG hC
  refine av (ah.ok _ _ _) hC rfl rfl rfl rfl ⟨oR,cT ah.ok Tryz.func36 (c:=code Tryz.f36) rfl (Nat.le_of_ble_eq_true rfl) λG2 b_=>?_⟩
  exact Br.mk (λh=>rfl) (λh=>by cases h)
 ·intro x k m G Q hG hC
  refine av (ah.ok _ _ _) hC rfl rfl rfl rfl ⟨oR,cT ah.ok Tryz.func36 (c:=code Tryz.f36) rfl (Nat.le_of_ble_eq_true rfl) λG2 b_=>?_⟩
  exact Br.mk (λh=>by cases h) (λ_=>Br.mk (λh=>by cases h) (λ_=>rfl))
theorem XM {l:List (Nat × Ct)}(g:Good P T l):Good P T ((76,Gr.mI)::l):=g.add (Gr.yM Gr.ah) (by first|exact Gr.DH|exact cZ _) (aw Tryz.func76 (c:=code Tryz.f76) rfl (by decide))
theorem XN {l:List (Nat × Ct)}(g:Good P T l):Good P T ((80,Gr.ud)::l):=g.add (Gr.Kc Gr.ah) (by first|exact Gr.U4|exact cZ _) (aw Tryz.func80 (c:=code Tryz.f80) rfl (by decide))
theorem O4 {l:List (Nat × Ct)}(g:Good P T l):Good P T ((16,Gr.nQ)::l):=g.add (Gr.Fo Gr.ah) (by first|exact Gr.DI|exact cZ _) (aw Tryz.func16 (c:=code Tryz.f16) rfl (by decide))
theorem XL {l:List (Nat × Ct)}(g:Good P T l):Good P T ((21,Gr.zY)::l):=g.add (Gr.k40 Gr.ah) (by first|exact Gr.U8|exact cZ _) (aw Tryz.func21 (c:=code Tryz.f21) rfl (by decide))
theorem XK {l:List (Nat × Ct)}(g:Good P T l):Good P T ((17,Gr.nR)::l):=g.add (Gr.Fp Gr.ah) (by first|exact Gr.DL|exact cZ _) (aw Tryz.func17 (c:=code Tryz.f17) rfl (by decide))
section
variable {x:Lo}{es:List ((Nat × Nat) × Bool)}{nS:Nat}{Rv:SV→List (Nat × HB)→Nat→Prop}{Rp:List PanicEntry→List (Nat × HB)→Nat→Prop}
theorem zN:Body P 77:=aw Tryz.func77 (c:=code Tryz.f77) rfl (by decide)
theorem CP {b:Nat}(hb:b<x.nB)(aY:Rv (.agg (bR 0 (gP x b))) (ey x es nS) 8):bG P 77 [.sp 7 0,.si .i64 (b:Int)] (ey x es nS) 8 Rv Rp:=by
 refine eI (ι:=Unit) ah.ok Tryz.func77 (c:=code Tryz.f77) rfl (Nat.le_of_ble_eq_true rfl) (λ_=>.agg (bR 0 (gP x b))) (λ_=>ey x es nS) 8 (λG hG=>?_) (λ_=>aY)
 refine cU (ah.ok _ _ _) bP [0,1,3,7,15,0,32,96,224,480,0,2016,4064,0,8192,24576,57344,122880,262143,524287] [(19,8)] 20 (by kernel_rfl) ?_
 refine aa.mk (show(0:Int)≤(b:Int)∧(b:Int)<(x.nB:Int) from⟨by omega,by omega⟩) ?_
 exact⟨(),λj=>j,AU,AU,rfl,rfl,rfl,rfl⟩
theorem oS:Body P 78:=aw Tryz.func78 (c:=code Tryz.f78) rfl (by decide)
theorem Sq {n:Int}(h:x.nL≤1000)(aY:Rv (.sb (aE n 0 ((x.nL:Int)-1))) (ey x es nS) 8):bG P 78 [.sp 7 0,.si .i64 n] (ey x es nS) 8 Rv Rp:=by
 have g:=v8 ah
 refine eI (ι:=Unit) g.ok Tryz.func78 (c:=code Tryz.f78) rfl (Nat.le_of_ble_eq_true rfl) (λ_=>.sb (aE n 0 ((x.nL:Int)-1))) (λ_=>ey x es nS) 8 (λG hG=>?_) (λ_=>aY)
 refine aa.mk (show ae .i64 ((x.nL:Int)-1) from⟨by omega,by omega⟩) ?_
 exact⟨(),λj=>j,AU,AU,rfl,rfl,rfl,rfl⟩
theorem MO:Body P 79:=aw Tryz.func79 (c:=code Tryz.f79) rfl (by decide)
theorem Sr {n:Int}(h:x.nB≤1000)(aY:Rv (.sb (aE n 0 ((x.nB:Int)-1))) (ey x es nS) 8):bG P 79 [.sp 7 0,.si .i64 n] (ey x es nS) 8 Rv Rp:=by
 have g:=v8 ah
 refine eI (ι:=Unit) g.ok Tryz.func79 (c:=code Tryz.f79) rfl (Nat.le_of_ble_eq_true rfl) (λ_=>.sb (aE n 0 ((x.nB:Int)-1))) (λ_=>ey x es nS) 8 (λG hG=>?_) (λ_=>aY)
 refine aa.mk (show ae .i64 ((x.nB:Int)-1) from⟨by omega,by omega⟩) ?_
 exact⟨(),λj=>j,AU,AU,rfl,rfl,rfl,rfl⟩
end
end Go.X.Lt
namespace Go.X
open Go
section
variable {X:Cx}{st:St}{K:Ex→St→Prop}
def fp (X:Cx)(b:Code)(K:Ex→St→Prop):Ex→St→Prop:=λe st=>match e with
 |.normal=>aX X b st K
 |e=>K e st
def L_ (n:Nat)(K:Ex→St→Prop):Ex→St→Prop:=λe st=>match e with
 |.exit m=>(match Nat.beq m n with
  |true=>K .normal st
  |false=>K (.exit m) st)
 |e=>K e st
theorem fi {x y:Code}(h:aX X x st (fp X y K)):aX X (.seq x y) st K:=by
 intro ρ a w hm
 refine wpIn_seq (wpIn_mono (h ρ a w hm) ?_)
 rintro e a' w' ⟨x',af,ρ',rfl,an,hk⟩
 cases x' with
 |normal=>exact hk ρ' a' w' an
 |ret=>exact⟨.ret,af,ρ',rfl,an,hk⟩
 |exit n=>exact⟨.exit n,af,ρ',rfl,an,hk⟩
 |panic ch=>exact⟨.panic ch,af,ρ',rfl,an,hk⟩
theorem SA {n:Nat}{x:Code}(h:aX X x st (L_ n K)):aX X (.block n x) st K:=by
 intro ρ a w hm
 refine wpIn_block (wpIn_mono (h ρ a w hm) ?_)
 rintro e a' w' ⟨x',af,ρ',rfl,an,hk⟩
 cases x' with
 |normal=>exact⟨.normal,af,ρ',rfl,an,hk⟩
 |ret=>exact⟨.ret,af,ρ',rfl,an,hk⟩
 |panic ch=>exact⟨.panic ch,af,ρ',rfl,an,hk⟩
 |exit m =>
  simp only[L_] at hk
  simp only[Ex.to,Exit.inBlock]
  by_cases rB:m=n
  ·subst rB
   simp only[Nat.beq_refl] at hk
   rw[if_pos rfl]
   exact⟨.normal,af,ρ',rfl,an,hk⟩
  ·have hb:Nat.beq m n=false:=by
    cases ur:Nat.beq m n with
    |false=>rfl
    |true=>exact absurd (Nat.eq_of_beq_eq_true ur) rB
   simp only[hb] at hk
   rw[if_neg rB]
   exact⟨.exit m,af,ρ',rfl,an,hk⟩
theorem Q9 {body:Code}{α:Type}(n0:Nat)(I:α→St)(μ:α→Nat)(hn:∀j,n0≤j→X.G.ρ j=none)(x0:α)(s0:Nat→Nat)
  (h0:tU n0 s0 st (I x0)) (hr:∀x,aX X body (I x) (Me n0 I μ x K)):aX X (.loop body) st K:=by
 intro ρ a w hm
 refine LX (λj a w=>∃x ρ,μ x=j∧Mod X ρ (I x) a w) ⟨x0,_,rfl,hm.oz h0 hn⟩ ?_
 rintro j a' w' ⟨x,ρ',rfl,an⟩
 refine wpIn_mono (hr x ρ' a' w' an) ?_
 rintro e xI jl ⟨y,qO,ic,rfl,fv,hk⟩
 cases y with
 |normal =>
  obtain⟨x',s,h1,h2⟩:=hk
  exact⟨_,h2,x',_,rfl,fv.oz h1 hn⟩
 |ret=>exact⟨.ret,qO,ic,rfl,fv,hk⟩
 |exit n=>exact⟨.exit n,qO,ic,rfl,fv,hk⟩
 |panic ch=>exact⟨.panic ch,qO,ic,rfl,fv,hk⟩
end
section
variable {X:Cx}{ρ:Env}{st:St}{a:Act}{w:World}
end
end Go.X
namespace Go.X.Lt
open Go Go.Proofs Go.X
open Go.X.Gr (aB az au bQ dj ca da hasB cD dW eA aE bZ iC bc bR code fq)
abbrev En:=Int × Int × Int
def j_ (e:En):List SV:=[.si .i64 e.1,.si .i64 e.2.1,.si .i64 e.2.2]
def mw:Bool→Int→HB
 |true,b=>.cells 3 [.si .i64 b]
 |false,_=>.ro 1 0 λ_=>[]
def w9 (f:Bool)(x:Lo)(nE:Nat)(en:Nat→En)(b:Int):List (Nat × HB):=[(0,.ro 2 x.nL λi=>az (x.li i)),(1,.ro 10 x.nB λi=>dG (x.bl i)),(2,.ro 1 x.nP λi=>iC (x.bE i)),(3,.ro 2 x.nO λi=>az (x.od i)),(4,.ro 3 nE λi=>j_ (en i)),(5,mw f b)]
def mo:Bool→SV
 |true=>.fn (.func 82) [] [.sp 5 0]
 |false=>.fn (.func 38) [] []
def Cw (f:Bool)(x:Lo)(nE:Nat)(en:Nat→En)(b:Int):List (Nat × HB):=[(0,.ro 2 x.nL λi=>az (x.li i)),(1,.ro 10 x.nB λi=>dG (x.bl i)),(2,.ro 1 x.nP λi=>iC (x.bE i)),(3,.ro 2 x.nO λi=>az (x.od i)),(4,.ro 3 nE λi=>j_ (en i)),(5,mw f b),
 (6,.mp []),(7,.mp []),(8,.vec 3 1 x.nB λi=>iC ((gf x i:Nat):Int)),(9,.cells 113 [.sl 0,.si .i64 x.st,.sl 1,.sl 2,.si .i64 x.g7,.sl 3,.sm 6,.sm 7,.sl 8])]
theorem vv:Body P 37:=aw Tryz.func37 (c:=code Tryz.f37) rfl (by decide)
theorem Uy:Body P 38:=aw Tryz.func38 (c:=code Tryz.f38) rfl (by decide)
theorem UE:Body P 82:=aw Tryz.func82 (c:=code Tryz.f82) rfl (by decide)
theorem NX {F:Int→Int→Int→Int→Int→Int}{g:aB}{L:List (Int × Int)}(h:da g L=true):Gr.sH F g L (aE (-1) 0 4)=2:=by
 have e:aE (-1) 0 4=false:=by decide
 rw[e]
 unfold Gr.sH
 rw[if_neg (by rw[Gr.NV h];decide),Gr.NV h]
theorem wQ {n lo hi:Int}(h:lo≤n∧n≤hi):aE n lo hi=true:=Gr.aaa h
def y9 (f:Bool)(x:Lo)(nE:Nat)(en:Nat→En)(b:Int)(nS:Nat):List (Nat × HB):=[(0,.ro 2 x.nL λi=>az (x.li i)),(1,.ro 10 x.nB λi=>dG (x.bl i)),(2,.ro 1 x.nP λi=>iC (x.bE i)),(3,.ro 2 x.nO λi=>az (x.od i)),(4,.ro 3 nE λi=>j_ (en i)),(5,mw f b),(6,.cells 27 (e_ 0 1 2 3 x)),
 (7,.mp []),(8,.mp []),(9,.cells 113 [.sl 0,.si .i64 x.st,.sl 1,.sl 2,.si .i64 x.g7,.sl 3,.sm 7,.sm 8,.sl 10]),(10,.vec 3 1 nS λi=>iC ((gf x i:Nat):Int))]
section
variable {x:Lo}{nE:Nat}{en:Nat→En}{b:Int}{Rv:SV→List (Nat × HB)→Nat→Prop}{Rp:List PanicEntry→List (Nat × HB)→Nat→Prop}
theorem ze (f:Bool)(hx:dp x)(hE:nE≤8)(hb:f=true→0≤b∧b≤(x.nB:Int)-1)(Bh:∀i,i<nE→(0≤(en i).1∧(en i).1<(x.nB:Int))∧0≤(en i).2.1∧(en i).2.1<(x.nL:Int))(aY:Rv (.sp 9 0) (Cw f x nE en b) 10):bG P 37 [.agg (e_ 0 1 2 3 x),.sl 4,mo f] (w9 f x nE en b) 6 Rv Rp:=by
 have g:=v8 (v5 (XM (XN ah)))
 have hL:=hx.nL
 have hB:=hx.nB
 have hP:=hx.nP
 have q1:(!(decide ((x.nB:Int)≤6)&&decide ((x.nO:Int)≤4)&&aE x.g7 0 50&&decide ((x.nP:Int)=(x.nL:Int))))=false:=by
  have:=hx.nO
  rw[decide_eq_true (show(x.nB:Int)≤6 by omega),decide_eq_true (show(x.nO:Int)≤4 by omega),wQ hx.g7,decide_eq_true (show(x.nP:Int)=(x.nL:Int) by omega)];rfl
 have q2:(!decide (Gr.sH (Gr.cE (-1)) (gZ x) (LL x) (aE (-1) 0 4)=2))=false:=by rw[NX hx.gz];rfl
 have q4:(!decide ((nE:Int)≤8))=false:=by rw[decide_eq_true (show(nE:Int)≤8 by omega)];rfl
 obtain⟨f',fu⟩:∃f':Bool,f'=f:=⟨_,rfl⟩
 have k0:g_ (λj=>match j with|10=>11|j=>j) 11 (mw f b) (mw f b):=by cases f<;>exact AU
 have k1:g_ (λj=>j) 11 (mw f b) (mw f b):=by cases f<;>exact AU
 have k2:g_ (λj=>j) 11 (mw f b) (mw f' b):=by subst fu;exact k1
 have k3:g_ (λj=>j) 11 (mw f' b) (mw f' b):=by cases f'<;>exact AU
 have k4:g_ (λj=>match j with|10=>12|j=>j) 11 (mw f' b) (mw f' b):=by cases f'<;>exact AU
 have k5:g_ (λj=>match j with|6=>7|7=>8|8=>10|j=>j) 10 (mw f' b) (mw f b):=by subst fu;cases f'<;>exact AU
 clear fu
 have e1:eY (mo f) (bX (λj=>j) (mo f)):=by cases f<;>exact AU
 have e2:eY (mo f) (bX (λj=>match j with|10=>11|j=>j) (mo f)):=by cases f<;>exact AU
 have e3:dM 11 (mo f)=true:=by cases f<;>rfl
 refine eI (ι:=Unit) g.ok Tryz.func37 (c:=code Tryz.f37) rfl (Nat.le_of_ble_eq_true rfl) (λ_=>.sp 9 0) (λ_=>Cw f x nE en b) 10 (λG hG=>?_) (λ_=>aY)
 refine sL (g.ok _ _ _) aj rfl rfl rfl rfl rfl ?_
 refine sL (g.ok _ _ _) aj rfl rfl rfl rfl rfl ?_
 refine Br.mk (λh=>?_) (λ_=>?_)
 ·exact absurd (q1.symm.trans h) (by decide)
 refine aa.mk ⟨dj _ _,by omega⟩ ?_
 refine Br.mk (λh=>?_) (λ_=>?_)
 ·exact absurd (q2.symm.trans h) (by decide)
 refine(show aX _ _ _ _ from ?_)
 refine Lb 9 113 3 1 (λi=>iC ((gf x i:Nat):Int)) _ [.sl 0,.si .i64 x.st,.sl 1,.sl 2,.si .i64 x.g7,.sl 3,.sm 7,.sm 8,.sl 11] rfl rfl ?_
 refine cm (g.ok _ _ _) 6 (λi:{i:Nat // i≤x.nB}=>⟨[(1,⟨[],.sl 4⟩),(2,⟨[],mo f⟩),(3,⟨[],.sp 6 0⟩),(7,⟨[],.sp 9 0⟩),(68,⟨[],.si .i64 (x.nB:Int)⟩),(69,⟨[],.si .i64 (i.1:Int)⟩)],[],y9 f x nE en b 0,11,[]⟩) (λi=>x.nB-i.1) hG ⟨0,Nat.zero_le _⟩ (λj=>match j with|10=>11|j=>j) ?_ ?_
 ·exact⟨AU,AU,rfl,rfl,rfl,rfl,trivial⟩
 rintro⟨i,hi⟩
 have hi:i≤x.nB:=hi
 refine Br.mk (λh=>?_) (λ_=>?_)
 ·have h:(i:Int)<(x.nB:Int):=of_decide_eq_true h
  refine av (g.ok _ _ _) aj rfl rfl rfl rfl ⟨zN,?_⟩
  refine aO [.sp 7 0,.si .i64 (i:Int)] (ey x [] 0) 8 (λj=>match j with|4=>7|5=>8|6=>10|7=>9|j=>j) AU rfl AU rfl rfl ?_
  refine CP (by omega) ⟨rfl,AU,AU,?_⟩
  have q3:(!decide (Gr.sH (Gr.cE (-1)) (gP x i) (LL x) (aE (-1) 0 4)=2))=false:=by rw[NX (hx.gb i (by omega))];rfl
  refine aa.mk ⟨dj _ _,by omega⟩ ?_
  refine Br.mk (λh=>?_) (λ_=>?_)
  ·exact absurd (q3.symm.trans h) (by decide)
  refine aa.mk (show ae .i64 ((i:Int)+1) from⟨by omega,by omega⟩) ⟨⟨i+1,(by omega:i+1≤x.nB)⟩,(λj=>j),⟨AU,AU,rfl,rfl,rfl,rfl,trivial⟩,by show x.nB-(i+1)<x.nB-i;omega⟩
 refine cm (g.ok _ _ _) 6 (λp:{p:Nat × Int // p.1≤x.nP∧(p.1<x.nP→x.bE p.1≤p.2)}=>⟨[(1,⟨[],.sl 4⟩),(2,⟨[],mo f⟩),(3,⟨[],.sp 6 0⟩),(7,⟨[],.sp 9 0⟩),(13,⟨[],.si .i64 p.1.2⟩),(84,⟨[],.sl 2⟩),(85,⟨[],.si .i64 (x.nP:Int)⟩),(86,⟨[],.si .i64 (p.1.1:Int)⟩)],[],y9 f x nE en b 0,11,[]⟩) (λp=>x.nP-p.1.1) hG ⟨(0,100),Nat.zero_le _,λh=>(hx.bE 0 h).1.2⟩ (λj=>j) ?_ ?_
 ·exact⟨AU,AU,rfl,rfl,rfl,rfl,trivial⟩
 rintro⟨⟨i,z⟩,hi,hz⟩
 have hi:i≤x.nP:=hi
 refine Br.mk (λh=>?_) (λ_=>?_)
 ·have h:(i:Int)<(x.nP:Int):=of_decide_eq_true h
  have hp:=hx.bE i (by omega)
  have hz:x.bE i≤z:=hz (show i<x.nP by omega)
  refine aa.mk (show(0:Int)≤(i:Int)∧(i:Int)<(x.nP:Int) from⟨by omega,h⟩) ?_
  have q3:(!aE (x.bE i) 0 z)=false:=by rw[wQ ⟨hp.1.1,hz⟩];rfl
  refine Br.mk (λh=>?_) (λ_=>?_)
  ·exact absurd (q3.symm.trans h) (by decide)
  refine aa.mk (show ae .i64 ((i:Int)+1) from⟨by omega,by omega⟩) ⟨⟨(i+1,x.bE i),(by show i+1≤x.nP;omega),λh'=>by have:=(hx.bE (i+1) h').2 (by omega);simpa using this⟩,(λj=>j),⟨AU,AU,rfl,rfl,rfl,rfl,trivial⟩,by show x.nP-(i+1)<x.nP-i;omega⟩
 refine cm (g.ok _ _ _) 6 (λi:{i:Nat // i≤x.nO}=>⟨[(1,⟨[],.sl 4⟩),(2,⟨[],mo f⟩),(3,⟨[],.sp 6 0⟩),(7,⟨[],.sp 9 0⟩),(97,⟨[],.sl 3⟩),(98,⟨[],.si .i64 (x.nO:Int)⟩),(99,⟨[],.si .i64 (i.1:Int)⟩)],[],y9 f x nE en b 0,11,[]⟩) (λi=>x.nO-i.1) hG ⟨0,Nat.zero_le _⟩ (λj=>j) ?_ ?_
 ·exact⟨AU,AU,rfl,rfl,rfl,rfl,trivial⟩
 rintro⟨i,hi⟩
 have hi:i≤x.nO:=hi
 have hO:=hx.nO
 refine Br.mk (λh=>?_) (λ_=>?_)
 ·have h:(i:Int)<(x.nO:Int):=of_decide_eq_true h
  have hp:=hx.od i (by omega)
  refine aa.mk (show(0:Int)≤(i:Int)∧(i:Int)<(x.nO:Int) from⟨by omega,h⟩) ?_
  refine av (g.ok _ _ _) aj rfl rfl rfl rfl ⟨oS,?_⟩
  refine aO [.sp 7 0,.si .i64 (x.od i).1] (ey x [] 0) 8 (λj=>match j with|4=>7|5=>8|6=>10|7=>9|j=>j) AU rfl AU rfl rfl ?_
  refine Sq (by omega) ⟨rfl,AU,AU,?_⟩
  have q3:(!(aE (x.od i).1 0 ((x.nL:Int)-1)&&aE (x.od i).2 1 6))=false:=by rw[wQ ⟨hp.1.1,by omega⟩,wQ hp.2];rfl
  refine Br.mk (λh=>?_) (λ_=>?_)
  ·exact absurd (q3.symm.trans h) (by decide)
  refine aa.mk (show ae .i64 ((i:Int)+1) from⟨by omega,by omega⟩) ⟨⟨i+1,(by omega:i+1≤x.nO)⟩,(λj=>j),⟨AU,AU,rfl,rfl,rfl,rfl,trivial⟩,by show x.nO-(i+1)<x.nO-i;omega⟩
 refine Br.mk (λh=>?_) (λ_=>?_)
 ·exact absurd (q4.symm.trans h) (by decide)
 have e4:f=true→aE b 0 ((x.nB:Int)-1)=true:=λh=>wQ (hb h)
 cases f
 case' false =>
  refine av (g.ok _ _ _) aj rfl rfl rfl rfl ⟨Uy,cT ah.ok Tryz.func38 (c:=code Tryz.f38) rfl (Nat.le_of_ble_eq_true rfl) λG2 b_=>?_⟩
 case' true =>
  refine av (g.ok _ _ _) aj rfl rfl rfl rfl ⟨UE,cT ah.ok Tryz.func82 (c:=code Tryz.f82) rfl (Nat.le_of_ble_eq_true rfl) λG2 b_=>?_⟩
  refine av (ah.ok _ _ _) aj rfl rfl rfl rfl ⟨MO,?_⟩
  refine aO [.sp 7 0,.si .i64 b] (ey x [] 0) 8 (λj=>match j with|4=>7|5=>8|6=>10|7=>9|j=>j) AU rfl AU rfl rfl ?_
  refine Sr (by omega) ⟨rfl,AU,AU,?_⟩
  have e5:=e4 rfl
 all_goals
  refine(show aX _ _ _ _ from ?_)
  refine kF (af:=⟨[(3,⟨[],.sp 6 0⟩),(7,⟨[],.sp 9 0⟩),(18,⟨[],.sb true⟩),(121,⟨[],.sl 4⟩),(122,⟨[],.si .i64 (nE:Int)⟩),(123,⟨[],.si .i64 0⟩)],[],y9 f' x nE en b 0,11,[]⟩) 6 (λj=>j) hG ⟨AU,AU,rfl,rfl,rfl,rfl,trivial⟩ ?_
  refine cm (g.ok _ _ _) 6 (λi:{i:Nat // i≤nE}=>⟨[(3,⟨[],.sp 6 0⟩),(7,⟨[],.sp 9 0⟩),(18,⟨[],.sb true⟩),(121,⟨[],.sl 4⟩),(122,⟨[],.si .i64 (nE:Int)⟩),(123,⟨[],.si .i64 (i.1:Int)⟩)],[],y9 f' x nE en b 0,11,[]⟩) (λi=>nE-i.1) hG ⟨0,Nat.zero_le _⟩ (λj=>j) ⟨AU,AU,rfl,rfl,rfl,rfl,trivial⟩ ?_
  rintro⟨i,hi⟩
  have hi:i≤nE:=hi
  refine Br.mk (λh=>?_) (λ_=>?_)
  ·have h:(i:Int)<(nE:Int):=of_decide_eq_true h
   have hp:=Bh i (by omega)
   have e5:aE (en i).1 0 ((x.nB:Int)-1)=true:=wQ ⟨hp.1.1,by omega⟩
   have e6:aE (en i).2.1 0 ((x.nL:Int)-1)=true:=wQ ⟨hp.2.1,by omega⟩
   refine aa.mk (show(0:Int)≤(i:Int)∧(i:Int)<(nE:Int) from⟨by omega,h⟩) ?_
   refine AN rfl rfl AU ?_
   refine av (g.ok _ _ _) aj rfl rfl rfl rfl ⟨MO,?_⟩
   refine aO [.sp 7 0,.si .i64 (en i).1] (ey x [] 0) 8 (λj=>match j with|4=>7|5=>8|6=>10|7=>9|j=>j) AU rfl AU rfl rfl ?_
   refine Sr (by omega) ⟨rfl,AU,AU,?_⟩
   refine AN rfl rfl AU ?_
   refine av (g.ok _ _ _) aj rfl rfl rfl rfl ⟨oS,?_⟩
   refine aO [.sp 7 0,.si .i64 (en i).2.1] (ey x [] 0) 8 (λj=>match j with|4=>7|5=>8|6=>10|7=>9|j=>j) AU rfl AU rfl rfl ?_
   refine Sq (by omega) ⟨rfl,AU,AU,?_⟩
   have e7:(true&&aE (en i).1 0 ((x.nB:Int)-1)&&aE (en i).2.1 0 ((x.nL:Int)-1))=true:=by rw[e5,e6];rfl
   refine aa.mk (show ae .i64 ((i:Int)+1) from⟨by omega,by omega⟩) ⟨⟨i+1,(by omega:i+1≤nE)⟩,(λj=>j),⟨AU,AU,rfl,rfl,rfl,rfl,trivial⟩,by show nE-(i+1)<nE-i;omega⟩
  refine Br.mk (λh=>absurd h (by decide)) (λ_=>?_)
  refine cm (g.ok _ _ _) 6 (λi:{i:Nat // i≤x.nB}=>⟨[(3,⟨[],.sp 6 0⟩),(7,⟨[],.sp 9 0⟩),(145,⟨[],.si .i64 (x.nB:Int)⟩),(146,⟨[],.si .i64 (i.1:Int)⟩)],[],y9 f' x nE en b i.1,11,[]⟩) (λi=>x.nB-i.1) hG ⟨0,Nat.zero_le _⟩ (λj=>j) ⟨AU,AU,rfl,rfl,rfl,rfl,trivial⟩ ?_
  rintro⟨i,hi⟩
  have hi:i≤x.nB:=hi
  refine Br.mk (λh=>?_) (λh=>?_)
  ·have h:(i:Int)<(x.nB:Int):=of_decide_eq_true h
   refine av (g.ok _ _ _) aj rfl rfl rfl rfl ⟨zN,?_⟩
   refine aO [.sp 7 0,.si .i64 (i:Int)] (ey x [] i) 8 (λj=>match j with|4=>7|5=>8|6=>10|7=>9|j=>j) AU rfl AU rfl rfl ?_
   refine CP (by omega) ⟨rfl,AU,AU,?_⟩
   have hT:Gr.gl (gP x i) (LL x) true=0:=by rw[Gr.AB (hx.gb i (by omega)),if_pos (hx.has i (by omega))]
   have hS:Gr.rW (gP x i) (LL x) true=gf x i:=Gr.acg (hx.gb i (by omega)) (hx.has i (by omega))
   have q3:(!decide (Gr.gl (gP x i) (LL x) true=0))=false:=by rw[hT];rfl
   refine aa.mk ⟨dj _ _,by omega⟩ ?_
   refine Br.mk (λh=>?_) (λ_=>?_)
   ·exact absurd (q3.symm.trans h) (by decide)
   refine mQ (Te:=0) 10 11 i 1 _ _ (λi=>iC ((gf x i:Nat):Int)) (g.ok _ _ _) aj rfl rfl rfl rfl rfl rfl rfl rfl rfl rfl rfl rfl (by decide) (by decide) rfl rfl rfl rfl (by omega) (λk hk=>?_) ?_
   ·rcases Nat.lt_or_ge k i with h1|h1
    ·rw[if_pos h1]
    ·obtain rfl:k=i:=by omega
     rw[if_neg (by omega),show k-k=0 by omega]
     exact congrArg (λn:Nat=>iC (n:Int)) hS.symm
   refine aa.mk (show ae .i64 ((i:Int)+1) from⟨by omega,by omega⟩) ⟨⟨i+1,(by omega:i+1≤x.nB)⟩,(λj=>match j with|10=>12|j=>j),⟨AU,AU,rfl,rfl,rfl,rfl,trivial⟩,by show x.nB-(i+1)<x.nB-i;omega⟩
  have h:¬(i:Int)<(x.nB:Int):=of_decide_eq_false h
  obtain rfl:i=x.nB:=by omega
  exact⟨(),(λj=>match j with|6=>7|7=>8|8=>10|j=>j),AU,AU,rfl,rfl,rfl,rfl⟩
end
theorem adF {s u:Nat}:decide (Gr.vd s u=2)=decide (s-(s &&& u)=0):=by
 unfold Gr.vd
 by_cases h:s-(s &&& u)=0
 ·rw[if_pos h,decide_eq_true h];rfl
 ·rw[if_neg h,decide_eq_false h]
  split<;>rfl
theorem aci {x:Lo}(hx:dp x){b n:Nat}(hb:b<x.nB)(hn:n<x.nL):Gr.gl (gP x b) (LL x) (Gr.qB (LL x) (n:Int))=0∧decide (Gr.qJ (gP x b) (LL x) (n:Int)=2)=ea x b n:=by
 have h1:=hx.gb b hb
 have h2:=hx.has b hb
 have hl:n<(LL x).length:=by rw[Dd];exact hn
 refine⟨by rw[Gr.J8 hl,Gr.AB h1,if_pos h2],?_⟩
 rw[Gr.Sc h1 h2 hl,adF];rfl
theorem Cj {κ ν:Type} [DecidableEq κ]{k k':κ}{v:ν}:∀{l:List (κ × ν)},br (bN l k v) k'=if k=k' then some v else br l k'
 |[]=>by simp[bN,br]
 |p::l=>by
  have ih:=Cj (k:=k) (k':=k') (v:=v) (l:=l)
  by_cases h:p.1=k
  ·subst h
   by_cases h2:p.1=k'<;>simp[bN,br,h2]
  ·by_cases h2:p.1=k'
   ·subst h2
    simp[bN,br,h,Ne.symm h]
   ·by_cases h3:k=k'
    ·subst h3;simp[bN,br,h,ih]
    ·simp[bN,br,h,h2,h3,ih]
theorem dV.aq {x:Lo}{es:List ((Nat × Nat) × Bool)}(h:dV x es)(k:Nat × Nat):dV x (bN es k (ea x k.1 k.2)):=by
 intro k' v e
 rw[Cj] at e
 split at e
 ·rename_i h1
  cases e;subst h1;rfl
 ·exact h k' v e
theorem xK:Body P 40:=aw Tryz.func40 (c:=code Tryz.f40) rfl (by decide)
section
variable {x:Lo}{es:List ((Nat × Nat) × Bool)}{b n:Nat}{Rv:SV→List (Nat × HB)→Nat→Prop}{Rp:List PanicEntry→List (Nat × HB)→Nat→Prop}
theorem zf (hx:dp x)(hb:b<x.nB)(hn:n<x.nL)(hk:dV x es)(aY:∀a9,dV x a9→Rv (.sb (ea x b n)) (ey x a9 x.nB) 8):bG P 40 [.sp 7 0,.agg [.si .i64 (b:Int),.si .i64 (n:Int)]] (ey x es x.nB) 8 Rv Rp:=by
 have g:=O4 ah
 have hL:=hx.nL
 obtain⟨hT,hS⟩:=aci hx hb hn
 have hV:(decide (Gr.gl (gP x b) (LL x) (Gr.qB (LL x) (n:Int))=0)&&decide (Gr.qJ (gP x b) (LL x) (n:Int)=2))=ea x b n:=by rw[hT,hS];rfl
 have bW:dV x (bN es (b,n) (decide (Gr.gl (gP x b) (LL x) (Gr.qB (LL x) (n:Int))=0)&&decide (Gr.qJ (gP x b) (LL x) (n:Int)=2))):=by rw[hV];exact hk.aq (b,n)
 have YT:∀v,br es (b,n)=some v→v=ea x b n:=λv hv=>hk (b,n) v hv
 refine eI (ι:={a9 // dV x a9}) g.ok Tryz.func40 (c:=code Tryz.f40) rfl (Nat.le_of_ble_eq_true rfl) (λ_=>.sb (ea x b n)) (λa9=>ey x a9.1 x.nB) 8 (λG hG=>?_) (λa9=>aY a9.1 a9.2)
 refine(show aX _ _ _ _ from ?_)
 refine lT bP ?_
 refine ef 0 (g.ok _ _ _) rfl rfl rfl rfl rfl rfl rfl (by kernel_rfl) (by kernel_rfl) (by kernel_rfl) ?_
 refine ef 1 (g.ok _ _ _) rfl rfl rfl rfl rfl rfl rfl (by kernel_rfl) (by kernel_rfl) (by kernel_rfl) ?_
 refine ef 2 (g.ok _ _ _) rfl rfl rfl rfl rfl rfl rfl (by kernel_rfl) (by kernel_rfl) (by kernel_rfl) ?_
 refine aJ [3,4] (g.ok _ _ _) (by kernel_rfl) (by decide) ⟨?d0,?d1,trivial⟩
 case' d0=>refine aJ [4] (g.ok _ _ _) (by kernel_rfl) (by decide) ⟨?_,trivial⟩
 case' d1=>refine aJ [3] (g.ok _ _ _) (by kernel_rfl) (by decide) ⟨?_,trivial⟩
 all_goals
  refine aJ [5] (g.ok _ _ _) (by kernel_rfl) (by decide) ⟨?_,trivial⟩
  refine mR aK bV es (b,n) 4 (g.ok _ _ _) bm rfl rfl rfl rfl rfl rfl rfl rfl rfl Mo Dy rfl rfl rfl (λ_=>⟨λv hv=>?_,λhv=>?_⟩)
  ·have e:=YT v hv
   subst e
   refine ef 6 (g.ok _ _ _) rfl rfl rfl rfl rfl rfl rfl (by kernel_rfl) (by kernel_rfl) (by kernel_rfl) ?_
   refine ef 7 (g.ok _ _ _) rfl rfl rfl rfl rfl rfl rfl (by kernel_rfl) (by kernel_rfl) (by kernel_rfl) ?_
   refine ef 8 (g.ok _ _ _) rfl rfl rfl rfl rfl rfl rfl (by kernel_rfl) (by kernel_rfl) (by kernel_rfl) ?_
   refine ef 9 (g.ok _ _ _) rfl rfl rfl rfl rfl rfl rfl (by kernel_rfl) (by kernel_rfl) (by kernel_rfl) ?_
   refine aJ [10] (g.ok _ _ _) (by kernel_rfl) (by decide) ⟨?_,trivial⟩
   refine j6 (by kernel_rfl) ?_
   refine Br.mk (λh=>absurd h (by decide)) (λ_=>?_)
   exact⟨⟨es,hk⟩,(λj=>j),AU,AU,rfl,rfl,rfl,rfl⟩
  ·refine ef 6 (g.ok _ _ _) rfl rfl rfl rfl rfl rfl rfl (by kernel_rfl) (by kernel_rfl) (by kernel_rfl) ?_
   refine ef 7 (g.ok _ _ _) rfl rfl rfl rfl rfl rfl rfl (by kernel_rfl) (by kernel_rfl) (by kernel_rfl) ?_
   refine ef 8 (g.ok _ _ _) rfl rfl rfl rfl rfl rfl rfl (by kernel_rfl) (by kernel_rfl) (by kernel_rfl) ?_
   refine ef 9 (g.ok _ _ _) rfl rfl rfl rfl rfl rfl rfl (by kernel_rfl) (by kernel_rfl) (by kernel_rfl) ?_
   refine aJ [10] (g.ok _ _ _) (by kernel_rfl) (by decide) ⟨?_,trivial⟩
   refine j6 (by kernel_rfl) ?_
   refine Br.mk (λ_=>?_) (λh=>absurd h (by decide))
   refine(show aX _ _ _ _ from ?_)
   refine lT bP ?_
   refine ef 0 (g.ok _ _ _) rfl rfl rfl rfl rfl rfl rfl (by kernel_rfl) (by kernel_rfl) (by kernel_rfl) ?_
   refine ef 1 (g.ok _ _ _) rfl rfl rfl rfl rfl rfl rfl (by kernel_rfl) (by kernel_rfl) (by kernel_rfl) ?_
   refine ef 4 (g.ok _ _ _) rfl rfl rfl rfl rfl rfl rfl (by kernel_rfl) (by kernel_rfl) (by kernel_rfl) ?_
   refine aJ [2,5] (g.ok _ _ _) (by kernel_rfl) (by decide) ⟨?_,?_,trivial⟩
   rotate_left 1
   refine aJ [2] (g.ok _ _ _) (by kernel_rfl) (by decide) ⟨?_,trivial⟩
   refine aJ [3] (g.ok _ _ _) (by kernel_rfl) (by decide) ⟨?_,trivial⟩
   refine av (g.ok _ _ _) bm rfl rfl rfl rfl ⟨zN,?_⟩
   refine aO [.sp 7 0,.si .i64 (b:Int)] (ey x es x.nB) 8 (λj=>j) AU rfl AU rfl rfl ?_
   refine CP hb ⟨rfl,AU,AU,?_⟩
   rotate_left 1
   refine aJ [3,5] (g.ok _ _ _) (by kernel_rfl) (by decide) ⟨?_,?_,trivial⟩
   rotate_left 1
   refine aJ [3] (g.ok _ _ _) (by kernel_rfl) (by decide) ⟨?_,trivial⟩
   refine av (g.ok _ _ _) bm rfl rfl rfl rfl ⟨zN,?_⟩
   refine aO [.sp 7 0,.si .i64 (b:Int)] (ey x es x.nB) 8 (λj=>j) AU rfl AU rfl rfl ?_
   refine CP hb ⟨rfl,AU,AU,?_⟩
   rotate_left 2
   refine av (g.ok _ _ _) bm rfl rfl rfl rfl ⟨zN,?_⟩
   refine aO [.sp 7 0,.si .i64 (b:Int)] (ey x es x.nB) 8 (λj=>j) AU rfl AU rfl rfl ?_
   refine CP hb ⟨rfl,AU,AU,?_⟩
   refine aJ [5] (g.ok _ _ _) (by kernel_rfl) (by decide) ⟨?_,trivial⟩
   all_goals
    refine aJ [6] (g.ok _ _ _) (by kernel_rfl) (by decide) ⟨?_,trivial⟩
    refine aa.mk ⟨dj _ _,by omega⟩ ?_
    refine ef 7 (g.ok _ _ _) rfl rfl rfl rfl rfl rfl rfl (by kernel_rfl) (by kernel_rfl) (by kernel_rfl) ?_
    refine ef 8 (g.ok _ _ _) rfl rfl rfl rfl rfl rfl rfl (by kernel_rfl) (by kernel_rfl) (by kernel_rfl) ?_
    refine ef 9 (g.ok _ _ _) rfl rfl rfl rfl rfl rfl rfl (by kernel_rfl) (by kernel_rfl) (by kernel_rfl) ?_
    refine ef 10 (g.ok _ _ _) rfl rfl rfl rfl rfl rfl rfl (by kernel_rfl) (by kernel_rfl) (by kernel_rfl) ?_
    refine aJ [11] (g.ok _ _ _) (by kernel_rfl) (by decide) ⟨?_,trivial⟩
    refine j6 (by kernel_rfl) ?_
    refine(show aX _ _ _ _ from ?_)
    refine lT bP ?_
    refine ef 0 (g.ok _ _ _) rfl rfl rfl rfl rfl rfl rfl (by kernel_rfl) (by kernel_rfl) (by kernel_rfl) ?_
    refine ef 1 (g.ok _ _ _) rfl rfl rfl rfl rfl rfl rfl (by kernel_rfl) (by kernel_rfl) (by kernel_rfl) ?_
    refine ef 2 (g.ok _ _ _) rfl rfl rfl rfl rfl rfl rfl (by kernel_rfl) (by kernel_rfl) (by kernel_rfl) ?_
    refine ef 5 (g.ok _ _ _) rfl rfl rfl rfl rfl rfl rfl (by kernel_rfl) (by kernel_rfl) (by kernel_rfl) ?_
    refine aJ [3,4] (g.ok _ _ _) (by kernel_rfl) (by decide) ⟨?_,?_,trivial⟩
    refine aJ [4] (g.ok _ _ _) (by kernel_rfl) (by decide) ⟨?_,trivial⟩
    rotate_left 1
    refine aJ [3] (g.ok _ _ _) (by kernel_rfl) (by decide) ⟨?_,trivial⟩
    all_goals
     refine aJ [6] (g.ok _ _ _) (by kernel_rfl) (by decide) ⟨?_,trivial⟩
     refine mS aK bV es (b,n) (decide (Gr.gl (gP x b) (LL x) (Gr.qB (LL x) (n:Int))=0)&&decide (Gr.qJ (gP x b) (LL x) (n:Int)=2)) _ rfl 4 (g.ok _ _ _) bm rfl (.inl rfl) rfl rfl rfl rfl Mo Dy rfl rfl rfl rfl λ_=>?_
     refine j6 (by kernel_rfl) ?_
     exact⟨⟨_,bW⟩,(λj=>j),AU,AU,rfl,rfl,rfl,rfl⟩
end
end Go.X.Lt
namespace Go.X
open Go
theorem ug {P:Program}{n:Nat}{l l':List SV}{H:List (Nat × HB)}{nx:Nat}{Rv:SV→List (Nat × HB)→Nat→Prop}{Rp:List PanicEntry→List (Nat × HB)→Nat→Prop}(size:Nat)(get:Nat→List SV)
  (hl:∀ρ:Env,ρ nx=some (.sl none 0 0 size)→∀aM,ai ρ l=some aM→ai ρ l'=some aM)
  (h:bG P n l' ((nx,.ro size 0 get)::H) (nx+1) Rv Rp):bG P n l H nx Rv Rp:=by
 refine Ae (fun ρ w hm aU=>?_) h
 have hx:=aU nx (Nat.le_refl _)
 let X:Cx:=⟨P,λ_=>none,λ_=>none,⟨w,Own ρ (ab H),ρ,Fz (ab H)⟩,none,0⟩
 have cL:Mod X ρ ⟨[],[],H,nx,[]⟩ { tmps:=#[],defers:=[] } w:={
  fm:=λt e hf=>by cases hf
  gs:=λt e hf=>by cases hf
  df:=trivial
  hm:=hm
  kp:={ str:=dF.refl _,size:=Nat.le_refl _,same:=λ_ _ _=>rfl,own:=λb h=>.inl h,ext:=Ext.refl ρ,fz:=λb h=>.inr (.inr h) }
  nx:=aU
  sz:=rfl }
 have an:=cL.Rs size get
 refine⟨_,Ext.aq _ hx,an.hm,an.nx,λaM hd=>hl _ (cj ..) _ (fT (Ext.aq _ hx) _ _ hd),?_,?_⟩
 ·rintro b ⟨j,x,ak,h1,h2,h3,h4⟩
  rw[ba] at h1
  by_cases e1:nx=j
  ·subst e1
   rw[cj] at h3;cases h3
   cases h4
  ·rw[aR _ _ e1] at h1
   rw[bF _ _ (Ne.symm e1)] at h3
   exact⟨j,x,ak,h1,h2,h3,h4⟩
 ·rintro b ⟨id,s2,C',v,m',get',q1,q2,q3,q4⟩
  rw[ba] at q1
  by_cases e1:nx=id
  ·subst e1
   rw[cP] at q1;cases q1
  ·rw[aR _ _ e1] at q1
   exact⟨id,s2,C',v,m',get',q1,q2,q3,q4⟩
theorem FP {ρ:Env}{nx s:Nat}{x y:SV}(h:ρ nx=some (.sl none 0 0 s)):∀aM,ai ρ [x,.sv (.slice none 0 0),y]=some aM→ai ρ [x,.sl nx,y]=some aM:=by
 have e:den ρ (.sl nx)=den ρ (.sv (.slice none 0 0)):=by simp[den,h,Value.oneCell']
 intro aM hv;simp only[ai,e] at hv ⊢;exact hv
end Go.X
namespace Go.X.Lt
open Go Go.Proofs Go.X
open Go.X.Gr (aB az au bQ dj ca da hasB cD dW eA aE bZ iC bc bR code fq)
def DD (get:Nat→List SV)(i:Nat):aB:=match get i with
 |[.si .i64 l0,.si .i64 h0,.si .i64 l1,.si .i64 h1,.si .i64 l2,.si .i64 h2,.si .i64 l3,.si .i64 h3,.si .i64 l4,.si .i64 h4]=>⟨l0,h0,l1,h1,l2,h2,l3,h3,l4,h4,0⟩
 |_=>⟨0,0,0,0,0,0,0,0,0,0,0⟩
def TE (n:Nat)(get:Nat→List SV):Prop:=∀i,i<n→get i=dG (DD get i)
def vn (n:Nat)(get:Nat→List SV):Prop:=∀i,i<n→get i=iC (bc get i)
def Cells (n0:Nat)(g0:Nat→List SV)(n1:Nat)(g1:Nat→List SV)(n2:Nat)(g2:Nat→List SV)(n3:Nat)(g3:Nat→List SV):Prop:=bQ n0 g0∧TE n1 g1∧vn n2 g2∧bQ n3 g3
def mq (H:LH)(l:List SV)(K:Lo→Prop→Option cJ):Option cJ:=match l with
 |[.sl i0,.si .i64 st,.sl i1,.sl i2,.si .i64 g7,.sl i3]=>(match cn 2 H i0,cn 10 H i1,cn 1 H i2,cn 2 H i3 with
  |some (n0,g0),some (n1,g1),some (n2,g2),some (n3,g3)=>K ⟨n0,au g0,st,n1,DD g1,n2,bc g2,g7,n3,au g3⟩ (Cells n0 g0 n1 g1 n2 g2 n3 g3)
  |_,_,_,_=>none)
 |_=>none
def jU (i0 i1 i2 i3:Nat)(x:Lo):List (Nat × HB):=[(i0,.ro 2 x.nL λi=>az (x.li i)),(i1,.ro 10 x.nB λi=>dG (x.bl i)),(i2,.ro 1 x.nP λi=>iC (x.bE i)),(i3,.ro 2 x.nO λi=>az (x.od i))]
theorem wX {H:LH}{l:List SV}{K:Lo→Prop→Option cJ}{out:cJ}(h:mq H l K=some out) :
  ∃i0 i1 i2 i3 x C,l=e_ i0 i1 i2 i3 x∧(C→Hand H (jU i0 i1 i2 i3 x))∧K x C=some out:=by
 unfold mq at h
 split at h
 ·split at h
  ·rename_i i0 st i1 i2 g7 i3 _ _ _ _ n0 g0 n1 g1 n2 g2 n3 g3 e0 e1 e2 e3
   refine⟨i0,i1,i2,i3,⟨n0,au g0,st,n1,DD g1,n2,bc g2,g7,n3,au g3⟩,_,rfl,λhC=>?_,h⟩
   obtain⟨h0,h1,h2,h3⟩:=hC
   refine uq ?_ ?_ rfl
   ·exact⟨gK e0 λi hi=>by rw[h0 i hi];rfl,gK e1 λi hi=>by rw[h1 i hi];rfl,gK e2 λi hi=>by rw[h2 i hi];rfl,gK e3 λi hi=>by rw[h3 i hi];rfl,trivial⟩
   ·exact⟨λi hi=>AU,λi hi=>AU,λi hi=>AU,λi hi=>AU,trivial⟩
  ·cases h
 ·cases h
theorem uS {H H':LH}{l:List SV}{K:Lo→Prop→Option cJ}{out:cJ}(hH:∀id hb,H id=some hb→H' id=some hb)(h:mq H l K=some out):mq H' l K=some out:=by
 unfold mq at h ⊢
 split at h
 ·split at h
  ·rename_i e0 e1 e2 e3
   simp only[fk hH e0,fk hH e1,fk hH e2,fk hH e3]
   exact h
  ·cases h
 ·cases h
def H4 (x:Lo):List (Nat × HB):=[(0,.ro 2 x.nL λi=>az (x.li i)),(1,.ro 10 x.nB λi=>dG (x.bl i)),(2,.ro 1 x.nP λi=>iC (x.bE i)),(3,.ro 2 x.nO λi=>az (x.od i))]
def slH (x:Lo)(es:List ((Nat × Nat) × Bool)):List (Nat × HB):=[(0,.ro 2 x.nL λi=>az (x.li i)),(1,.ro 10 x.nB λi=>dG (x.bl i)),(2,.ro 1 x.nP λi=>iC (x.bE i)),(3,.ro 2 x.nO λi=>az (x.od i)),(4,.cells 27 (e_ 0 1 2 3 x)),(5,.cells 47 [.si .i64 0]),
 (6,.mp (bK es)),(7,.mp []),(8,.vec 3 1 x.nB λi=>iC ((gf x i:Nat):Int)),(9,.cells 113 [.sl 0,.si .i64 x.st,.sl 1,.sl 2,.si .i64 x.g7,.sl 3,.sm 6,.sm 7,.sl 8])]
def gy (x:Lo)(b:Nat):Nat:=(List.range x.nL).findIdx (ea x b)
theorem fst_eq {p:Nat→Bool}{n i:Nat}(hi:i<n)(h:p i=true)(hj:∀j,j<i→p j=false):(List.range n).findIdx p=i:=by
 refine(List.findIdx_eq (by simpa using hi)).2 ⟨by simpa using h,λj kZ=>by simpa using hj j kZ⟩
theorem W4 {p:Nat→Bool}{n:Nat}(hj:∀j,j<n→p j=false):(List.range n).findIdx p=n:=by
 have:=List.findIdx_eq_length_of_false (p:=p) (xs:=List.range n) λj gT=>hj j (List.mem_range.1 gT)
 simpa using this
theorem Fq (x:Lo):dV x []:=λk v e=>by cases e
theorem sn:Body P 46:=aw Tryz.func46 (c:=code Tryz.f46) rfl (by decide)
def qd:Ct:=λfr args H=>match args with
 |[.agg l,.si .i64 b]=>mq H l λx C=>some ⟨some (C∧dp x∧0≤b∧b≤(x.nB:Int)-1),none,.bn [.si .i64 (gy x b.toNat:Nat),.si .i64 0],[]⟩
 |_=>none
theorem U2:cY qd:=by
 intro fr args H H' out hH h
 unfold qd at h ⊢
 split at h
 ·exact uS hH h
 ·cases h
theorem Fm:aP P 14 qd:=by
 have g:=ah
 refine sD (C:=aC _) g.ok G6 Tryz.func14 (c:=code Tryz.f14) rfl λfr args H out h hp=>?_
 unfold qd at h
 split at h
 case h_2=>cases h
 rename_i l b
 obtain⟨i0,i1,i2,i3,x,C,rfl,hh,h⟩:=wX h
 cases h
 obtain⟨hC,hx,lq,kW⟩:C∧dp x∧0≤b∧b≤(x.nB:Int)-1:=hp
 refine⟨jU i0 i1 i2 i3 x,[.agg (e_ 0 1 2 3 x),.si .i64 b],H4 x,4,[],rfl,rfl,Nat.le_of_ble_eq_true rfl,hh hC,rfl,rfl,λG hG=>?_⟩
 clear hh hC
 obtain⟨b,rfl⟩:∃n:Nat,b=(n:Int):=⟨b.toNat,by omega⟩
 have hL:=hx.nL
 have IW:b<x.nB:=by omega
 rw[Int.toNat_natCast]
 refine sK 45 5 (g.ok _ _ _) rfl aj rfl rfl rfl rfl rfl rfl rfl ?_
 refine av (g.ok _ _ _) aj rfl rfl rfl rfl ⟨sn,cT ah.ok Tryz.func46 (c:=code Tryz.f46) rfl (Nat.le_of_ble_eq_true rfl) λG2 b_=>?_⟩
 refine av (ah.ok _ _ _) aj rfl rfl rfl rfl ⟨vv,?_⟩
 refine ug 3 (λi=>j_ (0,0,0)) (fun ρ h=>FP h) ?_
 refine aO [.agg (e_ 0 1 2 3 x),.sl 4,mo true] (w9 true x 0 (λ_=>(0,0,0)) b) 6 (λj=>match j with|4=>8|5=>7|j=>j) AU rfl AU rfl rfl ?_
 refine ze true hx (Nat.zero_le _) (λ_=>⟨lq,kW⟩) (λi hi=>absurd hi (Nat.not_lt_zero _)) ⟨rfl,AU,AU,?_⟩
 refine cm (g.ok _ _ _) 4 (λz:{z:Nat × List ((Nat × Nat) × Bool) // (z.1≤x.nL∧∀j,j<z.1→ea x b j=false)∧dV x z.2}=>⟨[(1,⟨[],.si .i64 (b:Int)⟩),(2,⟨[],.sp 4 0⟩),(5,⟨[],.sp 5 0⟩),(6,⟨[],.sp 9 0⟩),(14,⟨[],.si .i64 (x.nL:Int)⟩),(15,⟨[],.si .i64 (z.1.1:Int)⟩)],[],slH x z.1.2,10,[(1000000,[.si .i64 45,.sp 5 0])]⟩) (λz=>x.nL-z.1.1) hG ⟨(0,[]),⟨Nat.zero_le _,λj hj=>absurd hj (Nat.not_lt_zero _)⟩,Fq x⟩ (λj=>match j with|6=>9|7=>10|8=>11|9=>12|j=>j) ?_ ?_
 ·exact⟨AU,AU,rfl,rfl,rfl,rfl,AU⟩
 rintro⟨⟨i,es⟩,⟨hi,fY⟩,hk⟩
 have hi:i≤x.nL:=hi
 have fY:∀j,j<i→ea x b j=false:=fY
 refine Br.mk (λh=>?_) (λh=>?_)
 ·have h:(i:Int)<(x.nL:Int):=of_decide_eq_true h
  refine av (g.ok _ _ _) aj rfl rfl rfl rfl ⟨xK,?_⟩
  refine aO [.sp 7 0,.agg [.si .i64 (b:Int),.si .i64 (i:Int)]] (ey x es x.nB) 8 (λj=>match j with|4=>6|5=>7|6=>8|7=>9|j=>j) AU rfl AU rfl rfl ?_
  refine zf hx IW (by omega) hk λa9 bW=>⟨rfl,AU,AU,?_⟩
  refine Br.mk (λh2=>?_) (λh2=>?_)
  ·have h2:ea x b i=true:=h2
   have e:(i:Int)=((gy x b:Nat):Int):=by rw[gy,fst_eq (by omega) h2 fY]
   exact⟨.inl rfl,bU ⟨⟨rfl,e⟩,AU⟩ rfl rfl AU⟩
  ·have h2:ea x b i=false:=h2
   refine aa.mk (show ae .i64 ((i:Int)+1) from⟨by omega,by omega⟩) ⟨⟨(i+1,a9),⟨(by show i+1≤x.nL;omega),λj hj=>?_⟩,bW⟩,(λj=>j),⟨AU,AU,rfl,rfl,rfl,rfl,AU⟩,by show x.nL-(i+1)<x.nL-i;omega⟩
   rcases Nat.lt_succ_iff_lt_or_eq.1 hj with hj|rfl
   ·exact fY j hj
   ·exact h2
 ·have h:¬(i:Int)<(x.nL:Int):=of_decide_eq_false h
  obtain rfl:i=x.nL:=by omega
  have e:(x.nL:Int)=((gy x b:Nat):Int):=by rw[gy,W4 fY]
  exact⟨.inl rfl,bU ⟨⟨rfl,e⟩,AU⟩ rfl rfl AU⟩
theorem OL {l:List (Nat × Ct)}(g:Good P T l):Good P T ((14,qd)::l):=g.add Fm U2 (aw Tryz.func14 (c:=code Tryz.f14) rfl (by decide))
end Go.X.Lt
namespace Go.X
open Go
section
variable {X:Cx}{ρ:Env}{st:St}{a:Act}{w:World}
theorem WE (de g n c size:Nat)(get:Nat→List SV)(s:SV){C:Value→Nat→(Nat→List SV)→Prop}{ops:List Oper}{i:Nat}{o:Oper}{r:List Oper}{Q:Exit→Act→World→Prop}{K:St→Prop}{Kp:List PanicEntry→St→Prop}{t d:Nat}{ti:TI}
  (hX:X.Ok) (hC:dm X Q K Kp) (hi:ops.drop i=o::r) (hc:o.op=.load t (.global g)) (hg:o.guard=none) (hp:eF st.gs X.nt o.dst=false) (bz:o.dst=some d) (ht:X.T t=some ti)
  (h1:ab st.H de=some (.ax size C)) (h2:C (.slice (some ⟨g,0,none⟩) n c) n get) (hn:0<n) (hl:hU (ig ti.desc) ti.size 0 (get 0)=some s) (hs:dM 0 s=true)
  (h:eQ st λF gs H nx D=>c7 X ops Q K Kp (i+1) r ⟨(d,⟨[],s⟩)::F,gs,H,nx,D⟩):eB X ops Q K Kp i o r st:=by
 refine kg hX hC hi (by rw[hc];intro c h;cases h) hg fun ρ a w hm=>?_
 have hf:=hm.focus h1 h2
 have hd:den (aq ρ st.nx (.sl (some ⟨g,0,none⟩) n c size)) (.se st.nx 0 0)=some (.pointer (some ⟨g,0,none⟩)):=by
  simp[den,cj,hn,Addr.add]
 have Je:ab ((st.nx,HB.ro size n get)::st.H) st.nx=some (.ro size n get):=by rw[ba,cP]
 obtain⟨u,hu,P4⟩:=yR hX.dx hf.hm ht hd (s:=s) (by
  simp only[Je];exact hl)
 have BW:den ρ s=some u:=by
  have h3:=HN (l:=[s]) (vs:=[u]) (by simp only[fM,hs]) (by simp[ai,P4]:ai (aq ρ st.nx (.sl (some ⟨g,0,none⟩) n c size)) [s]=some [u])
  have h4:=fT (ρ':=ρ) (λ_ _ h=>by cases h) _ _ h3
  simp only[ai] at h4
  split at h4
  ·rename_i v vs e1 e2
   cases h4;exact e1
  ·cases h4
 refine⟨u,w,ρ,_,.inl ?_,hm.put (d:=o.dst) (s:=s) hp BW,?_⟩
 ·simp only[execOp,hc];exact cy hu
 ·rw[eG] at h;rw[bz];exact h
theorem Mod.Us (hm:Mod X ρ st a w){id T n s nm:Nat}{cs:List SV}{get:Nat→List SV}(h1:ab st.H id=some (.cells T cs))(oh:ρ id=some (.bO nm))(hlen:cs.length=n*s)(aU:n≤maxLen)(hg:∀i,i<n→(cs.drop (i*s)).take s=get i) :
  Mod X (aq ρ st.nx (.row nm n n s)) { st with H:=(st.nx,.vec T s n get)::(id,.dead)::st.H,nx:=st.nx+1 } a w:=by
 have hf:ρ st.nx=none:=hm.nx _ (Nat.le_refl _)
 have aV:id≠st.nx:=by rintro rfl;rw[hf] at oh;cases oh
 have hk:=hm.kill h1
 have hO:Own ρ (ab st.H) nm:=⟨id,_,_,h1,rfl,oh,rfl⟩
 have fY:¬Own ρ (ab ((id,.dead)::st.H)) nm:=by
  intro hO
  obtain⟨i',x',ak,q0,q1,q2,q3,q4⟩:=Own.kill hO
  exact q0 (hm.hm.sep i' id x' _ ak _ nm q1 h1 q2 rfl q3 oh q4 rfl)
 obtain⟨ak,k1,k2⟩:=hm.hm.ok _ _ h1
 rw[oh] at k1;cases k1
 simp only[ao] at k2
 obtain⟨vs,d1,d2,d3⟩:=k2
 have BS:=j8 d1
 have hx:=Ext.aq (ρ:=ρ) (Nm.row nm n n s) hf
 have ap:ao (aq ρ st.nx (.row nm n n s)) w (.vec T s n get) (.row nm n n s):=by
  refine⟨rfl,rfl,⟨Nat.le_refl _,aU⟩,vs,d3,by omega,λi hi=>?_⟩
  have hle:i*s+s≤n*s:=by
   have:(i+1)*s≤n*s:=Nat.mul_le_mul_right _ hi
   rw[Nat.add_mul] at this;omega
  have e1:=Ap (Am d1 (i*s)) s
  rw[hg i hi] at e1
  refine⟨_,fT hx _ _ e1,?_,by rw[List.length_take,List.length_drop];omega,λj v hv=>?_⟩
  ·rw[List.all_eq_true] at d2 ⊢
   exact λx hx=>d2 x (List.mem_of_mem_drop (List.mem_of_mem_take hx))
  ·rw[List.getElem?_take] at hv
   split at hv
   ·rw[List.getElem?_drop] at hv;exact hv
   ·cases hv
 exact{
  fm:=hm.fm.ext hx
  gs:=hm.gs
  df:=hm.df.ext hx
  hm:={
   ok:=λj hb hj=>by
    rw[ba] at hj
    by_cases e:st.nx=j
    ·subst e;rw[cP] at hj;cases hj
     exact⟨_,cj _ _ _,ap⟩
    ·rw[aR _ _ e] at hj
     obtain⟨fg,q1,q2⟩:=hk.hm.ok j hb hj
     exact⟨fg,by rw[bF _ _ (Ne.symm e)];exact q1,kK hx q2⟩
   sep:=λi j x y c_ dE b q1 q2 l1 l2 r1 r2 o1 o2=>by
    rw[ba] at q1 q2
    by_cases e1:st.nx=i<;>by_cases e2:st.nx=j
    ·exact e1.symm.trans e2
    ·subst e1
     rw[aR _ _ e2] at q2
     rw[cj] at r1;cases r1
     rw[bF _ _ (Ne.symm e2)] at r2
     cases o1
     exact absurd ⟨j,y,dE,q2,l2,r2,o2⟩ fY
    ·subst e2
     rw[aR _ _ e1] at q1
     rw[cj] at r2;cases r2
     rw[bF _ _ (Ne.symm e1)] at r1
     cases o2
     exact absurd ⟨i,x,c_,q1,l1,r1,o1⟩ fY
    ·rw[aR _ _ e1] at q1;rw[aR _ _ e2] at q2
     rw[bF _ _ (Ne.symm e1)] at r1;rw[bF _ _ (Ne.symm e2)] at r2
     exact hk.hm.sep i j x y c_ dE b q1 q2 l1 l2 r1 r2 o1 o2
   ro:=λj s2 n2 get' fg b hj hn hr hb ho=>by
    rw[ba] at hj
    by_cases e:st.nx=j
    ·subst e;rw[cP] at hj;cases hj
    rw[aR _ _ e] at hj
    rw[bF _ _ (Ne.symm e)] at hr
    rcases Own.cons hf ho with h|h
    ·cases h
     have gT:ab st.H j=some (.ro s2 n2 get'):=by
      rw[ba] at hj
      by_cases e2:id=j
      ·subst e2;rw[cP] at hj;cases hj
      ·rw[aR _ _ e2] at hj;exact hj
     exact hm.hm.ro j s2 n2 get' fg _ gT hn hr hb hO
    ·exact hk.hm.ro j s2 n2 get' fg b hj hn hr hb h
   ax:=λb hz ho=>by
    rw[ba] at hz
    have lE:=hz.aq λs C h=>by cases h
    rcases Own.cons hf ho with h|h
    ·cases h
     exact hm.hm.ax _ (lE.aq λs C h=>by cases h) hO
    ·exact hk.hm.ax b lE h }
  kp:={
   str:=hk.kp.str
   size:=hk.kp.size
   same:=hk.kp.same
   own:=λb ho=>by
    rcases Own.cons hf ho with h|h
    ·cases h;exact hm.kp.own _ hO
    ·exact hk.kp.own b h
   ext:=hk.kp.ext.trans hx
   fz:=λb hz=>hk.kp.fz b (by rw[ba] at hz;exact hz.aq λs C h=>by cases h) }
  nx:=λj hj=>by
   have:st.nx+1≤j:=hj
   rw[bF _ _ (by omega)];exact hk.nx j (by show st.nx≤j;omega)
  sz:=hk.sz }
end
section
variable {X:Cx}{ρ:Env}{st:St}{a:Act}{w:World}
def G' (id d n s:Nat)(get:Nat→List SV)(st:St)(mC:St→Prop):Prop :=
 match ab st.H id,findF st.F d with
 |some (.cells T cs),some ⟨[],.sp bM 0⟩=>bM=id∧cs.length=n*s∧0<n∧n≤maxLen∧(∀i,i<n→(cs.drop (i*s)).take s=get i) ∧
   fa (st.nx+1) λaA=>mC ⟨(d,⟨[],.se st.nx 0 0⟩)::st.F,st.gs,(st.nx,.vec T s n get)::(id,.dead)::st.H,aA,st.D⟩
 |_,_=>False
theorem Ut {id d n s:Nat}{get:Nat→List SV}{mC:St→Prop}(h:G' id d n s get st mC)(hm:Mod X ρ st a w):∃ρ' af,Mod X ρ' af a w∧mC af:=by
 unfold G' at h
 split at h
 ·rename_i T cs bM h1 h2
  obtain⟨rfl,hl,hn,Jw,hg,h⟩:=h
  rw[fw] at h
  obtain⟨nm,k1,k2⟩:=hm.hm.ok _ _ h1
  cases nm<;>simp only[ao] at k2
  rename_i nm
  have an:=hm.Us h1 k1 hl Jw hg
  have aV:bM≠st.nx:=by rintro rfl;rw[hm.nx _ (Nat.le_refl _)] at k1;cases k1
  exact⟨_,_,an.K4 (d:=d) (u:=.sp bM 0) (u':=.se st.nx 0 0) h2 (by simp[den,cj,bF _ _ aV,k1,hn]),h⟩
 ·exact h.elim
theorem acR (id d n s:Nat)(get:Nat→List SV){c:Code}{K:Ex→St→Prop}(h:G' id d n s get st λst=>aX X c st K):aX X c st K :=
 fun ρ a w hm=>let ⟨ρ',af,h1,h2⟩:=Ut h hm;h2 ρ' a w h1
theorem AL (id n s:Nat)(k:Int){Tr d:Nat}{get:Nat→List SV}{kk:IntKind}{e:TypeId}{te:TI}{ops:List Oper}{i:Nat}{o:Oper}{r:List Oper}{Q:Exit→Act→World→Prop}{K:St→Prop}{Kp:List PanicEntry→St→Prop}{t:Nat}{x y:Operand}{ti:TI}
  (hX:X.Ok) (hC:dm X Q K Kp) (hi:ops.drop i=o::r) (hc:o.op=.indexAddr t x y) (hg:o.guard=none) (hp:eF st.gs X.nt o.dst=false) (bz:o.dst=some d) (ht:X.T t=some ti) (hd:ti.desc=.array n e) (ff:X.T e=some te) (hs:te.size=s)
  (h1:ev (findF st.F) [] x=some (.se id 0 0)) (h2:ev (findF st.F) [] y=some (.si kk k)) (h3:ab st.H id=some (.vec Tr s n get)) (hk:0≤k∧k<(n:Int))
  (h:eQ st λF gs H nx D=>c7 X ops Q K Kp (i+1) r ⟨(d,⟨[],.se id k 0⟩)::F,gs,H,nx,D⟩):eB X ops Q K Kp i o r st:=by
 refine kg hX hC hi (by rw[hc];intro c h;cases h) hg fun ρ a w hm=>?_
 have rE:bu a []:=λx hx=>by cases hx
 have e1:=aQ hm.fm rE h1
 have e2:=aQ hm.fm rE h2
 obtain⟨nm,k1,k2⟩:=hm.hm.ok _ _ h3
 have fG:0<n:=by omega
 have kl:k.toNat<n:=by omega
 cases nm<;>simp only[ao] at k2
 ·obtain⟨_,_,_,rfl,_⟩:=k2;omega
 rename_i b n' c s'
 obtain⟨rfl,rfl,_⟩:=k2
 simp only[den,k1,Int.toNat_zero,fG,if_true,Nat.zero_mul,Nat.zero_add,Option.some.injEq] at e1
 simp only[den,Option.some.injEq] at e2
 have cr:=J5 (P:=X.P) hX.dx ht hd ff (k:=kk) hk ⟨b,0,none⟩ w
 refine⟨.pointer (some ⟨b,k.toNat*s'+0,none⟩),w,ρ,_,.inl ?_,hm.put (d:=o.dst) (s:=.se id k 0) hp (by simp only[den,k1,kl,if_true]),?_⟩
 ·simp only[execOp,hc,←e1,←e2]
  rw[hs] at cr
  have:(⟨b,0,none⟩:Addr).add (k.toNat*s')=⟨b,k.toNat*s'+0,none⟩:=by rw[oM,Nat.zero_add,Nat.add_zero]
  rw[this] at cr
  exact cy cr
 ·rw[eG] at h;rw[bz];exact h
theorem Tf {w:World}{cells:List Value}{s n:Nat}{get:Nat→List SV}(h:∀i,i<n→∃vs:List Value,ai ρ (get i)=some vs∧vs.all (·.oneCell')=true∧vs.length=s∧∀(j:Nat)(v:Value),vs[j]?=some v→cells[i*s+j]?=some v) :
  ∀(m:Nat),m≤n→∃vs:List Value,ai ρ ((List.range m).flatMap get)=some vs∧vs.all (·.oneCell')=true∧vs.length=m*s∧∀(j:Nat) (v:Value),vs[j]?=some v→cells[j]?=some v
 |0,_=>⟨[],rfl,rfl,by simp,λj v h=>by simp at h⟩
 |m+1,hm=>by
  obtain⟨vs,h1,h2,h3,h4⟩:=Tf (w:=w) h m (by omega)
  obtain⟨us,g1,g2,g3,g4⟩:=h m (by omega)
  refine⟨vs++us,?_,?_,?_,λj v hv=>?_⟩
  ·rw[List.range_succ,List.flatMap_append,List.flatMap_singleton]
   exact sE h1 g1
  ·rw[List.all_append,h2,g2];rfl
  ·rw[List.length_append,h3,g3,Nat.add_mul,Nat.one_mul]
  ·rw[List.getElem?_append] at hv
   split at hv
   ·exact h4 j v hv
   ·have:=g4 _ v hv
    rwa [h3,show m*s+(j-m*s)=j by omega] at this
theorem N' (id n s:Nat){Tr d:Nat}{get:Nat→List SV}{u:SV}{ops:List Oper}{i:Nat}{o:Oper}{r:List Oper}{Q:Exit→Act→World→Prop}{K:St→Prop}{Kp:List PanicEntry→St→Prop}{t:Nat}{x:Operand}{ti:TI}
  (hX:X.Ok) (hC:dm X Q K Kp) (hi:ops.drop i=o::r) (hc:o.op=.load t x) (hg:o.guard=none) (hp:eF st.gs X.nt o.dst=false) (bz:o.dst=some d) (ht:X.T t=some ti)
  (h1:ev (findF st.F) [] x=some (.se id 0 0)) (h3:ab st.H id=some (.vec Tr s n get)) (hn:0<n) (hl:hU (ig ti.desc) ti.size 0 ((List.range n).flatMap get)=some u)
  (h:eQ st λF gs H nx D=>c7 X ops Q K Kp (i+1) r ⟨(d,⟨[],u⟩)::F,gs,H,nx,D⟩):eB X ops Q K Kp i o r st:=by
 refine kg hX hC hi (by rw[hc];intro c h;cases h) hg fun ρ a w hm=>?_
 have rE:bu a []:=λx hx=>by cases hx
 have e1:=aQ hm.fm rE h1
 obtain⟨nm,k1,k2⟩:=hm.hm.ok _ _ h3
 cases nm<;>simp only[ao] at k2
 ·obtain⟨_,_,_,rfl,_⟩:=k2;omega
 rename_i b n' c s'
 obtain⟨rfl,rfl,EG,cells,c1,c2,c3⟩:=k2
 simp only[den,k1,Int.toNat_zero,hn,if_true,Nat.zero_mul,Nat.zero_add,Option.some.injEq] at e1
 obtain⟨vs,g1,g2,g3,g4⟩:=Tf (w:=w) c3 n' (Nat.le_refl _)
 obtain⟨v,q1,q2⟩:=Ch (w:=w) (ad:=⟨b,0,none⟩) hX.dx ht hl g1 g2 (λj v hv=>by
  rw[Nat.zero_add] at hv
  rw[lR]
  simp only[World.cell?,c1,List.getElem?_toArray]
  exact g4 j v hv)
 refine⟨v,w,ρ,_,.inl ?_,hm.put (d:=o.dst) (s:=u) hp q2,?_⟩
 ·simp only[execOp,hc,←e1]
  exact cy (by simpa [Instr.loadAt,Instr.sureAddr,Result.andThen] using q1)
 ·rw[eG] at h;rw[bz];exact h
theorem Wy (n:Nat){it:TypeId}{ms:Array (String × TypeId)}{ops:List Oper}{i:Nat}{o:Oper}{r:List Oper}{Q:Exit→Act→World→Prop}{K:St→Prop}{Kp:List PanicEntry→St→Prop}{c:Call}{f:Operand}{name:String}{t:TypeId}{v:SV}{args:List SV}{ti:TI}(hX:X.Ok)
  (hC:dm X Q K Kp) (hi:ops.drop i=o::r) (hc:o.op=.call c) (bi:c.callee=.value f) (hg:o.guard=none) (hp:eF st.gs X.nt o.dst=false)
  (h1:ev (findF st.F) [] f=some (.fn (.methodOf it name) [] [])) (h2:nJ (findF st.F) [] c.args.toList=some (.cg t v::args)) (ht:X.T it=some ti) (oc:ti.desc=.interface ms) (hm:qW X.P t name n) (sR:Body X.P n)
  (h:bG X.P n (v::args) st.H st.nx (λv H' aA=>tA st o.dst v H' aA (c7 X ops Q K Kp (i+1) r)) (λch H' aA=>Kp ch ⟨st.F,st.gs,H',aA,st.D⟩)):eB X ops Q K Kp i o r st:=by
 refine⟨fun ρ a w cL=>?_⟩
 have hs:bu a []:=λx hx=>by cases hx
 have e1:=aQ cL.fm hs h1
 have hl:=q7 cL.fm hs h2
 simp only[den,ai,Option.some.injEq] at e1
 obtain⟨u,vs,hu,ZX,uo⟩:∃u vs,den ρ v=some u∧ai ρ args=some vs∧c.args.toList.map a.eval=.iface t u::vs:=by
  simp only[ai,den] at hl
  cases e:den ρ v with
  |none=>simp[e] at hl
  |some u =>
   cases e2:ai ρ args with
   |none=>simp[e,e2] at hl
   |some vs=>simp only[e,e2,Option.some.injEq] at hl;exact⟨u,vs,rfl,rfl,hl.symm⟩
 have hd:ai ρ (v::args)=some (u::vs):=oW hu ZX
 have ju:c.args.map a.eval=(Value.iface t u::vs).toArray:=by
  apply Array.ext'
  rw[Array.toList_map,uo]
 have cr:(do let d ←resolve a.eval c o.type;invoke d.target d.args:Sem Next).run X.P w=.ok (.enter n (u::vs).toArray) w:=by
  have fI:(resolve a.eval c o.type).run X.P w=.ok { target:=.fn (.methodOf it name) #[],args:=(Value.iface t u::vs).toArray } w:=by
   simp only[resolve,bi,←e1,ju,Deferred.ofValue,Array.empty_append]
   rfl
  rw[Sem.run_bind,fI]
  have wG:=hm u w
  have he:(#[u]++vs.toArray)=(u::vs).toArray:=by apply Array.ext';simp
  have jT:=sR (u::vs).toArray w
  have jw:(callMethod (.iface t u) name vs.toArray).run X.P w=.ok (.enter n (u::vs).toArray) w:=by
   have BG:(program).run X.P w=.ok X.P w:=rfl
   simp only[callMethod,Sem.run_bind,BG,Result.andThen,wG]
   rw[he]
   exact jT
  have h3:((Value.iface t u::vs).toArray.extract 1 (Value.iface t u::vs).toArray.size)=vs.toArray:=by
   apply Array.ext'
   rw[Array.toList_extract]
   simp
  have h0:(Value.iface t u::vs).toArray[0]?=some (.iface t u):=rfl
  simp only[Result.andThen,invoke,h0,Sem.run_bind,dX hX.dx ht,oc,h3]
  exact jw
 have ho:ops[i]?=some o:=by
  have:=congrArg (λl=>l[0]?) hi
  simpa using this
 have eu:ops.drop (i+1)=r:=by
  have:=congrArg List.tail hi
  simpa using this
 rw[List.range'_succ]
 refine wpOps_cons (by simpa using ho) (λ_=>?_) (λhw=>by rw[jS hg] at hw;cases hw)
 refine vf (by rw[hc];intro c' im;cases im) (by simp only[execOp,hc];exact cr) (h ρ w _ cL.hm cL.nx hd) ?_
 rintro e w' (⟨v,H',aA,ρ',u,rfl,h1,h2,h3,h4,h5⟩|⟨ch,H',aA,ρ',rfl,h2,h3,h4,h5⟩)
 ·have an:=(cL.call h2 h3 h4).put (d:=o.dst) hp h1
  refine kf hX hC.k hC.p r (i+1) ρ' _ _ w' eu ?_ an
  cases bz:o.dst with
  |none=>rw[bz] at h5;cases st;exact h5
  |some d=>rw[bz] at h5;cases st;exact h5
 ·exact hC.p ch ρ' _ _ w' (cL.call h2 h3 h4) h5
theorem WC (id q len lc s n:Nat)(k:Int){Tr d:Nat}{xs:List SV}{kk:IntKind}{e:TypeId}{te:TI}{ops:List Oper}{i:Nat}{o:Oper}{r:List Oper}{Q:Exit→Act→World→Prop}{K:St→Prop}{Kp:List PanicEntry→St→Prop}{t:Nat}{x y:Operand}{ti:TI}
  (hX:X.Ok) (hC:dm X Q K Kp) (hi:ops.drop i=o::r) (hc:o.op=.indexAddr t x y) (hg:o.guard=none) (hp:eF st.gs X.nt o.dst=false) (bz:o.dst=some d) (ht:X.T t=some ti) (hd:ti.desc=.slice e) (ff:X.T e=some te) (hs:te.size=s) (PW:0<s)
  (h1:ev (findF st.F) [] x=some (.ss id (q*s) len lc)) (h2:ev (findF st.F) [] y=some (.si kk k)) (h3:ab st.H id=some (.row Tr s n xs)) (hk:0≤k∧k<(len:Int)) (hq:q+len≤n)
  (h:eQ st λF gs H nx D=>c7 X ops Q K Kp (i+1) r ⟨(d,⟨[],.se id ((q:Int)+k) 0⟩)::F,gs,H,nx,D⟩):eB X ops Q K Kp i o r st:=by
 refine kg hX hC hi (by rw[hc];intro c h;cases h) hg fun ρ a w hm=>?_
 have rE:bu a []:=λx hx=>by cases hx
 have e1:=aQ hm.fm rE h1
 have e2:=aQ hm.fm rE h2
 obtain⟨nm,k1,k2⟩:=hm.hm.ok _ _ h3
 cases nm<;>simp only[ao] at k2
 rename_i b n' c s'
 obtain⟨rfl,rfl,EG,_⟩:=k2
 have hle:q*s'+len*s'≤n'*s':=by rw[←Nat.add_mul];exact Nat.mul_le_mul_right _ hq
 have hdiv:q*s' / s'=q:=Nat.mul_div_cancel _ PW
 have Yv:¬c-q=0:=by omega
 simp only[den,k1,partOf,hdiv] at e1
 rw[if_pos ⟨hle,PW⟩,if_neg Yv] at e1
 simp only[Option.some.injEq] at e1
 simp only[den,Option.some.injEq] at e2
 have kl:((q:Int)+k).toNat<n':=by omega
 have cr:=B1 (P:=X.P) hX.dx ht hd ff (k:=kk) (c:=c-q) hk ⟨b,q*s',none⟩ w
 have hmul:((q:Int)+k).toNat*s'=q*s'+k.toNat*s':=by
  rw[show((q:Int)+k).toNat=q+k.toNat by omega,Nat.add_mul]
 refine⟨.pointer (some ⟨b,((q:Int)+k).toNat*s'+0,none⟩),w,ρ,_,.inl ?_,hm.put (d:=o.dst) (s:=.se id ((q:Int)+k) 0) hp (by simp only[den,k1,kl,if_true]),?_⟩
 ·simp only[execOp,hc,←e1,←e2]
  rw[hs] at cr
  have:(⟨b,q*s',none⟩:Addr).add (k.toNat*s')=⟨b,((q:Int)+k).toNat*s'+0,none⟩:=by rw[oM,hmul,Nat.add_zero]
  rw[this] at cr
  exact cy cr
 ·rw[eG] at h;rw[bz];exact h
end
end Go.X
namespace Go.X.Wr
open Go Go.Proofs Go.X
noncomputable abbrev P:Program:=Tryz.prog
def pl:List Nat:=[36,83,91]
theorem pO:xA P pl:=by
 intro t ht
 simp only[pl,List.mem_cons,List.not_mem_nil,or_false] at ht
 rcases ht with rfl|rfl|rfl<;>exact⟨by kernel_rfl,by kernel_rfl,by decide⟩
noncomputable abbrev T:cf:=xn P pl
theorem bP:P.follows .mixedOrders=true:=by kernel_rfl
theorem ah:Good P T []:=⟨ve pO,λp h=>by cases h⟩
def code (f:Func):Code:=match f.body with
 |some c=>c
 |none=>.skip
abbrev Sp:=Int × Int
def bg (s:Sp):List SV:=[.si .i64 s.1,.si .i64 s.2]
def uY:Sp:=(1048576,-1048576)
def gj (a b:Sp):Sp:=if max a.1 b.1≤min a.2 b.2 then(max a.1 b.1,min a.2 b.2) else uY
def yP (k s:Sp):Sp:=(k.1-s.2,k.2-s.1)
def Cn (k s:Sp):Sp:=(k.1+s.1,k.2+s.2)
def fP (a b lo hi:Int):Bool:=decide (lo≤a)&&decide (a≤b)&&decide (b≤hi)
def rb:Ct:=bd fun
 |[.si .i64 n,.si .i64 lo,.si .i64 hi]=>some ⟨none,none,.sb (decide (lo≤n)&&decide (n≤hi)),[]⟩
 |_=>none
theorem Kb {l:List (Nat × Ct)}(g:Good P T l):aP P 92 rb:=by
 refine bq (C:=aC _) g.ok Tryz.func92 (c:=code Tryz.f92) rfl λfr args H out h hp=>?_
 simp only[rb,bd] at h
 split at h
 ·cases h
  exact dt rfl (Nat.le_of_ble_eq_true rfl) λG hG=>⟨.inl rfl,cz rfl rfl rfl⟩
 ·cases h
theorem A0 {l:List (Nat × Ct)}(g:Good P T l):Good P T ((92,rb)::l):=g.add (Kb g) (cZ _) (aw Tryz.func92 (c:=code Tryz.f92) rfl (by decide))
theorem k35 {l:List (Nat × Ct)}(g:Good P T l):aP P 65 rb:=by
 refine bq (C:=aC _) g.ok Tryz.func65 (c:=code Tryz.f65) rfl λfr args H out h hp=>?_
 simp only[rb,bd] at h
 split at h
 ·cases h
  exact dt rfl (Nat.le_of_ble_eq_true rfl) λG hG=>⟨.inl rfl,cz rfl rfl rfl⟩
 ·cases h
theorem Xk {l:List (Nat × Ct)}(g:Good P T l):Good P T ((65,rb)::l):=g.add (k35 g) (cZ _) (aw Tryz.func65 (c:=code Tryz.f65) rfl (by decide))
def vA:Ct:=bd fun
 |[.agg [.si .i64 a,.si .i64 b],.si .i64 lo,.si .i64 hi]=>some ⟨none,none,.sb (fP a b lo hi),[]⟩
 |_=>none
theorem k36 {l:List (Nat × Ct)}(g:Good P T l):aP P 67 vA:=by
 refine bq (C:=aC _) g.ok Tryz.func67 (c:=code Tryz.f67) rfl λfr args H out h hp=>?_
 simp only[vA,bd] at h
 split at h
 ·cases h
  exact dt rfl (Nat.le_of_ble_eq_true rfl) λG hG=>⟨.inl rfl,cz rfl rfl rfl⟩
 ·cases h
theorem OO {l:List (Nat × Ct)}(g:Good P T l):Good P T ((67,vA)::l):=g.add (k36 g) (cZ _) (aw Tryz.func67 (c:=code Tryz.f67) rfl (by decide))
theorem yM {l:List (Nat × Ct)}(g:Good P T l):aP P 28 vA:=by
 refine bq (C:=aC _) g.ok Tryz.func28 (c:=code Tryz.f28) rfl λfr args H out h hp=>?_
 simp only[vA,bd] at h
 split at h
 ·cases h
  exact dt rfl (Nat.le_of_ble_eq_true rfl) λG hG=>⟨.inl rfl,cz rfl rfl rfl⟩
 ·cases h
theorem AZ {l:List (Nat × Ct)}(g:Good P T l):Good P T ((28,vA)::l):=g.add (yM g) (cZ _) (aw Tryz.func28 (c:=code Tryz.f28) rfl (by decide))
def Hi:Ct:=bd fun
 |[.si .i64 n]=>some ⟨none,none,.sb (decide (-1000≤n)&&decide (n≤1000)),[]⟩
 |_=>none
theorem k28 {l:List (Nat × Ct)}(g0:Good P T l):aP P 93 Hi:=by
 have g:=A0 g0
 refine bq (C:=aC _) g.ok Tryz.func93 (c:=code Tryz.f93) rfl λfr args H out h hp=>?_
 simp only[Hi,bd] at h
 split at h
 ·cases h
  exact dt rfl (Nat.le_of_ble_eq_true rfl) λG hG=>⟨.inl rfl,cz rfl rfl rfl⟩
 ·cases h
theorem Xj {l:List (Nat × Ct)}(g:Good P T l):Good P T ((93,Hi)::l):=g.add (k28 g) (cZ _) (aw Tryz.func93 (c:=code Tryz.f93) rfl (by decide))
def iX (e:Int):List PanicEntry:=[{ v:=.iface 128 (.int .i64 e),recovered:=false }]
def Hj:Ct:=bd fun
 |[.sb b,.si .i64 e]=>some ⟨none,some (!b,iX e),.bn [],[]⟩
 |_=>none
theorem k30 {l:List (Nat × Ct)}(g:Good P T l):aP P 66 Hj:=by
 refine bq (C:=aC _) g.ok Tryz.func66 (c:=code Tryz.f66) rfl λfr args H out h hp=>?_
 simp only[Hj,bd] at h
 split at h
 ·rename_i b e
  cases h
  refine dt rfl (Nat.le_of_ble_eq_true rfl) λG hG=>?_
  refine Br.mk (λh=>?_) (λh=>?_)
  ·refine AM aj rfl rfl rfl ?_
   exact⟨by rw[h];rfl,trivial⟩
  ·exact⟨.inr ⟨_,by rw[h]⟩,cz trivial rfl rfl⟩
 ·cases h
theorem Ix {l:List (Nat × Ct)}(g:Good P T l):Good P T ((66,Hj)::l):=g.add (k30 g) (cZ _) (aw Tryz.func66 (c:=code Tryz.f66) rfl (by decide))
theorem vp:r8 P 30 128 47:=by
 refine G9 (T:=T) (ve pO) Tryz.func30 rfl (by decide) rfl rfl rfl rfl rfl rfl rfl rfl (by decide) (by decide) (by decide) (by decide) (by decide) ?_ ?_
 ·intro x G hG
  refine Br.mk (λh=>by cases h) (λ_=>rfl)
 ·intro x k m G hG
  refine Br.mk (λ_=>?_) (λh=>by cases h)
  refine Br.mk (λh=>by cases h) (λ_=>rfl)
def vB:Ct:=bd fun
 |[.agg [.si .i64 a,.si .i64 b]]=>some ⟨none,none,.sb (decide (a≤b)),[]⟩
 |_=>none
theorem Kg {l:List (Nat × Ct)}(g:Good P T l):aP P 102 vB:=by
 refine bq (C:=aC _) g.ok Tryz.func102 (c:=code Tryz.f102) rfl λfr args H out h hp=>?_
 simp only[vB,bd] at h
 split at h
 ·cases h
  exact dt rfl (Nat.le_of_ble_eq_true rfl) λG hG=>⟨.inl rfl,cz rfl rfl rfl⟩
 ·cases h
theorem A4 {l:List (Nat × Ct)}(g:Good P T l):Good P T ((102,vB)::l):=g.add (Kg g) (cZ _) (aw Tryz.func102 (c:=code Tryz.f102) rfl (by decide))
def kB (n:Int):Prop:=-10000000≤n∧n≤10000000
def mH (f:Sp→Sp→Sp):Ct:=bd fun
 |[.agg [.si .i64 a,.si .i64 b],.agg [.si .i64 c,.si .i64 d]]=>some ⟨some (kB a∧kB b∧kB c∧kB d),none,.agg (bg (f (a,b) (c,d))),[]⟩
 |_=>none
theorem J_ {l:List (Nat × Ct)}(g:Good P T l):aP P 169 (mH yP):=by
 refine bq (C:=aC _) g.ok Tryz.func169 (c:=code Tryz.f169) rfl λfr args H out h hp=>?_
 simp only[mH,bd] at h
 split at h
 ·rename_i a b c d
  cases h
  obtain⟨⟨h1,h2⟩,⟨h3,h4⟩,⟨h5,h6⟩,h7,h8⟩:kB a∧kB b∧kB c∧kB d:=hp
  exact dt rfl (Nat.le_of_ble_eq_true rfl) λG hG=>aa.mk (show ae .i64 (a-d) from⟨by omega,by omega⟩) (aa.mk (show ae .i64 (b-c) from⟨by omega,by omega⟩) ⟨.inl rfl,cz ⟨⟨rfl,rfl⟩,⟨rfl,rfl⟩,trivial⟩ rfl rfl⟩)
 ·cases h
theorem El {l:List (Nat × Ct)}(g:Good P T l):Good P T ((169,mH yP)::l):=g.add (J_ g) (cZ _) (aw Tryz.func169 (c:=code Tryz.f169) rfl (by decide))
theorem aar {l:List (Nat × Ct)}(g:Good P T l):aP P 170 (mH Cn):=by
 refine bq (C:=aC _) g.ok Tryz.func170 (c:=code Tryz.f170) rfl λfr args H out h hp=>?_
 simp only[mH,bd] at h
 split at h
 ·rename_i a b c d
  cases h
  obtain⟨⟨h1,h2⟩,⟨h3,h4⟩,⟨h5,h6⟩,h7,h8⟩:kB a∧kB b∧kB c∧kB d:=hp
  exact dt rfl (Nat.le_of_ble_eq_true rfl) λG hG=>aa.mk (show ae .i64 (a+c) from⟨by omega,by omega⟩) (aa.mk (show ae .i64 (b+d) from⟨by omega,by omega⟩) ⟨.inl rfl,cz ⟨⟨rfl,rfl⟩,⟨rfl,rfl⟩,trivial⟩ rfl rfl⟩)
 ·cases h
theorem W8 {l:List (Nat × Ct)}(g:Good P T l):Good P T ((170,mH Cn)::l):=g.add (aar g) (cZ _) (aw Tryz.func170 (c:=code Tryz.f170) rfl (by decide))
theorem QE {l:List (Nat × Ct)}(g0:Good P T l):aP P 167 (mH λs k=>yP k s):=by
 have g:=El g0
 refine bq (C:=aC _) g.ok Tryz.func167 (c:=code Tryz.f167) rfl λfr args H out h hp=>?_
 simp only[mH,bd] at h
 split at h
 ·rename_i a b c d
  cases h
  obtain⟨h1,h2,h3,h4⟩:kB a∧kB b∧kB c∧kB d:=hp
  exact dt rfl (Nat.le_of_ble_eq_true rfl) λG hG=>aa.mk ⟨h3,h4,h1,h2⟩ ⟨.inl rfl,cz ⟨⟨rfl,rfl⟩,⟨rfl,rfl⟩,trivial⟩ rfl rfl⟩
 ·cases h
def MZ:Ct:=bd fun
 |[.agg [],.agg [.si .i64 a,.si .i64 b]]=>some ⟨none,none,.agg (bg (a,b)),[]⟩
 |_=>none
theorem Fk {l:List (Nat × Ct)}(g:Good P T l):aP P 172 MZ:=by
 refine bq (C:=aC _) g.ok Tryz.func172 (c:=code Tryz.f172) rfl λfr args H out h hp=>?_
 simp only[MZ,bd] at h
 split at h
 ·cases h
  exact dt rfl (Nat.le_of_ble_eq_true rfl) λG hG=>⟨.inl rfl,cz ⟨⟨rfl,rfl⟩,⟨rfl,rfl⟩,trivial⟩ rfl rfl⟩
 ·cases h
def gF:Value→Nat→(Nat→List SV)→Prop:=λv n get=>v=.slice (some ⟨0,0,none⟩) 1 1∧n=1∧get=λ_=>bg uY
def iu (s:Sp):Prop:=kB s.1∧kB s.2
theorem xL:Body P 74:=aw Tryz.func74 (c:=code Tryz.f74) rfl (by decide)
def bH (a b:Sp):List (Nat × HB):=[(0,.ax 2 gF),(1,.row 83 2 2 [.si .i64 a.1,.si .i64 a.2,.si .i64 b.1,.si .i64 b.2])]
def l56 (a b:Sp):Bool→List (Nat × FE)
 |false=>[(2,⟨[],.sp 2 0⟩),(3,⟨[],.sp 3 0⟩),(10,⟨[],.ss 1 2 1 0⟩),(11,⟨[],.si .i64 1⟩),(12,⟨[],.si .i64 0⟩)]
 |true=>[(2,⟨[],.sp 2 0⟩),(3,⟨[],.sp 3 0⟩),(10,⟨[],.ss 1 2 1 0⟩),(11,⟨[],.si .i64 1⟩),(12,⟨[],.si .i64 1⟩)]
def m56 (a b:Sp):Bool→List (Nat × HB)
 |false=>(3,.cells 83 [.si .i64 a.1,.si .i64 a.2])::(2,.cells 83 [.si .i64 0,.si .i64 0])::bH a b
 |true=>(3,.cells 83 [.si .i64 (max a.1 b.1),.si .i64 (min a.2 b.2)])::(2,.cells 83 [.si .i64 0,.si .i64 0])::bH a b
theorem zg {a b:Sp}(ha:iu a)(hb:iu b){Rv:SV→List (Nat × HB)→Nat→Prop}{Rp:List PanicEntry→List (Nat × HB)→Nat→Prop}
  (aY:Rv (.agg (bg (gj a b))) (bH a b) 2):bG P 74 [.sl 1] (bH a b) 2 Rv Rp:=by
 have g:=A4 ah
 refine eI (ι:=Unit) g.ok Tryz.func74 (c:=code Tryz.f74) rfl (Nat.le_of_ble_eq_true rfl) (λ_=>.agg (bg (gj a b))) (λx=>bH a b) 2 (λG hG=>?_) (λx=>aY)
 refine aa.mk ⟨by decide,by decide⟩ ?_
 refine aa.mk ⟨by decide,by decide,by decide,by decide,by decide⟩ ?_
 refine cm (g.ok _ _ _) 2 (λx:Bool=>⟨l56 a b x,[],m56 a b x,4,[]⟩) (λx=>match x with|false=>1|true=>0) hG false (λj=>j) ?_ ?_
 ·refine⟨?_,?_,rfl,rfl,rfl,rfl,trivial⟩<;>exact Q5
 rintro(_|_)
 ·refine Br.mk (λ_=>?_) (λh=>by cases h)
  refine WC 1 1 1 0 2 2 0 (g.ok _ _ _) aj rfl rfl rfl rfl rfl rfl rfl rfl rfl (by decide) rfl rfl rfl ⟨by decide,by decide⟩ (by decide) ?_
  refine aa.mk (show ae .i64 (0+1) from⟨by decide,by decide⟩) ⟨true,(λj=>j),?_,by decide⟩
  refine⟨?_,?_,rfl,rfl,rfl,rfl,trivial⟩<;>exact Q5
 ·refine Br.mk (λh=>by cases h) (λ_=>?_)
  refine Br.mk (λh=>?_) (λh=>?_)
  ·have h:(!decide (max a.1 b.1≤min a.2 b.2))=true:=h
   have h:¬max a.1 b.1≤min a.2 b.2:=by simpa using h
   refine WE 0 0 1 1 2 (λ_=>bg uY) (.agg (bg uY)) (g.ok _ _ _) aj rfl rfl rfl rfl rfl rfl rfl ⟨rfl,rfl,rfl⟩ (by decide) rfl rfl ?_
   have e:gj a b=uY:=by unfold gj;rw[if_neg h]
   refine⟨(),(λj=>j),?_,?_,rfl,rfl,rfl,rfl⟩
   ·exact Q5
   ·rw[e];exact Q2
  ·have h:(!decide (max a.1 b.1≤min a.2 b.2))=false:=h
   have h:max a.1 b.1≤min a.2 b.2:=by simpa using h
   have e:gj a b=(max a.1 b.1,min a.2 b.2):=by unfold gj;rw[if_pos h]
   refine⟨(),(λj=>j),?_,?_,rfl,rfl,rfl,rfl⟩
   ·exact Q5
   ·rw[e];exact Q2
inductive Ef where
 |tk (s:Sp)
 |rd (s:Sp)
 |no
def HV:Ef→Nat
 |.tk _=>216
 |.rd _=>219
 |.no=>217
def Ax:Ef→SV
 |.tk s=>.agg (bg s)
 |.rd s=>.agg (bg s)
 |.no=>.agg []
def sG (e:Ef):SV:=.cg (HV e) (Ax e)
def nH:Ef→Sp→Sp
 |.tk s,k=>yP k s
 |.rd s,k=>gj k s
 |.no,k=>k
def kN:Ef→Sp→Sp
 |.tk s,k=>Cn k s
 |.rd s,k=>gj k s
 |.no,k=>k
def vK:Ef→Prop
 |.tk s=>iu s
 |.rd s=>iu s
 |.no=>True
def Dm:Ef→Nat
 |.tk _=>167
 |.rd _=>173
 |.no=>171
def DA:Ef→Nat
 |.tk _=>168
 |.rd _=>174
 |.no=>172
theorem aa6 (e : Ef) : qW P (HV e) "blockworks/wear.after" (Dm e) := by
 cases e<;>exact FH (by kernel_rfl)
theorem aa7 (e : Ef) : qW P (HV e) "blockworks/wear.before" (DA e) := by
 cases e<;>exact FH (by kernel_rfl)
theorem UJ (e:Ef):Body P (Dm e):=by
 cases e
 ·exact aw Tryz.func167 (c:=code Tryz.f167) rfl (by decide)
 ·exact aw Tryz.func173 (c:=code Tryz.f173) rfl (by decide)
 ·exact aw Tryz.func171 (c:=code Tryz.f171) rfl (by decide)
theorem UK (e:Ef):Body P (DA e):=by
 cases e
 ·exact aw Tryz.func168 (c:=code Tryz.f168) rfl (by decide)
 ·exact aw Tryz.func174 (c:=code Tryz.f174) rfl (by decide)
 ·exact aw Tryz.func172 (c:=code Tryz.f172) rfl (by decide)
def pb:List (Nat × HB):=[(0,.ax 2 gF)]
section
variable {k:Sp}{Rv:SV→List (Nat × HB)→Nat→Prop}{Rp:List PanicEntry→List (Nat × HB)→Nat→Prop}
theorem acL (e:Ef)(he:vK e)(hk:iu k)(aY:Rv (.agg (bg (nH e k))) pb 1):bG P (Dm e) [Ax e,.agg (bg k)] pb 1 Rv Rp:=by
 cases e with
 |tk s =>
  have g:=El ah
  refine eI (ι:=Unit) g.ok Tryz.func167 (c:=code Tryz.f167) rfl (Nat.le_of_ble_eq_true rfl) (λ_=>.agg (bg (yP k s))) (λx=>pb) 1 (λG hG=>?_) (λx=>aY)
  refine aa.mk ⟨hk.1,hk.2,he.1,he.2⟩ ?_
  refine⟨(),(λj=>j),?_,?_,rfl,rfl,rfl,rfl⟩<;>exact Q7
 |rd s =>
  have g:=ah
  refine eI (ι:=Unit) g.ok Tryz.func173 (c:=code Tryz.f173) rfl (Nat.le_of_ble_eq_true rfl) (λ_=>.agg (bg (gj k s))) (λx=>pb) 1 (λG hG=>?_) (λx=>aY)
  refine av (g.ok _ _ _) aj rfl rfl rfl rfl ⟨xL,?_⟩
  refine aO [.sl 1] (bH k s) 2 (λj=>match j with|0=>0|_=>4) Q2 rfl Q7 rfl rfl ?_
  refine zg hk he ⟨rfl,Q2,Q2,?_⟩
  refine⟨(),(λj=>j),?_,?_,rfl,rfl,rfl,rfl⟩<;>exact Q7
 |no =>
  have g:=ah
  refine eI (ι:=Unit) g.ok Tryz.func171 (c:=code Tryz.f171) rfl (Nat.le_of_ble_eq_true rfl) (λ_=>.agg (bg k)) (λx=>pb) 1 (λG hG=>?_) (λx=>aY)
  refine⟨(),(λj=>j),?_,?_,rfl,rfl,rfl,rfl⟩<;>exact Q7
theorem acM (e:Ef)(he:vK e)(hk:iu k)(aY:Rv (.agg (bg (kN e k))) pb 1):bG P (DA e) [Ax e,.agg (bg k)] pb 1 Rv Rp:=by
 cases e with
 |tk s =>
  have g:=W8 ah
  refine eI (ι:=Unit) g.ok Tryz.func168 (c:=code Tryz.f168) rfl (Nat.le_of_ble_eq_true rfl) (λ_=>.agg (bg (Cn k s))) (λx=>pb) 1 (λG hG=>?_) (λx=>aY)
  refine aa.mk ⟨hk.1,hk.2,he.1,he.2⟩ ?_
  refine⟨(),(λj=>j),?_,?_,rfl,rfl,rfl,rfl⟩<;>exact Q7
 |rd s =>
  have g:=ah
  refine eI (ι:=Unit) g.ok Tryz.func174 (c:=code Tryz.f174) rfl (Nat.le_of_ble_eq_true rfl) (λ_=>.agg (bg (gj k s))) (λx=>pb) 1 (λG hG=>?_) (λx=>aY)
  refine av (g.ok _ _ _) aj rfl rfl rfl rfl ⟨xL,?_⟩
  refine aO [.sl 1] (bH k s) 2 (λj=>match j with|0=>0|_=>4) Q2 rfl Q7 rfl rfl ?_
  refine zg hk he ⟨rfl,Q2,Q2,?_⟩
  refine⟨(),(λj=>j),?_,?_,rfl,rfl,rfl,rfl⟩<;>exact Q7
 |no =>
  have g:=ah
  refine eI (ι:=Unit) g.ok Tryz.func172 (c:=code Tryz.f172) rfl (Nat.le_of_ble_eq_true rfl) (λ_=>.agg (bg k)) (λx=>pb) 1 (λG hG=>?_) (λx=>aY)
  refine⟨(),(λj=>j),?_,?_,rfl,rfl,rfl,rfl⟩<;>exact Q7
end
structure jm where
 kind:Int
 gM:Int
 lo:Int
 hi:Int
def kR (e:jm):List SV:=[.si .i64 e.kind,.si .i64 e.gM,.si .i64 e.lo,.si .i64 e.hi]
structure Wd where
 l1:Int
 l2:Int
 u1:Int
 u2:Int
 n:Nat
 ev:Nat→jm
def fW (e:jm):Bool:=(decide (e.kind=0)&&(decide (0≤e.gM)&&decide (e.gM≤20)))||(decide (e.kind=1)&&fP e.lo e.hi (-1000) 1000)||(decide (e.kind=2)&&fP e.lo e.hi 0 10)
def eb (w:Wd):Bool:=fP w.l1 w.l2 0 300&&decide (w.l2-w.l1≤20)&&fP w.u1 w.u2 0 3&&decide (w.n≤8)&&(List.range w.n).all λi=>fW (w.ev i)
theorem H9 {e:jm}(h:fW e=true):(e.kind=0∧0≤e.gM∧e.gM≤20)∨(e.kind=1∧-1000≤e.lo∧e.lo≤e.hi∧e.hi≤1000)∨(e.kind=2∧0≤e.lo∧e.lo≤e.hi∧e.hi≤10):=by
 unfold fW fP at h
 simp only[Bool.or_eq_true,Bool.and_eq_true,decide_eq_true_eq] at h
 omega
theorem lf {w:Wd}(h:eb w=true):(0≤w.l1∧w.l1≤w.l2∧w.l2≤300∧w.l2-w.l1≤20)∧(0≤w.u1∧w.u1≤w.u2∧w.u2≤3)∧w.n≤8∧∀i,i<w.n→fW (w.ev i)=true:=by
 unfold eb fP at h
 simp only[Bool.and_eq_true,decide_eq_true_eq,List.all_eq_true] at h
 obtain⟨⟨⟨⟨h1,h2⟩,h3⟩,h4⟩,h5⟩:=h
 exact⟨by omega,by omega,h4,λi hi=>h5 i (List.mem_range.2 hi)⟩
def tz (w:Wd)(e:jm)(bit:Bool):Ef:=if e.kind=0 then .tk (e.gM*w.u1,e.gM*w.u2) else if e.kind=2 then .tk (e.lo,e.hi) else if bit then .rd (e.lo,e.hi) else .no
structure Qn where
 reads:Nat
 lo:Int
 hi:Int
deriving DecidableEq
def mO (w:Wd)(i:Nat):List SV:=kR (w.ev i)
def bp (w:Wd)(em:List (SV × SV)):List (Nat × HB):=[(0,.ax 2 gF),(1,.vec 77 4 w.n (mO w)),(2,.mp em),(3,.cells 94 [.si .i64 w.l1,.si .i64 w.l2,.si .i64 w.u1,.si .i64 w.u2,.sl 1,.sm 2])]
theorem zj {S k:Nat}:((((S:Nat):Int).fdiv (2 ^ (k:Int).toNat)).toNat &&& (1:Int).toNat:Nat)=(S.testBit k).toNat:=by
 have e2:((2:Int) ^ k)=((2 ^ k:Nat):Int):=by rw[Int.natCast_pow];rfl
 rw[Int.toNat_natCast,e2,Int.fdiv_eq_ediv_of_nonneg _ (Int.natCast_nonneg _),←Int.natCast_ediv,Int.toNat_natCast]
 show S / 2 ^ k &&& 1=_
 rw[Nat.and_one_is_mod,←Nat.shiftRight_eq_div_pow,Nat.testBit,Nat.and_comm,Nat.and_one_is_mod]
 rcases Nat.mod_two_eq_zero_or_one (S >>> k) with h|h<;>rw[h]<;>rfl
theorem Li {S w:Nat}(h:S<256):(0≤((S:Nat):Int).fdiv (2 ^ (w:Int).toNat)∧((S:Nat):Int).fdiv (2 ^ (w:Int).toNat)≤255):=by
 have e2:((2:Int) ^ w)=((2 ^ w:Nat):Int):=by rw[Int.natCast_pow];rfl
 have e3:((S:Nat):Int).fdiv (2 ^ (w:Int).toNat)=((S / 2 ^ w:Nat):Int):=by
  rw[Int.toNat_natCast,e2,Int.fdiv_eq_ediv_of_nonneg _ (Int.natCast_nonneg _),←Int.natCast_ediv]
 rw[e3]
 have:S / 2 ^ w≤S:=Nat.div_le_self _ _
 generalize S / 2 ^ w=D at *
 omega
theorem Dx:Body P 104:=aw Tryz.func104 (c:=code Tryz.f104) rfl (by decide)
section
variable {w:Wd}{em:List (SV × SV)}{Rv:SV→List (Nat × HB)→Nat→Prop}{Rp:List PanicEntry→List (Nat × HB)→Nat→Prop}
theorem So (hw:eb w=true){i reads:Nat}(hi:i<w.n)(hr:reads<256)(aY:∀e,e=tz w (w.ev i) (reads.testBit i)→Rv (sG e) (bp w em) 4):bG P 104 [.sp 3 0,.si .i64 (i:Int),.si .u64 (reads:Int)] (bp w em) 4 Rv Rp:=by
 have g:=ah
 obtain⟨_,hu,hn,uz⟩:=lf hw
 have he:=H9 (uz i hi)
 refine eI (ι:={e:Ef // e=tz w (w.ev i) (reads.testBit i)}) g.ok Tryz.func104 (c:=code Tryz.f104) rfl (Nat.le_of_ble_eq_true rfl) (λe=>sG e.1) (λx=>bp w em) 4 (λG hG=>?_) (λe=>aY e.1 e.2)
 refine aa.mk (show(0:Int)≤(i:Int)∧(i:Int)<(w.n:Int) from⟨by omega,by omega⟩) ?_
 refine Br.mk (λh=>?_) (λh=>?_)
 ·have h:(w.ev i).kind=0:=of_decide_eq_true h
  have hus:0≤(w.ev i).gM∧(w.ev i).gM≤20:=by omega
  have m1:0≤(w.ev i).gM*w.u1∧(w.ev i).gM*w.u1≤60:=⟨Int.mul_nonneg (by omega) (by omega),Int.le_trans (Int.mul_le_mul (by omega) (show w.u1≤3 by omega) (by omega) (by decide)) (by decide:(20:Int)*3≤60)⟩
  have m2:0≤(w.ev i).gM*w.u2∧(w.ev i).gM*w.u2≤60:=⟨Int.mul_nonneg (by omega) (by omega),Int.le_trans (Int.mul_le_mul (by omega) (show w.u2≤3 by omega) (by omega) (by decide)) (by decide:(20:Int)*3≤60)⟩
  refine cU (g.ok _ _ _) bP [0,1,0,4,12,28,60,124,255,0,512,0,2048,6144,14336,30720,63488,130560,262143,524287,1048575,2097151] [] 22 (by kernel_rfl) ?_
  refine aa.mk (show ae .i64 ((w.ev i).gM*w.u1) from⟨by omega,by omega⟩) (aa.mk (show ae .i64 ((w.ev i).gM*w.u2) from⟨by omega,by omega⟩) ?_)
  refine⟨⟨.tk ((w.ev i).gM*w.u1,(w.ev i).gM*w.u2),by unfold tz;rw[if_pos h]⟩,(λj=>j),?_,?_,rfl,rfl,rfl,rfl⟩<;>exact Q4
 have h:¬(w.ev i).kind=0:=of_decide_eq_false h
 refine Br.mk (λh2=>?_) (λh2=>?_)
 ·have h2:(w.ev i).kind=2:=of_decide_eq_true h2
  refine⟨⟨.tk ((w.ev i).lo,(w.ev i).hi),by unfold tz;rw[if_neg h,if_pos h2]⟩,(λj=>j),?_,?_,rfl,rfl,rfl,rfl⟩<;>exact Q4
 have h2:¬(w.ev i).kind=2:=of_decide_eq_false h2
 have JO:=Li (S:=reads) (w:=i) hr
 refine aa.mk (show(0:Int)≤(i:Int)∧(i:Int).toNat≤IntKind.u64.bits from⟨by omega,by show(i:Int).toNat≤64;omega⟩) ?_
 refine aa.mk ⟨JO.1,by decide,⟨by omega,by omega⟩,by decide,by decide⟩ ?_
 refine Br.mk (λh3=>?_) (λh3=>?_)
 ·have h3:decide (((((reads:Nat):Int).fdiv (2 ^ (i:Int).toNat)).toNat &&& (1:Int).toNat:Nat)=(0:Int))=true:=h3
  rw[zj] at h3
  have pg:reads.testBit i=false:=by
   cases hb:reads.testBit i with
   |false=>rfl
   |true=>rw[hb] at h3;simp at h3
  refine⟨⟨.no,by unfold tz;rw[if_neg h,if_neg h2,pg];rfl⟩,(λj=>j),?_,?_,rfl,rfl,rfl,rfl⟩<;>exact Q4
 ·have h3:decide (((((reads:Nat):Int).fdiv (2 ^ (i:Int).toNat)).toNat &&& (1:Int).toNat:Nat)=(0:Int))=false:=h3
  rw[zj] at h3
  have pg:reads.testBit i=true:=by
   cases hb:reads.testBit i with
   |true=>rfl
   |false=>rw[hb] at h3;simp at h3
  refine⟨⟨.rd ((w.ev i).lo,(w.ev i).hi),by unfold tz;rw[if_neg h,if_neg h2,pg];rfl⟩,(λj=>j),?_,?_,rfl,rfl,rfl,rfl⟩<;>exact Q4
end
end Go.X.Wr
namespace Go.X.Lt
open Go Go.Proofs Go.X
open Go.X.Gr (aB az au bQ dj ca da hasB cD dW eA aE bZ iC bc bR code fq)
open Go.X.Wr (zj Li)
def nr (x:Lo)(n:Nat):Int:=if n<x.nP then x.bE n else 0
def fb (x:Lo)(S:Nat):Nat→Int × Int
 |0=>(100,0)
 |n+1=>if S.testBit n then(min (fb x S n).1 (nr x n),max (fb x S n).2 (nr x n)) else fb x S n
theorem abP {x:Lo}(hx:dp x)(n:Nat):0≤nr x n∧nr x n≤100:=by
 unfold nr
 split
 ·rename_i h;exact(hx.bE n h).1
 ·decide
theorem zx {x:Lo}(hx:dp x)(S:Nat):∀n,(0≤(fb x S n).1∧(fb x S n).1≤100)∧0≤(fb x S n).2∧(fb x S n).2≤100
 |0=>by show(0≤(100:Int)∧(100:Int)≤100)∧0≤(0:Int)∧(0:Int)≤100;decide
 |n+1=>by
  have h1:=zx hx S n
  have h2:=abP hx n
  unfold fb
  split
  ·show(0≤min _ _∧min _ _≤100)∧0≤max _ _∧max _ _≤100
   omega
  ·exact h1
def ed (x:Lo)(b:Nat):Int × Int:=fb x (gf x b) (x.nL+1)
theorem acZ {x:Lo}(hx:dp x){b:Nat}(hb:b<x.nB):gf x b<32:=by
 obtain⟨h1,h2,h3⟩:=Gr.A6 (hx.gb b hb)
 exact Gr.Le h1 h3
theorem sk:Body P 43:=aw Tryz.func43 (c:=code Tryz.f43) rfl (by decide)
section
variable {x:Lo}{es:List ((Nat × Nat) × Bool)}{b:Nat}{Rv:SV→List (Nat × HB)→Nat→Prop}{Rp:List PanicEntry→List (Nat × HB)→Nat→Prop}
theorem tM (hx:dp x)(hb:b<x.nB)(aY:Rv (.agg [.si .i64 (ed x b).1,.si .i64 (ed x b).2]) (ey x es x.nB) 8):bG P 43 [.sp 7 0,.si .i64 ((gf x b:Nat):Int)] (ey x es x.nB) 8 Rv Rp:=by
 have hL:=hx.nL
 have hP:=hx.nP
 have hS:=acZ hx hb
 unfold ed at aY
 obtain⟨S,mV⟩:∃S,gf x b=S:=⟨_,rfl⟩
 rw[mV] at aY hS ⊢
 refine eI (ι:=Unit) ah.ok Tryz.func43 (c:=code Tryz.f43) rfl (Nat.le_of_ble_eq_true rfl) (λ_=>.agg [.si .i64 (fb x S (x.nL+1)).1,.si .i64 (fb x S (x.nL+1)).2]) (λ_=>ey x es x.nB) 8 (λG hG=>?_) (λ_=>aY)
 refine aa.mk (show ae .i64 ((x.nL:Int)+1) from⟨by omega,by omega⟩) ?_
 refine cm (ah.ok _ _ _) 8 (λi:{i:Nat // i≤x.nL+1}=>⟨[(0,⟨[],.sp 7 0⟩),(1,⟨[],.si .i64 (S:Int)⟩),(4,⟨[],.sp 8 0⟩),(14,⟨[],.si .i64 ((x.nL:Int)+1)⟩),(15,⟨[],.si .i64 (i.1:Int)⟩)],[],(8,.cells 36 [.si .i64 (fb x S i.1).1,.si .i64 (fb x S i.1).2])::ey x es x.nB,9,[]⟩) (λi=>x.nL+1-i.1) hG ⟨0,Nat.zero_le _⟩ (λj=>j) ⟨AU,AU,rfl,rfl,rfl,rfl,trivial⟩ ?_
 rintro⟨i,hi⟩
 have hi:i≤x.nL+1:=hi
 have hw:=zx hx S i
 refine Br.mk (λh=>?_) (λh=>?_)
 ·have h:(i:Int)<(x.nL:Int)+1:=of_decide_eq_true h
  refine aa.mk (show(0:Int)≤(i:Int)∧(i:Int).toNat≤IntKind.i64.bits from⟨by omega,by show(i:Int).toNat≤64;omega⟩) ?_
  have JO:=Li (S:=S) (w:=i) (by omega)
  refine aa.mk ⟨JO.1,by decide,(show ae .i64 (((S:Nat):Int).fdiv (2 ^ (i:Int).toNat)) from⟨by omega,by omega⟩),by decide,by decide⟩ ?_
  refine Br.mk (λh4=>?_) (λh4=>?_)
  ·have h4:decide (((((S:Nat):Int).fdiv (2 ^ (i:Int).toNat)).toNat &&& (1:Int).toNat:Nat)=(0:Int))=true:=h4
   rw[zj] at h4
   have pg:S.testBit i=false:=by
    cases hb:S.testBit i with
    |false=>rfl
    |true=>rw[hb] at h4;simp at h4
   have e1:fb x S i=fb x S (i+1):=by rw[fb,if_neg (by rw[pg];decide)]
   have e2:=congrArg Prod.fst e1
   have e3:=congrArg Prod.snd e1
   refine aa.mk (show ae .i64 ((i:Int)+1) from⟨by omega,by omega⟩) ⟨⟨i+1,(by omega:i+1≤x.nL+1)⟩,(λj=>j),⟨AU,AU,rfl,rfl,rfl,rfl,trivial⟩,by show x.nL+1-(i+1)<x.nL+1-i;omega⟩
  have h4:decide (((((S:Nat):Int).fdiv (2 ^ (i:Int).toNat)).toNat &&& (1:Int).toNat:Nat)=(0:Int))=false:=h4
  rw[zj] at h4
  have pg:S.testBit i=true:=by
   cases hb:S.testBit i with
   |true=>rfl
   |false=>rw[hb] at h4;simp at h4
  refine Br.mk (λh5=>?_) (λh5=>?_)
  ·have h5:(i:Int)<(x.nP:Int):=of_decide_eq_true h5
   have ep:nr x i=x.bE i:=by unfold nr;rw[if_pos (by omega)]
   have e2:min (fb x S i).1 (x.bE i)=(fb x S (i+1)).1:=by rw[fb,if_pos pg,ep]
   have e3:max (fb x S i).2 (x.bE i)=(fb x S (i+1)).2:=by rw[fb,if_pos pg,ep]
   refine aa.mk (show(0:Int)≤(i:Int)∧(i:Int)<(x.nP:Int) from⟨by omega,h5⟩) ?_
   refine aa.mk (show ae .i64 ((i:Int)+1) from⟨by omega,by omega⟩) ⟨⟨i+1,(by omega:i+1≤x.nL+1)⟩,(λj=>j),⟨AU,AU,rfl,rfl,rfl,rfl,trivial⟩,by show x.nL+1-(i+1)<x.nL+1-i;omega⟩
  ·have h5:¬(i:Int)<(x.nP:Int):=of_decide_eq_false h5
   have ep:nr x i=0:=by unfold nr;rw[if_neg (by omega)]
   have e2:min (fb x S i).1 0=(fb x S (i+1)).1:=by rw[fb,if_pos pg,ep]
   have e3:max (fb x S i).2 0=(fb x S (i+1)).2:=by rw[fb,if_pos pg,ep]
   refine aa.mk (show ae .i64 ((i:Int)+1) from⟨by omega,by omega⟩) ⟨⟨i+1,(by omega:i+1≤x.nL+1)⟩,(λj=>j),⟨AU,AU,rfl,rfl,rfl,rfl,trivial⟩,by show x.nL+1-(i+1)<x.nL+1-i;omega⟩
 ·have h:¬(i:Int)<(x.nL:Int)+1:=of_decide_eq_false h
  obtain rfl:i=x.nL+1:=by omega
  exact⟨(),(λj=>j),AU,AU,rfl,rfl,rfl,rfl⟩
end
def mI:Ct:=λfr args H=>match args with
 |[.agg l,.si .i64 b]=>mq H l λx C=>some ⟨some (C∧dp x∧0≤b∧b≤(x.nB:Int)-1),none,.bn [.agg [.si .i64 (ed x b.toNat).1,.si .i64 (ed x b.toNat).2],.si .i64 0],[]⟩
 |_=>none
theorem DH:cY mI:=by
 intro fr args H H' out hH h
 unfold mI at h ⊢
 split at h
 ·exact uS hH h
 ·cases h
theorem yM:aP P 15 mI:=by
 have g:=ah
 refine sD (C:=aC _) g.ok T9 Tryz.func15 (c:=code Tryz.f15) rfl λfr args H out h hp=>?_
 unfold mI at h
 split at h
 case h_2=>cases h
 rename_i l b
 obtain⟨i0,i1,i2,i3,x,C,rfl,hh,h⟩:=wX h
 cases h
 obtain⟨hC,hx,lq,kW⟩:C∧dp x∧0≤b∧b≤(x.nB:Int)-1:=hp
 refine⟨jU i0 i1 i2 i3 x,[.agg (e_ 0 1 2 3 x),.si .i64 b],H4 x,4,[],rfl,rfl,Nat.le_of_ble_eq_true rfl,hh hC,rfl,rfl,λG hG=>?_⟩
 clear hh hC
 obtain⟨b,rfl⟩:∃n:Nat,b=(n:Int):=⟨b.toNat,by omega⟩
 have IW:b<x.nB:=by omega
 rw[Int.toNat_natCast]
 refine sK 47 6 (g.ok _ _ _) rfl aj rfl rfl rfl rfl rfl rfl rfl ?_
 refine av (g.ok _ _ _) aj rfl rfl rfl rfl ⟨sn,cT ah.ok Tryz.func46 (c:=code Tryz.f46) rfl (Nat.le_of_ble_eq_true rfl) λG2 b_=>?_⟩
 refine av (ah.ok _ _ _) aj rfl rfl rfl rfl ⟨vv,?_⟩
 refine ug 3 (λi=>j_ (0,0,0)) (fun ρ h=>FP h) ?_
 refine aO [.agg (e_ 0 1 2 3 x),.sl 4,mo true] (w9 true x 0 (λ_=>(0,0,0)) b) 6 (λj=>match j with|4=>9|5=>8|j=>j) AU rfl AU rfl rfl ?_
 refine ze true hx (Nat.zero_le _) (λ_=>⟨lq,kW⟩) (λi hi=>absurd hi (Nat.not_lt_zero _)) ⟨rfl,AU,AU,?_⟩
 refine aa.mk (show(0:Int)≤(b:Int)∧(b:Int)<(x.nB:Int) from⟨lq,by omega⟩) ?_
 refine av (g.ok _ _ _) aj rfl rfl rfl rfl ⟨sk,?_⟩
 refine aO [.sp 7 0,.si .i64 ((gf x b:Nat):Int)] (ey x [] x.nB) 8 (λj=>match j with|4=>10|5=>11|6=>12|7=>13|j=>j) AU rfl AU rfl rfl ?_
 refine tM hx IW ⟨rfl,AU,AU,?_⟩
 exact⟨.inl rfl,bU AU rfl rfl AU⟩
theorem AZ {l:List (Nat × Ct)}(g:Good P T l):Good P T ((15,mI)::l):=g.add yM DH (aw Tryz.func15 (c:=code Tryz.f15) rfl (by decide))
def fQ (f:Nat→Int × Int):Nat→Int × Int
 |0=>(0,0)
 |n+1=>((fQ f n).1+(f n).1,(fQ f n).2+(f n).2)
theorem LB {f:Nat→Int × Int}:∀n,(∀i,i<n→(0≤(f i).1∧(f i).1≤100)∧0≤(f i).2∧(f i).2≤100)→(0≤(fQ f n).1∧(fQ f n).1≤100*(n:Int))∧0≤(fQ f n).2∧(fQ f n).2≤100*(n:Int)
 |0,_=>by show(0≤(0:Int)∧(0:Int)≤100*((0:Nat):Int))∧0≤(0:Int)∧(0:Int)≤100*((0:Nat):Int);decide
 |n+1,h=>by
  have h1:=LB n (λi hi=>h i (by omega))
  have h2:=h n (by omega)
  show(0≤(fQ f n).1+(f n).1∧(fQ f n).1+(f n).1≤100*((n+1:Nat):Int))∧0≤(fQ f n).2+(f n).2∧(fQ f n).2+(f n).2≤100*((n+1:Nat):Int)
  omega
theorem Uz:Body P 44:=aw Tryz.func44 (c:=code Tryz.f44) rfl (by decide)
section
variable {Rv:SV→List (Nat × HB)→Nat→Prop}{Rp:List PanicEntry→List (Nat × HB)→Nat→Prop}
theorem s44 {n:Nat}{f:Nat→Int × Int}(hn:n≤1000)(hf:∀i,i<n→(0≤(f i).1∧(f i).1≤100)∧0≤(f i).2∧(f i).2≤100)(aY:Rv (.agg [.si .i64 (fQ f n).1,.si .i64 (fQ f n).2]) [(0,.vec 36 2 n λi=>az (f i))] 1):bG P 44 [.sl 0] [(0,.vec 36 2 n λi=>az (f i))] 1 Rv Rp:=by
 refine eI (ι:=Unit) ah.ok Tryz.func44 (c:=code Tryz.f44) rfl (Nat.le_of_ble_eq_true rfl) (λ_=>.agg [.si .i64 (fQ f n).1,.si .i64 (fQ f n).2]) (λ_=>[(0,.vec 36 2 n λi=>az (f i))]) 1 (λG hG=>?_) (λ_=>aY)
 refine cm (ah.ok _ _ _) 1 (λi:{i:Nat // i≤n}=>⟨[(2,⟨[],.sp 1 0⟩),(5,⟨[],.sl 0⟩),(6,⟨[],.si .i64 (n:Int)⟩),(7,⟨[],.si .i64 (i.1:Int)⟩)],[],[(1,.cells 36 [.si .i64 (fQ f i.1).1,.si .i64 (fQ f i.1).2]),(0,.vec 36 2 n λi=>az (f i))],2,[]⟩) (λi=>n-i.1) hG ⟨0,Nat.zero_le _⟩ (λj=>j) ⟨AU,AU,rfl,rfl,rfl,rfl,trivial⟩ ?_
 rintro⟨i,hi⟩
 have hi:i≤n:=hi
 have hs:=LB i (λj hj=>hf j (by omega))
 refine Br.mk (λh=>?_) (λh=>?_)
 ·have h:(i:Int)<(n:Int):=of_decide_eq_true h
  have hw:=hf i (by omega)
  refine aa.mk (show(0:Int)≤(i:Int)∧(i:Int)<(n:Int) from⟨by omega,h⟩) ?_
  refine aa.mk (show ae .i64 ((fQ f i).1+(f i).1) from⟨by omega,by omega⟩) (aa.mk (show ae .i64 ((fQ f i).2+(f i).2) from⟨by omega,by omega⟩) ?_)
  refine aa.mk (show ae .i64 ((i:Int)+1) from⟨by omega,by omega⟩) ⟨⟨i+1,(by omega:i+1≤n)⟩,(λj=>j),⟨AU,AU,rfl,rfl,rfl,rfl,trivial⟩,by show n-(i+1)<n-i;omega⟩
 ·have h:¬(i:Int)<(n:Int):=of_decide_eq_false h
  obtain rfl:i=n:=by omega
  exact⟨(),(λj=>j),AU,AU,rfl,rfl,rfl,rfl⟩
end
end Go.X.Lt
namespace Go.X.Lt
open Go Go.Proofs Go.X
open Go.X.Gr (aB az au bQ dj ca da hasB cD dW eA aE bZ iC bc bR code fq)
abbrev Et:=Nat × Nat × Int
def jd (e:Et):En:=((e.1:Int),(e.2.1:Int),e.2.2)
structure r9 (x:Lo) (n:Nat) (en:Nat→Et):Prop where
 le:n≤8
 b:∀i,i<n→(en i).1<x.nB∧(en i).2.1<x.nL
 su:∀i,i<n→ea x (en i).1 (en i).2.1=true
 bE:∀i,i<n→(en i).2.2=x.bE (en i).2.1
 HQ:∀i j,i<j→j<n→(en i).1≠(en j).1
def xO (x:Lo)(es:List ((Nat × Nat) × Bool))(nE:Nat)(en:Nat→Et):List (Nat × HB):=[(0,.ro 2 x.nL λi=>az (x.li i)),(1,.ro 10 x.nB λi=>dG (x.bl i)),(2,.ro 1 x.nP λi=>iC (x.bE i)),(3,.ro 2 x.nO λi=>az (x.od i)),(4,.mp (bK es)),(5,.mp []),(6,.vec 3 1 x.nB λi=>iC ((gf x i:Nat):Int)),(7,.cells 113 (Lf x)),(8,.ro 3 nE λi=>j_ (jd (en i)))]
theorem xL:Body P 56:=aw Tryz.func56 (c:=code Tryz.f56) rfl (by decide)
section
variable {x:Lo}{es:List ((Nat × Nat) × Bool)}{nE:Nat}{en:Nat→Et}{Rv:SV→List (Nat × HB)→Nat→Prop}{Rp:List PanicEntry→List (Nat × HB)→Nat→Prop}
theorem zg (hx:dp x)(he:r9 x nE en)(hk:dV x es)(aY:∀a9,dV x a9→Rv (.bn [.si .i64 0,.si .i64 0]) (xO x a9 nE en) 9):bG P 56 [.sp 7 0,.sl 8] (xO x es nE en) 9 Rv Rp:=by
 have g:=ah
 have hE:=he.le
 have hP:=hx.nP
 refine eI (ι:={a9 // dV x a9}) g.ok Tryz.func56 (c:=code Tryz.f56) rfl (Nat.le_of_ble_eq_true rfl) (λ_=>.bn [.si .i64 0,.si .i64 0]) (λa9=>xO x a9.1 nE en) 9 (λG hG=>?_) (λa9=>aY a9.1 a9.2)
 refine sL (g.ok _ _ _) aj rfl rfl rfl rfl rfl ?_
 refine cm (g.ok _ _ _) 9 (λz:{z:Nat × List ((Nat × Nat) × Bool) × List (Nat × Bool) // z.1≤nE∧dV x z.2.1∧∀k v,br z.2.2 k=some v→∃j,j<z.1∧(en j).1=k}=>⟨[(0,⟨[],.sp 7 0⟩),(6,⟨[],.sm 9⟩),(10,⟨[],.sl 8⟩),(11,⟨[],.si .i64 (nE:Int)⟩),(12,⟨[],.si .i64 (z.1.1:Int)⟩)],[],(9,.mp (dT nK bV z.1.2.2))::xO x z.1.2.1 nE en,10,[]⟩) (λz=>nE-z.1.1) hG ⟨(0,es,[]),Nat.zero_le _,hk,λk v h=>by cases h⟩ (λj=>j) ⟨AU,AU,rfl,rfl,rfl,rfl,trivial⟩ ?_
 rintro⟨⟨i,dq,sl⟩,hi,c9,pC⟩
 have hi:i≤nE:=hi
 have c9:dV x dq:=c9
 have pC:∀k v,br sl k=some v→∃j,j<i∧(en j).1=k:=pC
 refine Br.mk (λh=>?_) (λh=>?_)
 ·have h:(i:Int)<(nE:Int):=of_decide_eq_true h
  have EN:i<nE:=by omega
  obtain⟨kW,jT⟩:=he.b i EN
  have q1:(!ea x (en i).1 (en i).2.1)=false:=by rw[he.su i EN];rfl
  have q2:(!decide ((en i).2.2=x.bE (en i).2.1))=false:=by rw[he.bE i EN];simp
  refine aa.mk (show(0:Int)≤(i:Int)∧(i:Int)<(nE:Int) from⟨by omega,h⟩) ?_
  refine mR nK bV sl (en i).1 9 (g.ok _ _ _) aj rfl rfl rfl rfl rfl rfl rfl rfl rfl nk Dy rfl rfl rfl (λ_=>⟨λv hv=>?_,λhv=>?_⟩)
  ·exfalso
   obtain⟨j,hj,e⟩:=pC _ _ hv
   exact he.HQ j i hj EN e
  refine Br.mk (λh=>absurd h (by decide)) (λ_=>?_)
  refine av (g.ok _ _ _) aj rfl rfl rfl rfl ⟨xK,?_⟩
  refine aO [.sp 7 0,.agg [.si .i64 ((en i).1:Int),.si .i64 ((en i).2.1:Int)]] (ey x dq x.nB) 8 (λj=>j) AU rfl AU rfl rfl ?_
  refine zf hx kW jT c9 λa9 bW=>⟨rfl,AU,AU,?_⟩
  refine Br.mk (λh=>absurd (q1.symm.trans h) (by decide)) (λ_=>?_)
  refine cU (g.ok _ _ _) bP [0,1,0,4,12,28,60,0,128,508,1020,2047,4095] [] 13 (by kernel_rfl) ?_
  refine aa.mk (show(0:Int)≤((en i).2.1:Int)∧((en i).2.1:Int)<(x.nP:Int) from⟨by omega,by omega⟩) ?_
  refine Br.mk (λh=>absurd (q2.symm.trans h) (by decide)) (λ_=>?_)
  refine mS nK bV sl (en i).1 true _ rfl 9 (g.ok _ _ _) aj rfl (.inl rfl) rfl rfl rfl rfl nk Dy rfl rfl rfl rfl λ_=>?_
  refine aa.mk (show ae .i64 ((i:Int)+1) from⟨by omega,by omega⟩) ⟨⟨(i+1,a9,bN sl (en i).1 true),(by show i+1≤nE;omega),bW,λk v hv=>?_⟩,(λj=>j),⟨AU,AU,rfl,rfl,rfl,rfl,trivial⟩,by show nE-(i+1)<nE-i;omega⟩
  have hv:br (bN sl (en i).1 true) k=some v:=hv
  rw[Cj] at hv
  split at hv
  ·rename_i e;exact⟨i,Nat.lt_succ_self i,e⟩
  ·obtain⟨j,hj,e⟩:=pC k v hv
   exact⟨j,Nat.lt_succ_of_lt hj,e⟩
 ·exact⟨⟨dq,c9⟩,(λj=>j),AU,AU,rfl,rfl,rfl,rfl⟩
end
theorem aa1 {H:LH}{l:List SV}{K:Lo→Prop→Option cJ}{out:cJ}(h:mq H l K=some out) :
  ∃i0 i1 i2 i3 x C,l=e_ i0 i1 i2 i3 x∧(C→∀s,qX H s i0 (.ro 2 x.nL λi=>az (x.li i))∧qX H s i1 (.ro 10 x.nB λi=>dG (x.bl i))∧qX H s i2 (.ro 1 x.nP λi=>iC (x.bE i))∧qX H s i3 (.ro 2 x.nO λi=>az (x.od i)))∧K x C=some out:=by
 unfold mq at h
 split at h
 ·split at h
  ·rename_i i0 st i1 i2 g7 i3 _ _ _ _ n0 g0 n1 g1 n2 g2 n3 g3 e0 e1 e2 e3
   refine⟨i0,i1,i2,i3,⟨n0,au g0,st,n1,DD g1,n2,bc g2,g7,n3,au g3⟩,_,rfl,λhC s=>?_,h⟩
   obtain⟨h0,h1,h2,h3⟩:=hC
   exact⟨gK e0 λi hi=>by rw[h0 i hi];rfl,gK e1 λi hi=>by rw[h1 i hi];rfl,gK e2 λi hi=>by rw[h2 i hi];rfl,gK e3 λi hi=>by rw[h3 i hi];rfl⟩
  ·cases h
 ·cases h
def ye (get:Nat→List SV)(i:Nat):Et:=match get i with
 |[.si .i64 b,.si .i64 g,.si .i64 p]=>(b.toNat,g.toNat,p)
 |_=>(0,0,0)
def GN (n:Nat)(get:Nat→List SV):Prop:=∀i,i<n→get i=j_ (jd (ye get i))
def uR (args:List SV)(H:LH)(V:Nat→(Nat→Et)→SV):Option cJ:=match args with
 |[.agg l,.sl e]=>(match cn 3 H e with
  |some (n,get)=>mq H l λx C=>some ⟨some (C∧dp x∧GN n get∧r9 x n (ye get)),none,V n (ye get),[]⟩
  |none=>none)
 |_=>none
theorem QX (V:Nat→(Nat→Et)→SV):cY λ_ args H=>uR args H V:=by
 intro fr args H H' out hH h
 have h:uR args H V=some out:=h
 show uR args H' V=some out
 unfold uR at h ⊢
 split at h
 ·split at h
  ·rename_i e1
   simp only[fk hH e1]
   exact uS hH h
  ·cases h
 ·cases h
def FA (i0 i1 i2 i3 i4:Nat)(x:Lo)(n:Nat)(en:Nat→Et):List (Nat × HB):=[(i0,.ro 2 x.nL λi=>az (x.li i)),(i1,.ro 10 x.nB λi=>dG (x.bl i)),(i2,.ro 1 x.nP λi=>iC (x.bE i)),(i3,.ro 2 x.nO λi=>az (x.od i)),(i4,.ro 3 n λi=>j_ (jd (en i)))]
theorem QY {args:List SV}{H:LH}{V:Nat→(Nat→Et)→SV}{out:cJ}(h:uR args H V=some out)(hp:fc out.pre) :
  ∃i0 i1 i2 i3 i4 x n en,args=[.agg (e_ i0 i1 i2 i3 x),.sl i4]∧Hand H (FA i0 i1 i2 i3 i4 x n en)∧dp x∧r9 x n en∧out.bL=none∧out.v=V n en∧out.news=[]:=by
 unfold uR at h
 split at h
 ·rename_i l e
  split at h
  ·rename_i n get e4
   obtain⟨i0,i1,i2,i3,x,C,rfl,hh,h⟩:=aa1 h
   cases h
   obtain⟨hC,hx,hs,he⟩:C∧dp x∧GN n get∧r9 x n (ye get):=hp
   refine⟨i0,i1,i2,i3,e,x,n,ye get,rfl,uq ?_ ?_ rfl,hx,he,rfl,rfl,rfl⟩
   ·obtain⟨p0,p1,p2,p3⟩:=hh hC (nz (FA i0 i1 i2 i3 e x n (ye get)))
    exact⟨p0,p1,p2,p3,gK e4 λi hi=>by rw[hs i hi];rfl,trivial⟩
   ·exact⟨λi hi=>AU,λi hi=>AU,λi hi=>AU,λi hi=>AU,λi hi=>AU,trivial⟩
  ·cases h
 ·cases h
def H5 (x:Lo)(n:Nat)(en:Nat→Et):List (Nat × HB):=[(0,.ro 2 x.nL λi=>az (x.li i)),(1,.ro 10 x.nB λi=>dG (x.bl i)),(2,.ro 1 x.nP λi=>iC (x.bE i)),(3,.ro 2 x.nO λi=>az (x.od i)),(4,.ro 3 n λi=>j_ (jd (en i)))]
def my (en:Nat→Et):Nat→Int
 |0=>0
 |n+1=>my en n+(en n).2.2
theorem KV {x:Lo}(hx:dp x){nE:Nat}{en:Nat→Et}(he:r9 x nE en):∀n,n≤nE→0≤my en n∧my en n≤100*(n:Int)
 |0,_=>by show(0:Int)≤0∧(0:Int)≤100*((0:Nat):Int);decide
 |n+1,h=>by
  have h1:=KV hx he n (by omega)
  have h2:=he.b n (by omega)
  have h3:=hx.bE (en n).2.1 (by rw[hx.nP];exact h2.2)
  rw[←he.bE n (by omega)] at h3
  show 0≤my en n+(en n).2.2∧my en n+(en n).2.2≤100*((n+1:Nat):Int)
  omega
def Hh:Ct:=λ_ args H=>uR args H (λ_ _=>.bn [.si .i64 0,.si .i64 0,.si .i64 4])
theorem k18:aP P 18 Hh:=by
 have g:=v5 ah
 refine sD (C:=aC _) g.ok T_ Tryz.func18 (c:=code Tryz.f18) rfl λfr args H out h hp=>?_
 obtain⟨i0,i1,i2,i3,i4,x,n,en,rfl,hh,hx,he,uG,mY,BC⟩:=QY h hp
 obtain⟨pre,bL,v,news⟩:=out
 obtain rfl:bL=none:=uG
 obtain rfl:v=_:=mY
 obtain rfl:news=[]:=BC
 refine⟨FA i0 i1 i2 i3 i4 x n en,[.agg (e_ 0 1 2 3 x),.sl 4],H5 x n en,5,[],rfl,rfl,Nat.le_of_ble_eq_true rfl,hh,rfl,rfl,λG hG=>?_⟩
 clear hh h hp
 have hE:=he.le
 have Bh:∀i,i<n→(0≤(jd (en i)).1∧(jd (en i)).1<(x.nB:Int))∧0≤(jd (en i)).2.1∧(jd (en i)).2.1<(x.nL:Int):=λi hi=>by
  have:=he.b i hi
  show(0≤((en i).1:Int)∧((en i).1:Int)<(x.nB:Int))∧0≤((en i).2.1:Int)∧((en i).2.1:Int)<(x.nL:Int)
  omega
 refine sK 55 6 (g.ok _ _ _) rfl aj rfl rfl rfl rfl rfl rfl rfl ?_
 refine av (g.ok _ _ _) aj rfl rfl rfl rfl ⟨vv,?_⟩
 refine ug 1 (λi=>[]) (fun ρ h aM hv=>hv) ?_
 refine aO [.agg (e_ 0 1 2 3 x),.sl 4,mo false] (w9 false x n (λi=>jd (en i)) 0) 6 (λj=>match j with|5=>7|j=>j) AU rfl AU rfl rfl ?_
 refine ze false hx hE (λh=>by cases h) Bh ⟨rfl,AU,AU,?_⟩
 refine av (g.ok _ _ _) aj rfl rfl rfl rfl ⟨xL,?_⟩
 refine aO [.sp 7 0,.sl 8] (xO x [] n en) 9 (λj=>match j with|4=>8|5=>9|6=>10|7=>11|8=>4|j=>j) AU rfl AU rfl rfl ?_
 refine zg hx he (Fq x) λa9 bW=>⟨rfl,AU,AU,?_⟩
 refine Br.mk (λ_=>?_) (λh=>absurd h (by decide))
 exact⟨.inl rfl,bU AU rfl rfl AU⟩
theorem Xf {l:List (Nat × Ct)}(g:Good P T l):Good P T ((18,Hh)::l):=g.add k18 (QX _) (aw Tryz.func18 (c:=code Tryz.f18) rfl (by decide))
def rb:Ct:=λ_ args H=>uR args H (λn en=>.bn [.si .i64 (my en n),.si .i64 0])
theorem Kb:aP P 19 rb:=by
 have g:=v5 ah
 refine sD (C:=aC _) g.ok Ua Tryz.func19 (c:=code Tryz.f19) rfl λfr args H out h hp=>?_
 obtain⟨i0,i1,i2,i3,i4,x,n,en,rfl,hh,hx,he,uG,mY,BC⟩:=QY h hp
 obtain⟨pre,bL,v,news⟩:=out
 obtain rfl:bL=none:=uG
 obtain rfl:v=_:=mY
 obtain rfl:news=[]:=BC
 refine⟨FA i0 i1 i2 i3 i4 x n en,[.agg (e_ 0 1 2 3 x),.sl 4],H5 x n en,5,[],rfl,rfl,Nat.le_of_ble_eq_true rfl,hh,rfl,rfl,λG hG=>?_⟩
 clear hh h hp
 have hE:=he.le
 have Bh:∀i,i<n→(0≤(jd (en i)).1∧(jd (en i)).1<(x.nB:Int))∧0≤(jd (en i)).2.1∧(jd (en i)).2.1<(x.nL:Int):=λi hi=>by
  have:=he.b i hi
  show(0≤((en i).1:Int)∧((en i).1:Int)<(x.nB:Int))∧0≤((en i).2.1:Int)∧((en i).2.1:Int)<(x.nL:Int)
  omega
 refine sK 58 6 (g.ok _ _ _) rfl aj rfl rfl rfl rfl rfl rfl rfl ?_
 refine av (g.ok _ _ _) aj rfl rfl rfl rfl ⟨vv,?_⟩
 refine ug 1 (λi=>[]) (fun ρ h aM hv=>hv) ?_
 refine aO [.agg (e_ 0 1 2 3 x),.sl 4,mo false] (w9 false x n (λi=>jd (en i)) 0) 6 (λj=>match j with|5=>7|j=>j) AU rfl AU rfl rfl ?_
 refine ze false hx hE (λh=>by cases h) Bh ⟨rfl,AU,AU,?_⟩
 refine av (g.ok _ _ _) aj rfl rfl rfl rfl ⟨xL,?_⟩
 refine aO [.sp 7 0,.sl 8] (xO x [] n en) 9 (λj=>match j with|4=>8|5=>9|6=>10|7=>11|8=>4|j=>j) AU rfl AU rfl rfl ?_
 refine zg hx he (Fq x) λa9 bW=>⟨rfl,AU,AU,?_⟩
 refine Br.mk (λh=>absurd h (by decide)) (λ_=>?_)
 refine cm (g.ok _ _ _) 5 (λi:{i:Nat // i≤n}=>⟨[(5,⟨[],.sp 6 0⟩),(8,⟨[],.si .i64 (my en i.1)⟩),(23,⟨[],.sl 4⟩),(24,⟨[],.si .i64 (n:Int)⟩),(25,⟨[],.si .i64 (i.1:Int)⟩)],[],(6,.cells 47 [.si .i64 0])::H5 x n en,7,[(1000000,[.si .i64 58,.sp 6 0])]⟩) (λi=>n-i.1) hG ⟨0,Nat.zero_le _⟩ (λj=>j) ⟨AU,AU,rfl,rfl,rfl,rfl,AU⟩ ?_
 rintro⟨i,hi⟩
 have hi:i≤n:=hi
 have hs:=KV hx he i hi
 refine Br.mk (λh=>?_) (λh=>?_)
 ·have h:(i:Int)<(n:Int):=of_decide_eq_true h
  have ew:=KV hx he (i+1) (by omega)
  refine aa.mk (show(0:Int)≤(i:Int)∧(i:Int)<(n:Int) from⟨by omega,h⟩) ?_
  refine aa.mk (show ae .i64 (my en (i+1)) from⟨by omega,by omega⟩) ?_
  refine aa.mk (show ae .i64 ((i:Int)+1) from⟨by omega,by omega⟩) ⟨⟨i+1,(by omega:i+1≤n)⟩,(λj=>j),⟨AU,AU,rfl,rfl,rfl,rfl,AU⟩,by show n-(i+1)<n-i;omega⟩
 ·have h:¬(i:Int)<(n:Int):=of_decide_eq_false h
  obtain rfl:i=n:=by omega
  exact⟨.inl rfl,bU AU rfl rfl AU⟩
theorem A0 {l:List (Nat × Ct)}(g:Good P T l):Good P T ((19,rb)::l):=g.add Kb (QX _) (aw Tryz.func19 (c:=code Tryz.f19) rfl (by decide))
end Go.X.Lt
