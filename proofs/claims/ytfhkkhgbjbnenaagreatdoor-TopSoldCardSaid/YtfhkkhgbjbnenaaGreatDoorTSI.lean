/- Warm: what a pair shows; Wear: follow: forward. -/
import Derived.Test.YtfhkkhgbjbnenaaGreatDoorTSH
import Derived.Test.YtfhkkhgbjbnenaaGreatDoorTSD
import Derived.Test.YtfhkkhgbjbnenaaGreatDoorTSG

set_option linter.unusedVariables false
set_option linter.unusedSimpArgs false
set_option linter.unusedSectionVars false
set_option maxRecDepth 100000
set_option maxHeartbeats 4000000

namespace Go.X.W
open Go Go.Proofs Go.X
def bY (k x:Int):Prop:=-k≤x∧x≤k
theorem FJ {x y k m:Int}(hx:bY k x)(hy:bY m y)(hk:0≤k)(hm:0≤m):bY (k*m) (x*y):=by
 unfold bY at *
 have h1:x*y≤k*m∧-(k*m)≤x*y:=by
  rcases Int.le_total 0 x with h0|h0<;>rcases Int.le_total 0 y with g0|g0
  ·have a1:=Int.mul_le_mul hx.2 hy.2 g0 hk
   have a2:=Int.mul_nonneg h0 g0
   have a3:=Int.mul_nonneg hk hm
   omega
  ·have a1:=Int.mul_le_mul hx.2 (show -y≤m by omega) (by omega) hk
   have a2:=Int.mul_nonneg h0 (show 0≤-y by omega)
   have a3:=Int.mul_nonneg hk hm
   rw[Int.mul_neg] at a1 a2
   omega
  ·have a1:=Int.mul_le_mul (show -x≤k by omega) hy.2 g0 hk
   have a2:=Int.mul_nonneg (show 0≤-x by omega) g0
   have a3:=Int.mul_nonneg hk hm
   rw[Int.neg_mul] at a1 a2
   omega
  ·have a1:=Int.mul_le_mul (show -x≤k by omega) (show -y≤m by omega) (by omega) hk
   have a2:=Int.mul_nonneg (show 0≤-x by omega) (show 0≤-y by omega)
   have a3:=Int.mul_nonneg hk hm
   rw[Int.neg_mul_neg] at a1 a2
   omega
 omega
def CD (a b c:Int):Nat→Int
 |0=>1
 |1=>a
 |2=>a*b
 |_=>a*b*c
def Du (a b c:Int):Nat→Int
 |0=>a
 |1=>b
 |_=>c
def qc:Ct:=λ_ args H=>match args with
 |[.sl id]=>(match cn 1 H id with
  |some (3,get)=>(match get 0,get 1,get 2 with
   |[.si .i64 a],[.si .i64 b],[.si .i64 c]=>some ⟨some (bY 1000 a∧bY 1000 b∧bY 1000 c),none,.si .i64 (a*b*c),[]⟩
   |_,_,_=>none)
  |_=>none)
 |_=>none
theorem He:cY qc:=by
 intro fr args H H' out hH h
 unfold qc at h ⊢
 split at h
 ·split at h
  ·rename_i e
   simp only[fk hH e]
   exact h
  ·cases h
 ·cases h
theorem Fk {l:List (Nat × Ct)}(g:Good P T l):aP P 130 qc:=by
 refine bq (C:=aC _) g.ok Tryz.func130 (c:=code Tryz.f130) rfl λfr args H out h hp=>?_
 unfold qc at h
 split at h
 ·rename_i id
  split at h
  ·rename_i get e
   split at h
   ·rename_i a b c e0 e1 e2
    cases h
    obtain⟨ha,hb,hc⟩:bY 1000 a∧bY 1000 b∧bY 1000 c:=hp
    have yv:=FJ ha hb (by decide) (by decide)
    have Yg:=FJ yv hc (by decide) (by decide)
    unfold bY at ha hb hc yv Yg
    have hh:Hand H [(id,.ro 1 3 λi=>[.si .i64 (Du a b c i)])]:=kU e (λi=>rfl) (λi hi=>by
     rcases(show i=0∨i=1∨i=2 by omega) with rfl|rfl|rfl
     ·exact e0.symm
     ·exact e1.symm
     ·exact e2.symm)
    refine⟨_,[.sl 0],[(0,.ro 1 3 λi=>[.si .i64 (Du a b c i)])],1,[],rfl,rfl,Nat.le_of_ble_eq_true rfl,hh,rfl,rfl,λG hG=>?_⟩
    refine rI (g.ok _ _ _) (λx:{i:Nat // i≤3}=>⟨[(0,⟨[],.sl 0⟩),(3,⟨[],.si .i64 (CD a b c x.1)⟩),(6,⟨[],.sl 0⟩),(7,⟨[],.si .i64 3⟩),(8,⟨[],.si .i64 x.1⟩)],[],
     [(0,.ro 1 3 λi=>[.si .i64 (Du a b c i)])],1,[]⟩) (λx=>3-x.1) (λ_ j hj=>hG j hj) ⟨0,Nat.zero_le _⟩ ?_ ?_
    ·refine⟨?_,?_,rfl,rfl,rfl⟩<;>exact Q0
    ·rintro⟨i,hi⟩
     refine Br.mk (λh=>?_) (λh=>?_)
     ·have h:(i:Int)<3:=of_decide_eq_true h
      have key:∀(v w:Int),(i=0∧v=a∨i=1∧v=b∨i=2∧v=c)→CD a b c i*v=CD a b c (i+1)∧ae .i64 (CD a b c i*v):=by
       rintro v w (⟨rfl,rfl⟩|⟨rfl,rfl⟩|⟨rfl,rfl⟩)
       ·have:CD v b c 0*v=v:=Int.one_mul _
        exact⟨this,by rw[this];exact⟨by omega,by omega⟩⟩
       ·exact⟨rfl,⟨show _≤a*v by omega,show a*v≤_ by omega⟩⟩
       ·exact⟨rfl,⟨show _≤a*b*v by omega,show a*b*v≤_ by omega⟩⟩
      refine aa.mk (show(0:Int)≤(i:Int)∧(i:Int)<((3:Nat):Int) from⟨by omega,by omega⟩) ?_
      obtain⟨k1,k2⟩:=key (Du a b c i) 0 (by
       rcases(show i=0∨i=1∨i=2 by omega) with rfl|rfl|rfl
       ·exact .inl ⟨rfl,rfl⟩
       ·exact .inr (.inl ⟨rfl,rfl⟩)
       ·exact .inr (.inr ⟨rfl,rfl⟩))
      refine aa.mk k2 (aa.mk (show ae .i64 ((i:Int)+1) from⟨by omega,by omega⟩) ⟨⟨i+1,by omega⟩,?_,by show 3-(i+1)<3-i;omega⟩)
      refine⟨?_,?_,rfl,rfl,rfl⟩
      ·repeat' (first|exact trivial|exact rfl|refine And.intro ?_ ?_)
       exact k1
      ·exact Q0
     ·have h:¬(i:Int)<3:=of_decide_eq_false h
      have sY:i=3:=by omega
      subst sY
      exact⟨.inl rfl,bU ⟨rfl,rfl⟩ rfl rfl ⟨trivial,trivial⟩⟩
   ·cases h
  ·cases h
 ·cases h
theorem sO {l:List (Nat × Ct)}(g:Good P T l):Good P T ((130,qc)::l):=g.add (Fk g) He (aw Tryz.func130 (c:=code Tryz.f130) rfl (by decide))
def lp (mk a t:Int):Int:=mk*a*t / 10
def Lh (mk:Int)(p:Int × Int)(t:Int):Int:=p.1+lp mk p.2 t
theorem abZ (n:Int):(if n.tmod 10<0 then n.tdiv 10-1 else n.tdiv 10)=n / 10:=by
 rcases Int.le_total 0 n with h|h
 ·rw[Int.tdiv_eq_ediv_of_nonneg h,Int.tmod_eq_emod_of_nonneg h]
  split<;>omega
 ·obtain⟨m,rfl⟩:∃m,n=-m:=⟨-n,by omega⟩
  have hm:0≤m:=by omega
  rw[Int.neg_tdiv,Int.neg_tmod,Int.tdiv_eq_ediv_of_nonneg hm,Int.tmod_eq_emod_of_nonneg hm]
  split<;>omega
theorem adI {n k:Int}(h:bY k n):bY k (n.tdiv 10):=by
 unfold bY at *
 rcases Int.le_total 0 n with h|h
 ·rw[Int.tdiv_eq_ediv_of_nonneg h];omega
 ·obtain⟨m,rfl⟩:∃m,n=-m:=⟨-n,by omega⟩
  have hm:0≤m:=by omega
  rw[Int.neg_tdiv,Int.tdiv_eq_ediv_of_nonneg hm];omega
theorem O6 {mk a t:Int}(h1:bY 1000 mk)(h2:bY 1000 a)(h3:bY 1000 t):bY 1000000000 (mk*a*t)∧bY 100000000 (lp mk a t):=by
 have h:=FJ (FJ h1 h2 (by decide) (by decide)) h3 (by decide) (by decide)
 unfold lp
 unfold bY at *
 omega
def Ht:Ct:=bd fun
 |[.agg [.si .i64 n,.si .i64 a],.si .i64 mk,.si .i64 t]=>some ⟨some (bY 1000 mk∧bY 1000 a∧bY 1000 t),none,.si .i64 (lp mk a t),[]⟩
 |_=>none
theorem k68 {l:List (Nat × Ct)}(g0:Good P T l):aP P 124 Ht:=by
 have g:=sO g0
 refine bq (C:=aC _) g.ok Tryz.func124 (c:=code Tryz.f124) rfl λfr args H out h hp=>?_
 simp only[Ht,bd] at h
 split at h
 ·rename_i n a mk t
  cases h
  obtain⟨h1,h2,h3⟩:bY 1000 mk∧bY 1000 a∧bY 1000 t:=hp
  obtain⟨hb,-⟩:=O6 h1 h2 h3
  have hd:=adI hb
  unfold bY at hb hd
  have hq:=abZ (mk*a*t)
  refine dt rfl (Nat.le_of_ble_eq_true rfl) λG hG=>?_
  refine aa.mk ⟨h1,h2,h3⟩ ?_
  refine aa.mk (show(10:Int)≠0∧_≤(mk*a*t).tdiv 10∧(mk*a*t).tdiv 10≤_ from⟨by decide,by omega,by omega⟩) ?_
  refine aa.mk (show(10:Int)≠0 by decide) ?_
  refine Br.mk (λh=>?_) (λh=>?_)
  ·have h:(mk*a*t).tmod 10<0:=of_decide_eq_true h
   rw[if_pos h] at hq
   refine aa.mk (show _≤(mk*a*t).tdiv 10-1∧(mk*a*t).tdiv 10-1≤_ from⟨by omega,by omega⟩) ⟨.inl rfl,cz ⟨rfl,hq⟩ rfl rfl⟩
  ·have h:¬(mk*a*t).tmod 10<0:=of_decide_eq_false h
   rw[if_neg h] at hq
   exact⟨.inl rfl,cz ⟨rfl,hq⟩ rfl rfl⟩
 ·cases h
theorem OS {l:List (Nat × Ct)}(g:Good P T l):Good P T ((124,Ht)::l):=g.add (k68 g) (cZ _) (aw Tryz.func124 (c:=code Tryz.f124) rfl (by decide))
def Hv:Ct:=bd fun
 |[.agg [.si .i64 n,.si .i64 a],.si .i64 mk,.si .i64 t]=>some ⟨some (bY 1000000 n∧bY 1000 mk∧bY 1000 a∧bY 1000 t),none,.si .i64 (Lh mk (n,a) t),[]⟩
 |_=>none
theorem k81 {l:List (Nat × Ct)}(g0:Good P T l):aP P 179 Hv:=by
 have g:=OS g0
 refine bq (C:=aC _) g.ok Tryz.func179 (c:=code Tryz.f179) rfl λfr args H out h hp=>?_
 simp only[Hv,bd] at h
 split at h
 ·rename_i n a mk t
  cases h
  obtain⟨h0,h1,h2,h3⟩:bY 1000000 n∧bY 1000 mk∧bY 1000 a∧bY 1000 t:=hp
  obtain⟨-,hb⟩:=O6 h1 h2 h3
  unfold bY at hb h0
  refine dt rfl (Nat.le_of_ble_eq_true rfl) λG hG=>?_
  refine cU (g.ok _ _ _) bP [0,1,0,0,0,28,63,127] [] 8 (by kernel_rfl) ?_
  refine aa.mk ⟨h1,h2,h3⟩ ?_
  refine aa.mk (show _≤n+lp mk a t∧n+lp mk a t≤_ from⟨by omega,by omega⟩) ⟨.inl rfl,cz ⟨rfl,rfl⟩ rfl rfl⟩
 ·cases h
theorem XE {l:List (Nat × Ct)}(g:Good P T l):Good P T ((179,Hv)::l):=g.add (k81 g) (cZ _) (aw Tryz.func179 (c:=code Tryz.f179) rfl (by decide))
abbrev Rd:=Int × Int × Int × Int
def eP (r:Rd):List SV:=[.si .i64 r.1,.si .i64 r.2.1,.si .i64 r.2.2.1,.si .i64 r.2.2.2]
def d_ (get:Nat→List SV)(i:Nat):Rd:=match get i with
 |[.si .i64 a,.si .i64 b,.si .i64 c,.si .i64 d]=>(a,b,c,d)
 |_=>(0,0,0,0)
def kL (n:Nat)(get:Nat→List SV):Prop:=∀i,i<n→get i=eP (d_ get i)
def kD (n:Nat)(get:Nat→List SV):List Rd:=(List.range n).map (d_ get)
theorem rT (n:Nat)(rd:Nat→Rd):kL n (λi=>eP (rd i)):=λi hi=>rfl
structure jK where
 mark:Int
 l1:Int
 l2:Int
 c1:Int
 c2:Int
 rs:List Rd
def wA (mk l1 l2 c1 c2:Int)(id:Nat):SV:=.agg [.si .i64 mk,.si .i64 l1,.si .i64 l2,.si .i64 c1,.si .i64 c2,.sl id]
def C6 (k:jK→List SV→Option (Option Prop × SV)):Ct:=λ_ args H =>
 match args with
 |.agg [.si .i64 mk,.si .i64 l1,.si .i64 l2,.si .i64 c1,.si .i64 c2,.sl id]::r=>(match cn 4 H id with
  |some (n,get)=>(match k ⟨mk,l1,l2,c1,c2,kD n get⟩ r with
   |some (p,v)=>some ⟨some (kL n get∧eU 0 [] r=true∧fc p),none,v,[]⟩
   |none=>none)
  |none=>none)
 |_=>none
theorem aer (k:jK→List SV→Option (Option Prop × SV)):cY (C6 k):=by
 intro fr args H H' out hH h
 unfold C6 at h ⊢
 split at h
 ·split at h
  ·rename_i e
   simp only[fk hH e]
   exact h
  ·cases h
 ·cases h
theorem aes {C:Nat→Option Ct}{fn:Func}{c:Code}{k:jK→List SV→Option (Option Prop × SV)}{fr:Nat}{args:List SV}{H:LH}{out:cJ}(ho:C6 k fr args H=some out)(hp:fc out.pre)
  (h:∀(mk l1 l2 c1 c2:Int) (n:Nat) (rd:Nat→Rd) (r:List SV) (p:Option Prop) (v:SV) (Rv:SV→St→Prop),k ⟨mk,l1,l2,c1,c2,(List.range n).map rd⟩ r=some (p,v)→fc p →
   (∀v' st,eY v' v→di 0 [] v'=true→Rv v' st)→r.length+1≤fn.ntmps ∧
   ∀G:cp,(∀j,1≤j→G.ρ j=none)→exec ⟨P,T,C,G,none,fn.ntmps⟩ c (start (wA mk l1 l2 c1 c2 0::r) [(0,.ro 4 n λi=>eP (rd i))] 1) (Db ⟨P,T,C,G,none,fn.ntmps⟩ 120 233 47 fn.results.toList Rv)) :
  Mk P T C 120 233 47 fn c H args fr out:=by
 unfold C6 at ho
 split at ho
 ·rename_i mk l1 l2 c1 c2 id r
  split at ho
  ·rename_i n get e
   split at ho
   ·rename_i p v hk
    cases ho
    obtain⟨hs,hr,hp⟩:kL n get∧eU 0 [] r=true∧fc p:=hp
    have hh:Hand H [(id,.ro 4 n λi=>eP (d_ get i))]:=kU e (λi=>rfl) (λi hi=>(hs i hi).symm)
    have h0:=h mk l1 l2 c1 c2 n (d_ get) r p v (λv' st=>((none:Option (Bool × List PanicEntry))=none∨∃ch,(none:Option (Bool × List PanicEntry))=some (false,ch))∧pZ [(id,.ro 4 n λi=>eP (d_ get i))] [] fr ⟨some (kL n get∧eU 0 [] r=true∧fc p),none,v,[]⟩ v' st)
     hk hp
     (λv' st h1 h2=>⟨.inl rfl,bU h1 h2 rfl ⟨trivial,trivial⟩⟩)
    refine⟨[(id,.ro 4 n λi=>eP (d_ get i))],wA mk l1 l2 c1 c2 0::r,[(0,.ro 4 n λi=>eP (d_ get i))],1,[],?_,?_,h0.1,hh,rfl,rfl,h0.2⟩
    ·show _=bX _ _::cX _ r
     rw[rV r hr]
     rfl
    ·show(match di 1 [] (wA mk l1 l2 c1 c2 0) with
      |true=>eU 1 [] r
      |false=>false)=true
     exact wU r hr
   ·cases ho
  ·cases ho
 ·cases ho
def qI (r:Rd):Bool:=xj r.1 r.2.1 (-100) 100 4&&xj r.2.2.1 r.2.2.2 (-30000) 30000 60000
def rq (mk l1 l2 c1 c2:Int)(n:Nat):Bool:=aE mk 1 100&&xj l1 l2 (-1000) 1000 24&&xj c1 c2 0 20 3&&decide ((n:Int)≤5)
def ua (B:jK):Bool:=rq B.mark B.l1 B.l2 B.c1 B.c2 B.rs.length&&B.rs.all qI
theorem UO (mk l1 l2 c1 c2:Int)(n:Nat)(rd:Nat→Rd):ua ⟨mk,l1,l2,c1,c2,(List.range n).map rd⟩=(rq mk l1 l2 c1 c2 n&&(List.range n).all λi=>qI (rd i)):=by
 simp only[ua,List.length_map,List.length_range,List.all_map]
 rfl
theorem all_succ {q:Nat→Bool}{i:Nat}:(List.range (i+1)).all q=((List.range i).all q&&q i):=by
 rw[List.range_succ,List.all_append];simp
theorem all_false {q:Nat→Bool}{i n:Nat}(h:i<n)(hq:q i=false):(List.range n).all q=false:=by
 rw[List.all_eq_false]
 exact⟨i,List.mem_range.2 h,by rw[hq];exact Bool.false_ne_true⟩
def fF (B:jK)(offers:Int)(is:Bool):Int:=if ua B=true then(if offers≤6 then(if is=true then 0 else 2) else 3) else 1
theorem H2 {B:jK}{o:Int}{is:Bool}(h:fF B o is=0):ua B=true∧o≤6∧is=true:=by
 unfold fF at h
 split at h
 ·rename_i h1
  split at h
  ·rename_i h2
   split at h
   ·rename_i h3;exact⟨h1,h2,h3⟩
   ·cases h
  ·cases h
 ·cases h
def bC (mk l1 l2 c1 c2:Int)(id:Nat):List SV:=[.si .i64 mk,.si .i64 l1,.si .i64 l2,.si .i64 c1,.si .i64 c2,.sl id]
def lV:Ct:=λfr args H =>
 match args with
 |[.agg [.si .i64 mk,.si .i64 l1,.si .i64 l2,.si .i64 c1,.si .i64 c2,.sl id],.si .i64 o,.sb is]=>(match cn 4 H id with
  |some (n,get)=>some ⟨some (kL n get),some (!decide (fF ⟨mk,l1,l2,c1,c2,kD n get⟩ o is=0),iX (fF ⟨mk,l1,l2,c1,c2,kD n get⟩ o is)),.sp fr 0,
    [(fr,.cells 237 (bC mk l1 l2 c1 c2 id))]⟩
  |none=>none)
 |_=>none
theorem Ho:cY lV:=by
 intro fr args H H' out hH h
 unfold lV at h ⊢
 split at h
 ·split at h
  ·rename_i e
   simp only[fk hH e]
   exact h
  ·cases h
 ·cases h
theorem B7 {l:List (Nat × Ct)}(g0:Good P T l):aP P 121 lV:=by
 have g:=OW (XG (yn g0))
 refine bq (C:=aC _) g.ok Tryz.func121 (c:=code Tryz.f121) rfl λfr args H out h hp=>?_
 unfold lV at h
 split at h
 ·rename_i mk l1 l2 c1 c2 id o is
  split at h
  ·rename_i n get e
   cases h
   have hs:kL n get:=hp
   have hh:Hand H [(id,.ro 4 n λi=>eP (d_ get i))]:=kU e (λi=>rfl) (λi hi=>(hs i hi).symm)
   refine⟨[(id,.ro 4 n λi=>eP (d_ get i))],[wA mk l1 l2 c1 c2 0,.si .i64 o,.sb is],[(0,.ro 4 n λi=>eP (d_ get i))],1,[2],rfl,rfl,Nat.le_of_ble_eq_true rfl,hh,rfl,rfl,λG hG=>?_⟩
   have hE:fF ⟨mk,l1,l2,c1,c2,kD n get⟩ o is=if rq mk l1 l2 c1 c2 n=true then(if(List.range n).all (λi=>qI (d_ get i))=true then(if o≤6 then(if is=true then 0 else 2) else 3) else 1) else 1:=by
    have:=UO mk l1 l2 c1 c2 n (d_ get)
    unfold fF
    rw[show kD n get=(List.range n).map (d_ get) from rfl,this]
    cases rq mk l1 l2 c1 c2 n<;>simp
   generalize fF ⟨mk,l1,l2,c1,c2,kD n get⟩ o is=E at hE
   generalize d_ get=rd at hE
   refine aa.mk (λ_=>⟨by decide,by decide⟩) (aa.mk (λ_=>⟨by decide,by decide⟩) ?_)
   refine Br.mk (λh=>?_) (λh=>?_)
   ·have h:(!rq mk l1 l2 c1 c2 n)=true:=h
    have h:rq mk l1 l2 c1 c2 n=false:=by simpa only[Bool.not_eq_true'] using h
    rw[h] at hE
    simp at hE
    subst hE
    exact⟨rfl,trivial,trivial⟩
   ·have h:(!rq mk l1 l2 c1 c2 n)=false:=h
    have h:rq mk l1 l2 c1 c2 n=true:=by simpa only[Bool.not_eq_false'] using h
    rw[h] at hE
    simp only[if_true] at hE
    have h5:n≤5:=by
     simp only[rq,Bool.and_eq_true,decide_eq_true_eq] at h
     omega
    refine rI (g.ok _ _ _) (λx:{i:Nat // i≤n∧((List.range i).all λi=>qI (rd i))=true}=>⟨[(1,⟨[],.si .i64 o⟩),(2,⟨[],.sb is⟩),(3,⟨[],.sp 1 0⟩),(30,⟨[],.sl 0⟩),(31,⟨[],.si .i64 n⟩),(32,⟨[],.si .i64 x.1⟩)],[],
     [(0,.ro 4 n λi=>eP (rd i)),(1,.cells 183 (bC mk l1 l2 c1 c2 0))],2,[]⟩) (λx=>n-x.1) (λ_ j hj=>hG j (by have:2≤j:=hj;omega)) ⟨0,Nat.zero_le _,rfl⟩ ?_ ?_
    ·refine⟨?_,?_,rfl,rfl,rfl⟩<;>exact Q0
    ·rintro⟨i,hi,cq⟩
     refine Br.mk (λh1=>?_) (λh1=>?_)
     ·have h1:(i:Int)<(n:Int):=of_decide_eq_true h1
      refine aa.mk (show(0:Int)≤(i:Int)∧(i:Int)<(n:Int) from⟨by omega,h1⟩) (aa.mk ⟨by decide,by decide⟩ (aa.mk (λ_=>⟨by decide,by decide⟩) ?_))
      refine Br.mk (λh2=>?_) (λh2=>?_)
      ·have h2:(!qI (rd i))=true:=h2
       have h3:=all_false (q:=λi=>qI (rd i)) (i:=i) (n:=n) (by omega) (by simpa using h2)
       rw[h3] at hE
       simp at hE
       subst hE
       exact⟨rfl,trivial,trivial⟩
      ·have h2:(!qI (rd i))=false:=h2
       refine aa.mk (show ae .i64 ((i:Int)+1) from⟨by omega,by omega⟩) ⟨⟨i+1,by omega,by rw[all_succ,cq];simpa using h2⟩,?_,by show n-(i+1)<n-i;omega⟩
       refine⟨?_,?_,rfl,rfl,rfl⟩<;>exact Q0
     ·have h1:¬(i:Int)<(n:Int):=of_decide_eq_false h1
      have wC:i=n:=by omega
      subst wC
      rw[cq] at hE
      simp only[if_true] at hE
      refine Br.mk (λh2=>?_) (λh2=>?_)
      ·have h2:(!decide (o≤6))=true:=h2
       have h2:¬o≤6:=by simpa using h2
       rw[if_neg h2] at hE
       subst hE
       exact⟨rfl,trivial,trivial⟩
      ·have h2:(!decide (o≤6))=false:=h2
       have h2:o≤6:=by simpa using h2
       rw[if_pos h2] at hE
       refine Br.mk (λh3=>?_) (λh3=>?_)
       ·have h3:(!is)=true:=h3
        have h3:is=false:=by simpa only[Bool.not_eq_true'] using h3
        subst h3
        simp at hE
        subst hE
        exact⟨rfl,trivial,trivial⟩
       ·have h3:(!is)=false:=h3
        have h3:is=true:=by simpa only[Bool.not_eq_false'] using h3
        subst h3
        simp at hE
        subst hE
        exact⟨.inr ⟨_,rfl⟩,⟨⟨rfl,rfl⟩,rfl,⟨rfl,⟨⟨rfl,⟨rfl,rfl⟩,⟨rfl,rfl⟩,⟨rfl,rfl⟩,⟨rfl,rfl⟩,⟨rfl,rfl⟩,rfl,trivial⟩,rfl⟩,trivial⟩,⟨trivial,trivial⟩,rfl,rfl⟩⟩
  ·cases h
 ·cases h
theorem v5 {l:List (Nat × Ct)}(g:Good P T l):Good P T ((121,lV)::l):=g.add (B7 g) Ho (aw Tryz.func121 (c:=code Tryz.f121) rfl (by decide))
def lU (aZ id n:Nat)(mk l1 l2 c1 c2:Int)(rd:Nat→Rd):List (Nat × HB):=[(aZ,.cells 237 (bC mk l1 l2 c1 c2 1)),(id,.ro 4 n λi=>eP (rd i))]
def t_ (n:Nat)(mk l1 l2 c1 c2:Int)(rd:Nat→Rd):List (Nat × HB):=[(0,.cells 237 (bC mk l1 l2 c1 c2 1)),(1,.ro 4 n λi=>eP (rd i))]
theorem DC {H:LH}{aZ id n:Nat}{mk l1 l2 c1 c2:Int}{get:Nat→List SV}(h1:H aZ=some (.cells 237 (bC mk l1 l2 c1 c2 id)))(h2:cn 4 H id=some (n,get))(hs:kL n get) :
  Hand H (lU aZ id n mk l1 l2 c1 c2 (d_ get)) where
 ok j c hb h:=by
  match j,h with
  |0,h=>simp[lU] at h;obtain⟨rfl,rfl⟩:=h;exact h1
  |1,h =>
   simp[lU] at h;obtain⟨rfl,rfl⟩:=h
   exact gK h2 λi hi=>by rw[hs i hi];rfl
  |j+2,h=>simp[lU] at h
 ids j c hb h:=by
  match j,h with
  |0,h=>simp[lU] at h;obtain⟨rfl,rfl⟩:=h;exact⟨trivial,trivial,trivial,trivial,trivial,(by show 1<2;decide),trivial⟩
  |1,h=>simp[lU] at h;obtain⟨rfl,rfl⟩:=h;exact λi hi=>⟨trivial,trivial,trivial,trivial,trivial⟩
  |j+2,h=>simp[lU] at h
 inj i j c hb hb' h1 h2 o1 o2:=by
  match i,j,h1,h2 with
  |0,0,_,_=>rfl
  |1,1,_,_=>rfl
  |0,1,h1,h2=>simp[lU] at h2;obtain⟨_,rfl⟩:=h2;cases o2
  |1,0,h1,h2=>simp[lU] at h1;obtain⟨_,rfl⟩:=h1;cases o1
  |i+2,_,h,_=>simp[lU] at h
  |_,j+2,_,h=>simp[lU] at h
def iota (a b:Int):List Int:=(List.range (b+1-a).toNat).map λi:Nat=>a+(i:Int)
theorem yS {a b t:Int}:t∈iota a b↔a≤t∧t≤b:=by
 simp only[iota,List.mem_map,List.mem_range]
 constructor
 ·rintro⟨i,hi,rfl⟩;omega
 ·rintro⟨h1,h2⟩;exact⟨(t-a).toNat,by omega,by omega⟩
theorem J7 {a b:Int}(h:b<a):iota a b=[]:=by
 simp only[iota]
 rw[show(b+1-a).toNat=0 by omega]
 rfl
theorem Qq {a b:Int}(h:a≤b):iota a b=iota a (b-1)++[b]:=by
 simp only[iota]
 obtain⟨k,hk⟩:∃k:Nat,(b+1-a).toNat=k+1:=⟨(b-a).toNat,by omega⟩
 rw[hk,show(b-1+1-a).toNat=k by omega,List.range_succ,List.map_append]
 simp only[List.map_cons,List.map_nil]
 congr 2
 omega
def Bn (mk:Int)(p:Int × Int)(r:Rd)(t:Int):Bool:=aE (Lh mk p t) r.2.2.1 r.2.2.2
def jO (mk:Int)(p:Int × Int)(r:Rd):Bool:=(iota r.1 r.2.1).any (Bn mk p r)
def mH:Ct:=λfr args _=>match args with
 |[.agg [.si .i64 a,.si .i64 b],.si .i64 m,.agg [.si .i64 n,.si .i64 x]]=>some ⟨none,none,.fn (.func 176) [] [.sp fr 0],[(fr,.cells 250 [.si .i64 a,.si .i64 b])]⟩
 |_=>none
theorem UX:cY mH:=by
 intro fr args H H' out hH h
 unfold mH at h ⊢
 exact h
theorem J_ {l:List (Nat × Ct)}(g:Good P T l):aP P 175 mH:=by
 refine bq (C:=aC _) g.ok Tryz.func175 (c:=code Tryz.f175) rfl λfr args H out h hp=>?_
 unfold mH at h
 split at h
 ·rename_i a b m n x
  cases h
  refine⟨[],[.agg [.si .i64 a,.si .i64 b],.si .i64 m,.agg [.si .i64 n,.si .i64 x]],[],0,[0],rfl,rfl,Nat.le_of_ble_eq_true rfl,wk H,rfl,rfl,λG hG=>?_⟩
  exact⟨.inl rfl,⟨rfl,rfl,⟨rfl,⟨⟨rfl,⟨rfl,rfl⟩,⟨rfl,rfl⟩,trivial⟩,rfl⟩,trivial⟩,trivial,rfl,rfl⟩⟩
 ·cases h
theorem El {l:List (Nat × Ct)}(g:Good P T l):Good P T ((175,mH)::l):=g.add (J_ g) UX (aw Tryz.func175 (c:=code Tryz.f175) rfl (by decide))
def M5:Ct:=λfr args _=>match args with
 |[.agg [.si .i64 a,.si .i64 b,.si .i64 c,.si .i64 d],.si .i64 m,.agg [.si .i64 n,.si .i64 x]]=>some ⟨none,none,.fn (.func 178) [] [.sp fr 0,.sp (fr+1) 0,.sp (fr+2) 0],
  [(fr,.cells 252 (eP (a,b,c,d))),(fr+1,.cells 3 [.si .i64 m]),(fr+2,.cells 212 [.si .i64 n,.si .i64 x])]⟩
 |_=>none
theorem Kj {l:List (Nat × Ct)}(g:Good P T l):aP P 177 M5:=by
 refine bq (C:=aC _) g.ok Tryz.func177 (c:=code Tryz.f177) rfl λfr args H out h hp=>?_
 unfold M5 at h
 split at h
 ·rename_i a b c d m n x
  cases h
  refine⟨[],[.agg [.si .i64 a,.si .i64 b,.si .i64 c,.si .i64 d],.si .i64 m,.agg [.si .i64 n,.si .i64 x]],[],0,[0,1,2],rfl,rfl,Nat.le_of_ble_eq_true rfl,wk H,rfl,rfl,λG hG=>?_⟩
  exact⟨.inl rfl,⟨rfl,rfl,⟨rfl,⟨⟨rfl,⟨rfl,rfl⟩,⟨rfl,rfl⟩,⟨rfl,rfl⟩,⟨rfl,rfl⟩,trivial⟩,rfl⟩,rfl,⟨⟨rfl,⟨rfl,rfl⟩,trivial⟩,rfl⟩,rfl,⟨⟨rfl,⟨rfl,rfl⟩,⟨rfl,rfl⟩,trivial⟩,rfl⟩,trivial⟩,trivial,rfl,rfl⟩⟩
 ·cases h
theorem aa3 : qW P 252 "blockworks/warm.warm" 177 := FH (by kernel_rfl)
theorem UC:Body P 177:=aw Tryz.func177 (c:=code Tryz.f177) rfl (by decide)
theorem Uu:Body P 178:=aw Tryz.func178 (c:=code Tryz.f178) rfl (by decide)
theorem Uw:Body P 176:=aw Tryz.func176 (c:=code Tryz.f176) rfl (by decide)
def zV:Ct:=λfr args H =>
 match args with
 |[.sp aZ 0,.cg 252 (.agg [.si .i64 a,.si .i64 b,.si .i64 c,.si .i64 d]),.agg [.si .i64 x,.si .i64 y]]=>(match H aZ with
  |some (.cells 237 [.si .i64 mk,.si .i64 l1,.si .i64 l2,.si .i64 c1,.si .i64 c2,.sl id])=>(match cn 4 H id with
   |some (n,get)=>some ⟨some (kL n get∧bY 1000 mk∧bY 1000000 x∧bY 1000 y∧bY 1000 a∧bY 1000 b),none,.sb (jO mk (x,y) (a,b,c,d)),[]⟩
   |none=>none)
  |_=>none)
 |_=>none
theorem UZ:cY zV:=by
 intro fr args H H' out hH h
 unfold zV at h ⊢
 split at h
 ·split at h
  ·rename_i e1
   rw[hH _ _ e1]
   split at h
   ·rename_i e
    simp only[fk hH e]
    exact h
   ·cases h
  ·cases h
 ·cases h
theorem aav:aP P 138 zV:=by
 have g:=El (XE (yn ah))
 refine Aj (C:=aC _) g.ok Tryz.func138 (c:=code Tryz.f138) rfl λfr args H out h hp=>?_
 unfold zV at h
 split at h
 ·rename_i aZ a b c d x y
  split at h
  ·rename_i mk l1 l2 c1 c2 id e1
   split at h
   ·rename_i n get e
    cases h
    obtain⟨hs,gu,hx,hy,ha,hb⟩:kL n get∧bY 1000 mk∧bY 1000000 x∧bY 1000 y∧bY 1000 a∧bY 1000 b:=hp
    have hh:=DC e1 e hs
    refine⟨lU aZ id n mk l1 l2 c1 c2 (d_ get),[.sp 0 0,.cg 252 (.agg [.si .i64 a,.si .i64 b,.si .i64 c,.si .i64 d]),.agg [.si .i64 x,.si .i64 y]],t_ n mk l1 l2 c1 c2 (d_ get),2,[],rfl,rfl,Nat.le_of_ble_eq_true rfl,hh,rfl,rfl,λG hG=>?_⟩
    generalize d_ get=rd
    refine cU (g.ok _ _ _) bP [0,0,2,6,14,30,0,1,129,385,1023] [] 10 (by kernel_rfl) ?_
    refine aa.mk (by kernel_rfl) ?_
    refine qk 177 (g.ok _ _ _) aj rfl rfl rfl rfl rfl rfl rfl aa3 UC ?_
    refine oU (Kj ah) (out:=⟨none,none,_,_⟩) rfl trivial (λhz=>?_) (λch h=>by cases h)
    clear hz
    refine lK (g.ok _ _ _) rfl rfl rfl Uu ?_
    intro fn
    refine HA g.ok Tryz.func178 (c:=code Tryz.f178) rfl (Nat.le_of_ble_eq_true rfl) λG2 b_=>?_
    refine lK (g.ok _ _ _) rfl rfl rfl Uw ?_
    intro kS
    refine cT g.ok Tryz.func176 (c:=code Tryz.f176) rfl (Nat.le_of_ble_eq_true rfl) λG3 pc=>?_
    have oc:∀t,Bn mk (x,y) (a,b,c,d) t=aE (Lh mk (x,y) t) c d:=λt=>rfl
    unfold bY at ha hb
    have yv:a≤b+1∨b+1<a:=by omega
    refine cm (g.ok _ _ _) 57 (λz:{t:Int // a≤t∧(t≤b+1∨t=a)∧∀u,a≤u→u<t→Bn mk (x,y) (a,b,c,d) u=false}=>⟨[(0,⟨[],.fy 56⟩),(1,⟨[],.sp 51 0⟩),(3,⟨[],.si .i64 z.1⟩)],[],
     [(56,.loop [(1,.sp 44 0),(2,.sp 45 0),(3,.sp 46 0),(4,.sp 50 0)] Tryz.f178.ntmps kS [11] (u9 (code Tryz.f178)) (u_ (code Tryz.f178)) 55 .ready none),(55,.eh),(51,.cells 250 [.si .i64 a,.si .i64 b]),(50,.cells 147 [.fy 49]),
      (49,.loop [(6,.sp 3 0)] Tryz.f138.ntmps fn [18] (u9 (code Tryz.f138)) (u_ (code Tryz.f138)) 48 .ready none),(48,.eh),(44,.cells 252 (eP (a,b,c,d))),(45,.cells 3 [.si .i64 mk]),(46,.cells 212 [.si .i64 x,.si .i64 y]),(3,.cells 4 [.sb false])]++t_ n mk l1 l2 c1 c2 rd,57,[]⟩)
     (λz=>(b+1-z.1).toNat) pc ⟨a,by omega,.inr rfl,λu h1 h2=>by omega⟩ (λj=>j) ?_ ?_
    ·refine⟨?_,?_,rfl,rfl,rfl,rfl,trivial⟩
     ·exact Q2
     ·repeat' (first|exact trivial|exact rfl|(intro i hi;exact⟨rfl,rfl⟩)|refine bh ?_|refine And.intro ?_ ?_)
    ·rintro⟨t,h1,h2,h3⟩
     refine Br.mk (λh=>?_) (λh=>?_)
     ·replace h:t≤b:=of_decide_eq_true h
      refine vT 56 g.ok (g.ok _ _ _) aj rfl rfl rfl rfl rfl rfl rfl rfl rfl (by decide) ?_
      intro G4 r X2
      refine cU (g.ok _ _ _) bP [0,0,0,7,0,16,48,0,128,384,1023,2047] [] 12 (by kernel_rfl) ?_
      refine aa.mk ⟨hx,gu,hy,⟨(show -1000≤t by omega),(show t≤1000 by omega)⟩⟩ ?_
      refine Br.mk (λhq=>?_) (λhq=>?_)
      ·have hq:(!Bn mk (x,y) (a,b,c,d) t)=true:=hq
       refine Br.mk (λh=>by cases h) (λ_=>?_)
       refine aa.mk (show ae .i64 (t+1) from⟨by omega,by omega⟩) ⟨⟨t+1,by omega,.inl (by omega),λu ZR P4=>?_⟩,(λj=>j),?_,?_⟩
       ·rcases Int.lt_or_eq_of_le (show u≤t by omega) with h|h
        ·exact h3 u ZR h
        ·subst h;simpa using hq
       ·refine⟨?_,?_,rfl,rfl,rfl,rfl,trivial⟩
        ·exact Q2
        ·repeat' (first|exact trivial|exact rfl|(intro i hi;exact⟨rfl,rfl⟩)|refine bh ?_|refine And.intro ?_ ?_)
       ·show(b+1-(t+1)).toNat<(b+1-t).toNat
        omega
      ·have hq:(!Bn mk (x,y) (a,b,c,d) t)=false:=hq
       have I2:jO mk (x,y) (a,b,c,d)=true:=by
        rw[jO,List.any_eq_true]
        exact⟨t,yS.2 ⟨h1,h⟩,by simpa using hq⟩
       refine vT 49 g.ok (g.ok _ _ _) aj rfl rfl rfl rfl rfl rfl rfl rfl rfl (by decide) ?_
       intro G5 r5 hG5
       refine Br.mk (λ_=>?_) (λh=>by cases h)
       refine Br.mk (λ_=>?_) (λh=>by cases h)
       rw[I2]
       exact⟨.inl rfl,bU rfl rfl rfl ⟨⟨rfl,⟨rfl,rfl⟩,⟨rfl,rfl⟩,⟨rfl,rfl⟩,⟨rfl,rfl⟩,⟨rfl,rfl⟩,rfl,trivial⟩,trivial,trivial⟩⟩
     ·replace h:¬t≤b:=of_decide_eq_false h
      have I2:jO mk (x,y) (a,b,c,d)=false:=by
       rw[jO,List.any_eq_false]
       intro u hu
       obtain⟨u1,u2⟩:=yS.1 hu
       have u2:u≤b:=u2
       rw[h3 u u1 (by omega)]
       exact Bool.false_ne_true
      rw[I2]
      exact⟨.inl rfl,bU rfl rfl rfl ⟨⟨rfl,⟨rfl,rfl⟩,⟨rfl,rfl⟩,⟨rfl,rfl⟩,⟨rfl,rfl⟩,⟨rfl,rfl⟩,rfl,trivial⟩,trivial,trivial⟩⟩
   ·cases h
  ·cases h
 ·cases h
theorem Xb {l:List (Nat × Ct)}(g:Good P T l):Good P T ((138,zV)::l):=g.add aav UZ (aw Tryz.func138 (c:=code Tryz.f138) rfl (by decide))
def nT:Ct:=λfr args H =>
 match args with
 |[.sp aZ 0]=>(match H aZ with
  |some (.cells 237 [.si .i64 mk,.si .i64 l1,.si .i64 l2,.si .i64 c1,.si .i64 c2,.sl id])=>(match cn 4 H id with
   |some (n,get)=>some ⟨some (kL n get∧n≤40),none,.sl fr,[(fr,.ro 4 n λi=>eP (d_ get i))]⟩
   |none=>none)
  |_=>none)
 |_=>none
theorem Vh:cY nT:=by
 intro fr args H H' out hH h
 unfold nT at h ⊢
 split at h
 ·split at h
  ·rename_i e1
   rw[hH _ _ e1]
   split at h
   ·rename_i e
    simp only[fk hH e]
    exact h
   ·cases h
  ·cases h
 ·cases h
theorem B8 {l:List (Nat × Ct)}(g:Good P T l):aP P 135 nT:=by
 refine bq (C:=aC _) g.ok Tryz.func135 (c:=code Tryz.f135) rfl λfr args H out h hp=>?_
 unfold nT at h
 split at h
 ·rename_i aZ
  split at h
  ·rename_i mk l1 l2 c1 c2 id e1
   split at h
   ·rename_i n get e
    cases h
    obtain⟨hs,hn⟩:kL n get∧n≤40:=hp
    have hh:=DC e1 e hs
    refine⟨lU aZ id n mk l1 l2 c1 c2 (d_ get),[.sp 0 0],t_ n mk l1 l2 c1 c2 (d_ get),2,[2],rfl,rfl,Nat.le_of_ble_eq_true rfl,hh,rfl,rfl,λG hG=>?_⟩
    generalize d_ get=rd
    refine KF 2 252 4 (λi=>eP (rd i)) rfl ?_
    refine cm (g.ok _ _ _) 2 (λx:{i:Nat // i≤n}=>⟨[(0,⟨[],.sp 0 0⟩),(2,⟨[],.sl 2⟩),(9,⟨[],.sl 1⟩),(10,⟨[],.si .i64 n⟩),(11,⟨[],.si .i64 x.1⟩)],[],
     (2,.vec 252 4 x.1 (λi=>eP (rd i)))::t_ n mk l1 l2 c1 c2 rd,3,[]⟩) (λx=>n-x.1) hG ⟨0,Nat.zero_le _⟩ (λj=>j) ?_ ?_
    ·refine⟨?_,?_,rfl,rfl,rfl,rfl,trivial⟩
     ·exact Q2
     ·exact Q1
    ·rintro⟨i,hi⟩
     refine Br.mk (λh=>?_) (λh=>?_)
     ·have h:(i:Int)<(n:Int):=of_decide_eq_true h
      refine aa.mk (show(0:Int)≤(i:Int)∧(i:Int)<(n:Int) from⟨by omega,h⟩) ?_
      refine mQ (Te:=0) 2 4 i 1 _ _ (λi=>eP (rd i)) (g.ok _ _ _) aj rfl rfl rfl rfl rfl rfl rfl rfl rfl rfl rfl rfl (by decide) (by decide) rfl rfl rfl rfl ?_ ?_ ?_
      ·omega
      ·intro j hj
       split
       ·rfl
       ·have:j=i:=by omega
        subst this
        rw[Nat.sub_self]
        rfl
      ·refine aa.mk (show ae .i64 ((i:Int)+1) from⟨by omega,by omega⟩) ⟨⟨i+1,by omega⟩,(λj=>if j=2 then 5 else j),?_,by show n-(i+1)<n-i;omega⟩
       refine⟨?_,?_,rfl,rfl,rfl,rfl,trivial⟩
       ·exact Q2
       ·exact Q1
     ·have h:¬(i:Int)<(n:Int):=of_decide_eq_false h
      have dD:i=n:=by omega
      subst dD
      exact⟨.inl rfl,⟨rfl,rfl,⟨rfl,⟨rfl,rfl,λi hi=>⟨rfl,rfl⟩⟩,trivial⟩,⟨⟨rfl,⟨rfl,rfl⟩,⟨rfl,rfl⟩,⟨rfl,rfl⟩,⟨rfl,rfl⟩,⟨rfl,rfl⟩,rfl,trivial⟩,trivial,trivial⟩,rfl,rfl⟩⟩
   ·cases h
  ·cases h
 ·cases h
theorem v7 {l:List (Nat × Ct)}(g:Good P T l):Good P T ((135,nT)::l):=g.add (B8 g) Vh (aw Tryz.func135 (c:=code Tryz.f135) rfl (by decide))
def ME (bx aZ id px n:Nat)(mk l1 l2 c1 c2 x y:Int)(rd:Nat→Rd):List (Nat × HB) :=
 [(bx,.cells 207 [.sp 1 0]),(aZ,.cells 237 (bC mk l1 l2 c1 c2 2)),(id,.ro 4 n λi=>eP (rd i)),(px,.cells 212 [.si .i64 x,.si .i64 y])]
def MF (n:Nat)(get:Nat→List SV)(mk x y:Int)(r:Rd):Prop:=kL n get∧bY 1000 mk∧bY 1000000 x∧bY 1000 y∧bY 1000 r.1∧bY 1000 r.2.1
def zU:Ct:=λfr args H =>
 match args with
 |[.agg [.si .i64 a,.si .i64 b,.si .i64 c,.si .i64 d],.sp bx 0,.sp px 0]=>(match H bx,H px with
  |some (.cells 207 [.sp aZ 0]),some (.cells 212 [.si .i64 x,.si .i64 y])=>(match H aZ with
   |some (.cells 237 [.si .i64 mk,.si .i64 l1,.si .i64 l2,.si .i64 c1,.si .i64 c2,.sl id])=>(match cn 4 H id with
    |some (n,get)=>some ⟨some (MF n get mk x y (a,b,c,d)),none,.sb (!jO mk (x,y) (a,b,c,d)),[]⟩
    |none=>none)
   |_=>none)
  |_,_=>none)
 |_=>none
theorem UY:cY zU:=by
 intro fr args H H' out hH h
 unfold zU at h ⊢
 split at h
 ·split at h
  ·rename_i e1 e2
   split at h
   ·rename_i e3
    split at h
    ·rename_i e
     simp only[hH _ _ e1,hH _ _ e2,hH _ _ e3,fk hH e]
     exact h
    ·cases h
   ·cases h
  ·cases h
 ·cases h
theorem aau {l:List (Nat × Ct)}(g0:Good P T l):aP P 137 zU:=by
 have g:=Xb g0
 refine bq (C:=aC _) g.ok Tryz.func137 (c:=code Tryz.f137) rfl λfr args H out h hp=>?_
 unfold zU at h
 split at h
 ·rename_i a b c d bx px
  split at h
  ·rename_i aZ x y e1 e2
   split at h
   ·rename_i mk l1 l2 c1 c2 id e3
    split at h
    ·rename_i n get e
     cases h
     obtain⟨hs,gu,hx,hy,ha,hb⟩:MF n get mk x y (a,b,c,d):=hp
     have hh:Hand H (ME bx aZ id px n mk l1 l2 c1 c2 x y (d_ get)):=uq ⟨e1,e3,gK e λi hi=>by rw[hs i hi];rfl,e2,trivial⟩
      (by repeat' (first|exact trivial|(intro i hi;exact⟨trivial,trivial,trivial,trivial,trivial⟩)|refine And.intro ?_ ?_|exact(by decide:(1:Nat)<4)|exact(by decide:(2:Nat)<4))) rfl
     refine⟨ME bx aZ id px n mk l1 l2 c1 c2 x y (d_ get),[.agg [.si .i64 a,.si .i64 b,.si .i64 c,.si .i64 d],.sp 0 0,.sp 3 0],_,4,[],rfl,rfl,Nat.le_of_ble_eq_true rfl,hh,rfl,rfl,λG hG=>?_⟩
     generalize d_ get=rd
     refine aa.mk ⟨rT _ _,gu,hx,hy,ha,hb⟩ ?_
     exact⟨.inl rfl,bU rfl rfl rfl ⟨⟨rfl,⟨rfl,rfl⟩,trivial⟩,⟨rfl,⟨rfl,rfl⟩,⟨rfl,rfl⟩,⟨rfl,rfl⟩,⟨rfl,rfl⟩,⟨rfl,rfl⟩,rfl,trivial⟩,trivial,⟨rfl,⟨rfl,rfl⟩,⟨rfl,rfl⟩,trivial⟩,trivial⟩⟩
    ·cases h
   ·cases h
  ·cases h
 ·cases h
theorem Xa {l:List (Nat × Ct)}(g:Good P T l):Good P T ((137,zU)::l):=g.add (aau g) UY (aw Tryz.func137 (c:=code Tryz.f137) rfl (by decide))
def wP (q:Nat→Bool)(n:Nat):Int:=match (List.range n).find? q with
 |some i=>i
 |none=>-1
theorem Qj {q:Nat→Bool}{n:Nat}(h:∀i,i<n→q i=false):wP q n=-1:=by
 unfold wP
 rw[List.find?_eq_none.2]
 intro x hx
 rw[h x (List.mem_range.1 hx)]
 exact Bool.false_ne_true
theorem range_split {i n:Nat}(h:i≤n):List.range n=List.range i++(List.range (n-i)).map (· + i):=by
 have:n=i+(n-i):=by omega
 rw[this,List.range_add]
 simp[Nat.add_comm]
theorem Z8 {q:Nat→Bool}{n i:Nat}(hi:i<n)(hq:q i=true)(h:∀j,j<i→q j=false):wP q n=i:=by
 unfold wP
 have:(List.range n).find? q=some i:=by
  rw[range_split (Nat.le_of_lt hi),List.find?_append]
  rw[List.find?_eq_none.2 (λx hx=>by rw[h x (List.mem_range.1 hx)];exact Bool.false_ne_true)]
  obtain⟨k,hk⟩:∃k,n-i=k+1:=⟨n-i-1,by omega⟩
  rw[hk,List.range_succ_eq_map]
  simp[List.find?_cons,hq]
 rw[this]
theorem Z7 {q:Nat→Bool}{n:Nat}:decide (0≤wP q n)=(List.range n).any q:=by
 cases h:(List.range n).any q with
 |false =>
  rw[List.any_eq_false] at h
  rw[Qj (λi hi=>by simpa using h i (List.mem_range.2 hi))]
  decide
 |true =>
  rw[List.any_eq_true] at h
  unfold wP
  cases e:(List.range n).find? q with
  |some i=>simp
  |none =>
   rw[List.find?_eq_none] at e
   obtain⟨x,h1,h2⟩:=h
   exact absurd h2 (e x h1)
def Mu (m:Nat)(g2:Nat→List SV)(n:Nat)(get:Nat→List SV)(mk x y:Int):Prop:=kL m g2∧kL n get∧bY 1000 mk∧bY 1000000 x∧bY 1000 y∧m≤40∧∀i,i<m→bY 1000 (d_ g2 i).1∧bY 1000 (d_ g2 i).2.1
def yo (k:(Nat→Bool)→Nat→SV):Ct:=λfr args H =>
 match args with
 |[.sl cu,.fn (.func 137) [] [.sp bx 0,.sp px 0]]=>(match cn 4 H cu,H bx,H px with
  |some (m,g2),some (.cells 207 [.sp aZ 0]),some (.cells 212 [.si .i64 x,.si .i64 y])=>(match H aZ with
   |some (.cells 237 [.si .i64 mk,.si .i64 l1,.si .i64 l2,.si .i64 c1,.si .i64 c2,.sl id])=>(match cn 4 H id with
    |some (n,get)=>some ⟨some (Mu m g2 n get mk x y),none,k (λi=>!jO mk (x,y) (d_ g2 i)) m,[]⟩
    |none=>none)
   |_=>none)
  |_,_,_=>none)
 |_=>none
theorem OZ (k:(Nat→Bool)→Nat→SV):cY (yo k):=by
 intro fr args H H' out hH h
 unfold yo at h ⊢
 split at h
 ·split at h
  ·rename_i e0 e1 e2
   split at h
   ·rename_i e3
    split at h
    ·rename_i e
     simp only[fk hH e0,hH _ _ e1,hH _ _ e2,hH _ _ e3,fk hH e]
     exact h
    ·cases h
   ·cases h
  ·cases h
 ·cases h
def O0 (cu m bx aZ id px n:Nat)(mk l1 l2 c1 c2 x y:Int)(r2 rd:Nat→Rd):List (Nat × HB) :=
 [(cu,.ro 4 m λi=>eP (r2 i)),(bx,.cells 207 [.sp 2 0]),(aZ,.cells 237 (bC mk l1 l2 c1 c2 3)),(id,.ro 4 n λi=>eP (rd i)),(px,.cells 212 [.si .i64 x,.si .i64 y])]
def ID (m n:Nat)(mk l1 l2 c1 c2 x y:Int)(r2 rd:Nat→Rd):List (Nat × HB) :=
 [(0,.ro 4 m λi=>eP (r2 i)),(1,.cells 207 [.sp 2 0]),(2,.cells 237 (bC mk l1 l2 c1 c2 3)),(3,.ro 4 n λi=>eP (rd i)),(4,.cells 212 [.si .i64 x,.si .i64 y])]
theorem O1 {C:Nat→Option Ct}{fn:Func}{c:Code}{k:(Nat→Bool)→Nat→SV}{fr:Nat}{args:List SV}{H:LH}{out:cJ}(hk:∀q m,di 0 [] (k q m)=true)(ho:yo k fr args H=some out)(hp:fc out.pre)
  (hl:2≤fn.ntmps)
  (h:∀(m n:Nat) (mk l1 l2 c1 c2 x y:Int) (r2 rd:Nat→Rd) (Rv:SV→St→Prop) (Rp:List PanicEntry→St→Prop),bY 1000 mk→bY 1000000 x→bY 1000 y→m≤40→(∀i,i<m→bY 1000 (r2 i).1∧bY 1000 (r2 i).2.1) →
   (∀v' st,eY v' (k (λi=>!jO mk (x,y) (r2 i)) m)→qD st.H (ID m n mk l1 l2 c1 c2 x y r2 rd)→di 0 [] v'=true→Rv v' st) →
   ∀G:cp,(∀j,5≤j→G.ρ j=none)→exec ⟨P,T,C,G,none,fn.ntmps⟩ c (start [.sl 0,.fn (.func 137) [] [.sp 1 0,.sp 4 0]] (ID m n mk l1 l2 c1 c2 x y r2 rd) 5) (Fin ⟨P,T,C,G,none,fn.ntmps⟩ fn.results.toList Rv Rp)) :
  Walk P T C fn c H args fr out:=by
 unfold yo at ho
 split at ho
 ·rename_i cu bx px
  split at ho
  ·rename_i m g2 aZ x y e0 e1 e2
   split at ho
   ·rename_i mk l1 l2 c1 c2 id e3
    split at ho
    ·rename_i n get e
     cases ho
     obtain⟨ew,hs,gu,hx,hy,hm,hr⟩:Mu m g2 n get mk x y:=hp
     have hh:Hand H (O0 cu m bx aZ id px n mk l1 l2 c1 c2 x y (d_ g2) (d_ get)):=uq ⟨gK e0 λi hi=>by rw[ew i hi];rfl,e1,e3,gK e λi hi=>by rw[hs i hi];rfl,e2,trivial⟩
      (by repeat' (first|exact trivial|(intro i hi;exact⟨trivial,trivial,trivial,trivial,trivial⟩)|refine And.intro ?_ ?_|exact(by decide:(2:Nat)<5)|exact(by decide:(3:Nat)<5))) rfl
     refine⟨O0 cu m bx aZ id px n mk l1 l2 c1 c2 x y (d_ g2) (d_ get),[.sl 0,.fn (.func 137) [] [.sp 1 0,.sp 4 0]],_,5,[],rfl,rfl,hl,hh,rfl,rfl,?_⟩
     exact h m n mk l1 l2 c1 c2 x y (d_ g2) (d_ get) _ _ gu hx hy hm hr (λv' st h1 h2 h3=>⟨.inl rfl,bU h1 h3 rfl h2⟩)
    ·cases ho
   ·cases ho
  ·cases ho
 ·cases ho
def M1:Ct:=yo λq m=>.si .i64 (wP q m)
theorem aaw {l:List (Nat × Ct)}(g0:Good P T l):aP P 143 M1:=by
 have g:=Xa g0
 refine bq (C:=aC _) g.ok Tryz.func143 (c:=code Tryz.f143) rfl λfr args H out h hp=>O1 (λ_ _=>rfl) h hp (Nat.le_of_ble_eq_true rfl) λm n mk l1 l2 c1 c2 x y r2 rd Rv Rp gu hx hy hm hr hR G hG=>?_
 refine rI (g.ok _ _ _) (λz:{i:Nat // i≤m∧∀j,j<i→(!jO mk (x,y) (r2 j))=false}=>⟨[(0,⟨[],.sl 0⟩),(1,⟨[],.fn (.func 137) [] [.sp 1 0,.sp 4 0]⟩),(7,⟨[],.si .i64 m⟩),(8,⟨[],.si .i64 z.1⟩)],[],ID m n mk l1 l2 c1 c2 x y r2 rd,5,[]⟩)
  (λz=>m-z.1) (λ_ j hj=>hG j hj) ⟨0,Nat.zero_le _,λj hj=>by omega⟩ ?_ ?_
 ·refine⟨?_,?_,rfl,rfl,rfl⟩<;>exact Q0
 ·rintro⟨i,hi,cq⟩
  refine Br.mk (λh=>?_) (λh=>?_)
  ·have h:(i:Int)<(m:Int):=of_decide_eq_true h
   have PT:=hr i (by omega)
   refine aa.mk (show(0:Int)≤(i:Int)∧(i:Int)<(m:Int) from⟨by omega,h⟩) (aa.mk ⟨rT _ _,gu,hx,hy,PT.1,PT.2⟩ ?_)
   refine Br.mk (λh2=>?_) (λh2=>?_)
   ·have h2:(!jO mk (x,y) (r2 i))=true:=h2
    have e:=Z8 (q:=λi=>!jO mk (x,y) (r2 i)) (n:=m) (by omega) h2 cq
    refine hR _ _ ⟨rfl,e.symm⟩ ?_ rfl
    exact Q2
   ·have h2:(!jO mk (x,y) (r2 i))=false:=h2
    refine aa.mk (show ae .i64 ((i:Int)+1) from⟨by omega,by omega⟩) ⟨⟨i+1,by omega,λj hj=>?_⟩,?_,by show m-(i+1)<m-i;omega⟩
    ·rcases Nat.lt_or_eq_of_le (show j≤i by omega) with h|h
     ·exact cq j h
     ·subst h;exact h2
    ·refine⟨?_,?_,rfl,rfl,rfl⟩<;>exact Q0
  ·have h:¬(i:Int)<(m:Int):=of_decide_eq_false h
   have e:=Qj (q:=λi=>!jO mk (x,y) (r2 i)) (n:=m) (λj hj=>cq j (by omega))
   refine hR _ _ ⟨rfl,e.symm⟩ ?_ rfl
   exact Q2
theorem Xc {l:List (Nat × Ct)}(g:Good P T l):Good P T ((143,M1)::l):=g.add (aaw g) (OZ _) (aw Tryz.func143 (c:=code Tryz.f143) rfl (by decide))
def M0:Ct:=yo λq m=>.sb ((List.range m).any q)
theorem aat {l:List (Nat × Ct)}(g0:Good P T l):aP P 136 M0:=by
 have g:=Xc g0
 refine bq (C:=aC _) g.ok Tryz.func136 (c:=code Tryz.f136) rfl λfr args H out h hp=>O1 (λ_ _=>rfl) h hp (Nat.le_of_ble_eq_true rfl) λm n mk l1 l2 c1 c2 x y r2 rd Rv Rp gu hx hy hm hr hR G hG=>?_
 refine aa.mk ⟨rT _ _,rT _ _,gu,hx,hy,hm,hr⟩ (hR _ _ Z7 ?_ rfl)
 exact Q2
theorem W_ {l:List (Nat × Ct)}(g:Good P T l):Good P T ((136,M0)::l):=g.add (aat g) (OZ _) (aw Tryz.func136 (c:=code Tryz.f136) rfl (by decide))
abbrev Pr:=Int × Int
def row (q:Pr→Bool)(n c1 a:Int):List Pr:=((iota c1 (a-1)).map λa=>(n,a)).filter q
def rows (q:Pr→Bool)(l1 c1 c2 n:Int):List Pr:=(iota l1 (n-1)).flatMap λn=>row q n c1 (c2+1)
def oy (mk:Int)(rs:List Rd)(p:Pr):Bool:=rs.all (jO mk p)
def ji (B:jK):List Pr:=rows (oy B.mark B.rs) B.l1 B.c1 B.c2 (B.l2+1)
theorem acp (q:Pr→Bool)(n c1:Int):row q n c1 c1=[]:=by
 unfold row
 rw[J7 (by omega)]
 rfl
theorem acq {q:Pr→Bool}{n c1 a:Int}(h:c1≤a):row q n c1 (a+1)=row q n c1 a++(if q (n,a)=true then[(n,a)] else[]):=by
 unfold row
 rw[show a+1-1=a by omega,Qq h,List.map_append,List.filter_append]
 congr 1
 simp only[List.map_cons,List.map_nil,List.filter_cons,List.filter_nil]
theorem Sf (q:Pr→Bool)(l1 c1 c2:Int):rows q l1 c1 c2 l1=[]:=by
 unfold rows
 rw[J7 (by omega)]
 rfl
theorem Sh {q:Pr→Bool}{l1 c1 c2 n:Int}(h:l1≤n):rows q l1 c1 c2 (n+1)=rows q l1 c1 c2 n++row q n c1 (c2+1):=by
 unfold rows
 rw[show n+1-1=n by omega,Qq h,List.flatMap_append]
 simp
theorem K7 {q:Pr→Bool}{n c1 a:Int}{p:Pr}:p∈row q n c1 a↔(p.1=n∧c1≤p.2∧p.2<a)∧q p=true:=by
 unfold row
 rw[List.mem_filter,List.mem_map]
 constructor
 ·rintro⟨⟨x,hx,rfl⟩,h2⟩
  have:=yS.1 hx
  exact⟨⟨rfl,this.1,by show x<a;omega⟩,h2⟩
 ·rintro⟨⟨h1,h2,h3⟩,h4⟩
  exact⟨⟨p.2,yS.2 ⟨h2,by omega⟩,by rw[←h1]⟩,h4⟩
theorem Sg {q:Pr→Bool}{l1 c1 c2 n:Int}{p:Pr}:p∈rows q l1 c1 c2 n↔(l1≤p.1∧p.1<n∧c1≤p.2∧p.2≤c2)∧q p=true:=by
 unfold rows
 rw[List.mem_flatMap]
 constructor
 ·rintro⟨m,hm,h⟩
  have h1:=yS.1 hm
  obtain⟨⟨h2,h3,h4⟩,h5⟩:=K7.1 h
  exact⟨⟨by omega,by omega,h3,by omega⟩,h5⟩
 ·rintro⟨⟨h1,h2,h3,h4⟩,h5⟩
  exact⟨p.1,yS.2 ⟨h1,by omega⟩,K7.2 ⟨⟨rfl,h3,by omega⟩,h5⟩⟩
theorem abQ {B:jK}{p:Pr}:p∈ji B↔(B.l1≤p.1∧p.1≤B.l2∧B.c1≤p.2∧p.2≤B.c2)∧oy B.mark B.rs p=true:=by
 unfold ji
 rw[Sg]
 constructor
 ·rintro⟨⟨h1,h2,h3,h4⟩,h5⟩;exact⟨⟨h1,by omega,h3,h4⟩,h5⟩
 ·rintro⟨⟨h1,h2,h3,h4⟩,h5⟩;exact⟨⟨h1,by omega,h3,h4⟩,h5⟩
theorem Rx {α β:Type}{f:α→β}{l:List α}(h:l.Nodup)(hf:∀x y,f x=f y→x=y):(l.map f).Nodup:=by
 unfold List.Nodup
 rw[List.pairwise_map]
 exact List.Pairwise.imp (λaV e=>aV (hf _ _ e)) h
theorem aag (a b:Int):(iota a b).Nodup:=by
 unfold iota
 refine Rx List.nodup_range λx y h=>?_
 have h:a+(x:Int)=a+(y:Int):=h
 omega
theorem acr (q:Pr→Bool)(n c1 a:Int):(row q n c1 a).Nodup:=by
 unfold row
 exact List.Pairwise.filter _ (Rx (aag _ _) λx y h=>(Prod.mk.inj h).2)
theorem Si (q:Pr→Bool)(l1 c1 c2:Int):∀(k:Nat),(rows q l1 c1 c2 (l1+k)).Nodup
 |0=>by rw[Int.natCast_zero,Int.add_zero,Sf];exact List.nodup_nil
 |k+1=>by
  rw[show l1+((k+1:Nat):Int)=l1+k+1 by push_cast;omega,Sh (by omega),List.nodup_append]
  refine⟨Si q l1 c1 c2 k,acr _ _ _ _,λx hx y hy h=>?_⟩
  subst h
  have h1:=(Sg.1 hx).1
  have h2:=(K7.1 hy).1
  omega
theorem KR (B:jK):(ji B).Nodup:=by
 unfold ji
 rcases Int.le_total B.l1 (B.l2+1) with h|h
 ·obtain⟨k,hk⟩:∃k:Nat,B.l2+1=B.l1+k:=⟨(B.l2+1-B.l1).toNat,by omega⟩
  rw[hk]
  exact Si _ _ _ _ _
 ·unfold rows
  rw[J7 (by omega)]
  exact List.nodup_nil
def jc (p:Pr):SV:=.agg [.si .i64 p.1,.si .i64 p.2]
def gk (b:Bool):SV:=.sb b
theorem Ay:gB T 212 jc where
 ty:=⟨_,rfl⟩
 vC:=λa=>by kernel_rfl
 eq:=λa b=>by
  have h:l5 T 9 212 (jc a) (jc b)=some (decide (a.1=b.1)&&(decide (a.2=b.2)&&true)):=by kernel_rfl
  rw[h]
  congr 1
  rw[Bool.eq_iff_iff]
  obtain⟨a1,a2⟩:=a
  obtain⟨b1,b2⟩:=b
  simp
 cl:=λa=>⟨.agg #[.int .i64 a.1,.int .i64 a.2],rfl⟩
 same:=λa=>by
  have:cv (jc a)=.agg #[.int .i64 a.1,.int .i64 a.2]:=rfl
  rw[this]
  simp[Instr.sameBits]
theorem rj:kJ gk:=λa=>⟨.bool a,rfl⟩
def jH (l:List Pr):List (Pr × Bool):=l.foldl (λm p=>bN m p true) []
theorem adK (l:List Pr)(p:Pr):jH (l++[p])=bN (jH l) p true:=by
 simp[jH,List.foldl_append]
theorem zv {κ ν:Type} [DecidableEq κ]:∀{m:List (κ × ν)} {k:κ} {v:ν},k ∉ m.map (·.1)→bN m k v=m++[(k,v)]
 |[],_,_,_=>rfl
 |p::r,k,v,h=>by
  simp only[List.map_cons,List.mem_cons,not_or] at h
  rw[bN,if_neg (Ne.symm h.1),zv h.2]
  rfl
theorem LI {l:List Pr}(h:l.Nodup):jH l=l.map λp=>(p,true):=by
 have key:∀(l:List Pr) (m:List (Pr × Bool)),(m.map (·.1)++l).Nodup→l.foldl (λm p=>bN m p true) m=m++l.map λp=>(p,true):=by
  intro l
  induction l with
  |nil=>intro m _;simp
  |cons x r ih =>
   intro m hm
   have hx:x ∉ m.map (·.1):=by
    intro hx
    have:=(List.nodup_append.1 hm).2.2 x hx x List.mem_cons_self
    exact this rfl
   rw[List.foldl_cons,zv hx,ih _ (by simpa [List.append_assoc] using hm)]
   simp
 have:=key l [] (by simpa using h)
 simpa [jH] using this
theorem ab4 {r:Rd}(h:qI r=true):-100≤r.1∧r.1≤r.2.1∧r.2.1≤100∧r.2.1-r.1≤4∧-30000≤r.2.2.1∧r.2.2.1≤r.2.2.2∧r.2.2.2≤30000:=by
 simp only[qI,xj,Bool.and_eq_true,decide_eq_true_eq] at h
 omega
theorem MS {B:jK}(h:ua B=true):(1≤B.mark∧B.mark≤100)∧(-1000≤B.l1∧B.l1≤B.l2∧B.l2≤1000∧B.l2-B.l1≤24)∧(0≤B.c1∧B.c1≤B.c2∧B.c2≤20∧B.c2-B.c1≤3)∧B.rs.length≤5∧∀r∈B.rs,qI r=true:=by
 simp only[ua,rq,aE,xj,Bool.and_eq_true,decide_eq_true_eq,List.all_eq_true] at h
 obtain⟨⟨⟨⟨h1,h2⟩,h3⟩,h4⟩,h5⟩:=h
 exact⟨h1,by omega,by omega,by omega,h5⟩
theorem aby {n:Nat}{mk x y:Int}{rd:Nat→Rd}:(List.range n).any (λi=>!jO mk (x,y) (rd i)) = !oy mk ((List.range n).map rd) (x,y):=by
 unfold oy
 rw[List.all_map,List.not_all_eq_any_not]
 rfl
def i_:Ct:=λfr args H=>match args with
 |[.sp aZ 0]=>(match H aZ with
  |some (.cells 237 [.si .i64 mk,.si .i64 l1,.si .i64 l2,.si .i64 c1,.si .i64 c2,.sl id])=>(match cn 4 H id with
   |some (n,get)=>some ⟨some (kL n get),none,.fn (.func 134) [] [.sp fr 0],[(fr,.cells 207 [.sp aZ 0])]⟩
   |none=>none)
  |_=>none)
 |_=>none
theorem Vl:cY i_:=by
 intro fr args H H' out hH h
 unfold i_ at h ⊢
 split at h
 ·split at h
  ·rename_i e1
   rw[hH _ _ e1]
   split at h
   ·rename_i e
    simp only[fk hH e]
    exact h
   ·cases h
  ·cases h
 ·cases h
theorem Kk {l:List (Nat × Ct)}(g:Good P T l):aP P 129 i_:=by
 refine bq (C:=aC _) g.ok Tryz.func129 (c:=code Tryz.f129) rfl λfr args H out h hp=>?_
 unfold i_ at h
 split at h
 ·rename_i aZ
  split at h
  ·rename_i mk l1 l2 c1 c2 id e1
   split at h
   ·rename_i n get e
    cases h
    have hh:=DC e1 e hp
    refine⟨lU aZ id n mk l1 l2 c1 c2 (d_ get),[.sp 0 0],t_ n mk l1 l2 c1 c2 (d_ get),2,[2],rfl,rfl,Nat.le_of_ble_eq_true rfl,hh,rfl,rfl,λG hG=>?_⟩
    exact⟨.inl rfl,⟨rfl,rfl,⟨rfl,⟨⟨rfl,⟨rfl,rfl⟩,trivial⟩,rfl⟩,trivial⟩,⟨⟨rfl,⟨rfl,rfl⟩,⟨rfl,rfl⟩,⟨rfl,rfl⟩,⟨rfl,rfl⟩,⟨rfl,rfl⟩,rfl,trivial⟩,trivial,trivial⟩,rfl,rfl⟩⟩
   ·cases h
  ·cases h
 ·cases h
theorem IA {l:List (Nat × Ct)}(g:Good P T l):Good P T ((129,i_)::l):=g.add (Kk g) Vl (aw Tryz.func129 (c:=code Tryz.f129) rfl (by decide))
theorem Uv:Body P 134:=aw Tryz.func134 (c:=code Tryz.f134) rfl (by decide)
theorem adJ (B:jK):(jH (ji B)).length=(ji B).length:=by rw[LI (KR B),List.length_map]
def nR:Ct:=λfr args H =>
 match args with
 |[.sp aZ 0]=>(match H aZ with
  |some (.cells 237 [.si .i64 mk,.si .i64 l1,.si .i64 l2,.si .i64 c1,.si .i64 c2,.sl id])=>(match cn 4 H id with
   |some (n,get)=>some ⟨some (kL n get∧ua ⟨mk,l1,l2,c1,c2,kD n get⟩=true),some (!decide ((0:Int)<((ji ⟨mk,l1,l2,c1,c2,kD n get⟩).length:Int)),iX 10),.sm fr,
     [(fr,.mp (dT jc gk (jH (ji ⟨mk,l1,l2,c1,c2,kD n get⟩))))]⟩
   |none=>none)
  |_=>none)
 |_=>none
theorem DL:cY nR:=by
 intro fr args H H' out hH h
 unfold nR at h ⊢
 split at h
 ·split at h
  ·rename_i e1
   rw[hH _ _ e1]
   split at h
   ·rename_i e
    simp only[fk hH e]
    exact h
   ·cases h
  ·cases h
 ·cases h
theorem Fp:aP P 123 nR:=by
 have g:=IA (v7 (W_ (OW ah)))
 refine Aj (C:=aC _) g.ok Tryz.func123 (c:=code Tryz.f123) rfl λfr args H out h hp=>?_
 unfold nR at h
 split at h
 ·rename_i aZ
  split at h
  ·rename_i mk l1 l2 c1 c2 id e1
   split at h
   ·rename_i n get e
    cases h
    obtain⟨hs,ap⟩:kL n get∧ua ⟨mk,l1,l2,c1,c2,kD n get⟩=true:=hp
    have hh:=DC e1 e hs
    refine⟨lU aZ id n mk l1 l2 c1 c2 (d_ get),[.sp 0 0],t_ n mk l1 l2 c1 c2 (d_ get),2,[2],rfl,rfl,Nat.le_of_ble_eq_true rfl,hh,rfl,rfl,λG hG=>?_⟩
    rw[show kD n get=(List.range n).map (d_ get) from rfl] at ap ⊢
    generalize d_ get=rd at ap ⊢
    obtain⟨gu,hl,hc,hn,hr⟩:=MS ap
    simp only at gu hl hc
    have hn:n≤5:=by simpa using hn
    have hr:∀i,i<n→qI (rd i)=true:=λi hi=>hr _ (List.mem_map.2 ⟨i,List.mem_range.2 hi,rfl⟩)
    have gW:∀i,i<n→bY 1000 (rd i).1∧bY 1000 (rd i).2.1:=λi hi=>by have:=ab4 (hr i hi);unfold bY;omega
    refine sL (g.ok _ _ _) aj rfl rfl rfl rfl rfl ?_
    refine aa.mk (rT _ _) ?_
    refine lK (g.ok _ _ _) rfl rfl rfl Uv ?_
    intro fn
    refine cT g.ok Tryz.func134 (c:=code Tryz.f134) rfl (Nat.le_of_ble_eq_true rfl) λG2 b_=>?_
    refine aa.mk ⟨rT _ _,by omega⟩ ?_
    obtain⟨q,hq⟩:∃q:Pr→Bool,oy mk ((List.range n).map rd)=q:=⟨_,rfl⟩
    refine cm (g.ok _ _ _) 10 (λz:{t:Int // l1≤t∧t≤l2+1}=>⟨[(0,⟨[],.fy 9⟩),(1,⟨[],.sp 4 0⟩),(3,⟨[],.sl 10⟩),(4,⟨[],.si .i64 z.1⟩)],[],
     [(9,.loop [(3,.sp 3 0)] Tryz.f123.ntmps fn [8] (u9 (code Tryz.f123)) (u_ (code Tryz.f123)) 8 .ready none),(8,.eh),(10,.ro 4 n λi=>eP (rd i)),(4,.cells 207 [.sp 0 0]),(3,.cells 209 [.sm 2]),(2,.mp (dT jc gk (jH (rows q l1 c1 c2 z.1))))]++t_ n mk l1 l2 c1 c2 rd,14,[]⟩)
     (λz=>(l2+1-z.1).toNat) b_ ⟨l1,by omega,by omega⟩ (λj=>j) ?_ ?_
    ·refine⟨?_,?_,rfl,rfl,rfl,rfl,trivial⟩
     ·exact Q2
     ·repeat' (first|exact trivial|exact rfl|(intro i hi;exact⟨rfl,rfl⟩)|refine bh ?_|refine And.intro ?_ ?_)
      ·show List.Perm [] (dT jc gk (jH (rows q l1 c1 c2 l1)))
       rw[Sf]
       exact List.Perm.refl _
    ·rintro⟨t,BP,E6⟩
     refine Br.mk (λh=>?_) (λh=>?_)
     ·replace h:t≤l2:=of_decide_eq_true h
      refine cm (g.ok _ _ _) 10 (λz:{a:Int // c1≤a∧a≤c2+1}=>⟨[(0,⟨[],.fy 9⟩),(1,⟨[],.sp 4 0⟩),(3,⟨[],.sl 10⟩),(4,⟨[],.si .i64 t⟩),(5,⟨[],.si .i64 z.1⟩)],[],
       [(9,.loop [(3,.sp 3 0)] Tryz.f123.ntmps fn [8] (u9 (code Tryz.f123)) (u_ (code Tryz.f123)) 8 .ready none),(8,.eh),(10,.ro 4 n λi=>eP (rd i)),(4,.cells 207 [.sp 0 0]),(3,.cells 209 [.sm 2]),(2,.mp (dT jc gk (jH (rows q l1 c1 c2 t++row q t c1 z.1))))]++t_ n mk l1 l2 c1 c2 rd,14,[]⟩)
       (λz=>(c2+1-z.1).toNat) b_ ⟨c1,by omega,by omega⟩ (λj=>j) ?_ ?_
      ·refine⟨?_,?_,rfl,rfl,rfl,rfl,trivial⟩
       ·exact Q2
       ·repeat' (first|exact trivial|exact rfl|(intro i hi;exact⟨rfl,rfl⟩)|refine bh ?_|refine And.intro ?_ ?_)
        ·show List.Perm (dT jc gk (jH (rows q l1 c1 c2 t))) (dT jc gk (jH (rows q l1 c1 c2 t++row q t c1 c1)))
         rw[acp,List.append_nil]
      ·rintro⟨a,IU,Ba⟩
       refine Br.mk (λh2=>?_) (λh2=>?_)
       ·replace h2:a≤c2:=of_decide_eq_true h2
        refine aa.mk ⟨rT _ _,rT _ _,⟨by omega,by omega⟩,⟨(show -1000000≤t by omega),(show t≤1000000 by omega)⟩,⟨(show -1000≤a by omega),(show a≤1000 by omega)⟩,by omega,gW⟩ ?_
        have yx:=aby (n:=n) (mk:=mk) (x:=t) (y:=a) (rd:=rd)
        rw[hq] at yx
        have E4:=acq (q:=q) (n:=t) (c1:=c1) (a:=a) IU
        cases PR:q (t,a) with
        |false =>
         rw[PR] at yx E4
         refine Ik 48 true (g.ok _ _ _) aj rfl rfl rfl rfl rfl rfl rfl trivial (by show(!(List.range n).any (λi=>!jO mk (t,a) (rd i))) = !true;rw[yx];rfl) ?_
         refine Br.mk (λh3=>?_) (λ_=>?_)
         ·exfalso
          have h3:((!(List.range n).any (λi=>!jO mk (t,a) (rd i)))&&_)=true:=h3
          rw[yx] at h3
          simp at h3
         refine aa.mk (show ae .i64 (a+1) from⟨by omega,by omega⟩) ⟨⟨a+1,by omega,by omega⟩,(λj=>j),?_,(by show(c2+1-(a+1)).toNat<(c2+1-a).toNat;omega)⟩
         refine⟨?_,?_,rfl,rfl,rfl,rfl,trivial⟩
         ·exact Q2
         ·repeat' (first|exact trivial|exact rfl|(intro i hi;exact⟨rfl,rfl⟩)|refine bh ?_|refine And.intro ?_ ?_)
          ·show List.Perm (dT jc gk (jH (rows q l1 c1 c2 t++row q t c1 a))) (dT jc gk (jH (rows q l1 c1 c2 t++row q t c1 (a+1))))
           rw[E4]
           simp
        |true =>
         rw[PR] at yx E4
         refine AN rfl rfl ⟨trivial,rfl,(by show(!(List.range n).any (λi=>!jO mk (t,a) (rd i)))=true;rw[yx];rfl)⟩ ?_
         refine vT 9 g.ok (g.ok _ _ _) aj rfl rfl rfl rfl rfl rfl rfl rfl rfl (by decide) ?_
         intro G4 r X2
         refine mS jc gk (jH (rows q l1 c1 c2 t++row q t c1 a)) (t,a) true (jH (rows q l1 c1 c2 t++row q t c1 (a+1))) (by rw[E4,if_pos rfl,←List.append_assoc,adK]) 2 (g.ok _ _ _) aj rfl (.inl rfl) rfl rfl rfl rfl Ay rj rfl rfl rfl rfl ?_
         intro _
         refine Br.mk (λh3=>?_) (λ_=>?_)
         ·exfalso
          have h3:((!(List.range n).any (λi=>!jO mk (t,a) (rd i)))&&false)=true:=h3
          simp at h3
         refine aa.mk (show ae .i64 (a+1) from⟨by omega,by omega⟩) ⟨⟨a+1,by omega,by omega⟩,(λj=>j),?_,(by show(c2+1-(a+1)).toNat<(c2+1-a).toNat;omega)⟩
         refine⟨?_,?_,rfl,rfl,rfl,rfl,trivial⟩
         ·exact Q2
         ·repeat' (first|exact trivial|exact rfl|(intro i hi;exact⟨rfl,rfl⟩)|refine bh ?_|refine And.intro ?_ ?_)
          ·exact List.Perm.refl _
       ·replace h2:¬a≤c2:=of_decide_eq_false h2
        obtain rfl:a=c2+1:=by omega
        refine aa.mk (show ae .i64 (t+1) from⟨by omega,by omega⟩) ⟨⟨t+1,by omega,by omega⟩,(λj=>j),?_,(by show(l2+1-(t+1)).toNat<(l2+1-t).toNat;omega)⟩
        refine⟨?_,?_,rfl,rfl,rfl,rfl,trivial⟩
        ·exact Q2
        ·repeat' (first|exact trivial|exact rfl|(intro i hi;exact⟨rfl,rfl⟩)|refine bh ?_|refine And.intro ?_ ?_)
         ·show List.Perm (dT jc gk (jH (rows q l1 c1 c2 t++row q t c1 (c2+1)))) (dT jc gk (jH (rows q l1 c1 c2 (t+1))))
          rw[Sh BP]
     ·replace h:¬t≤l2:=of_decide_eq_false h
      obtain rfl:t=l2+1:=by omega
      have E0:ji ⟨mk,l1,l2,c1,c2,(List.range n).map rd⟩=rows q l1 c1 c2 (l2+1):=by rw[←hq];rfl
      have hlen:=adJ ⟨mk,l1,l2,c1,c2,(List.range n).map rd⟩
      rw[E0] at hlen ⊢
      refine WG jc gk (jH (rows q l1 c1 c2 (l2+1))) 2 (g.ok _ _ _) aj rfl rfl rfl rfl rfl rfl rfl rfl rfl rfl Ay rj rfl rfl ?_
      rw[hlen]
      refine Br.mk (λh=>?_) (λh=>?_)
      ·have h:(!decide ((0:Int)<((rows q l1 c1 c2 (l2+1)).length:Int)))=true:=h
       exact⟨by rw[h],⟨rfl,⟨rfl,rfl⟩,⟨rfl,rfl⟩,⟨rfl,rfl⟩,⟨rfl,rfl⟩,⟨rfl,rfl⟩,rfl,trivial⟩,trivial,trivial⟩
      ·have h:(!decide ((0:Int)<((rows q l1 c1 c2 (l2+1)).length:Int)))=false:=h
       exact⟨.inr ⟨_,by rw[h]⟩,⟨rfl,rfl,⟨rfl,List.Perm.refl _,trivial⟩,⟨⟨rfl,⟨rfl,rfl⟩,⟨rfl,rfl⟩,⟨rfl,rfl⟩,⟨rfl,rfl⟩,⟨rfl,rfl⟩,rfl,trivial⟩,trivial,trivial⟩,rfl,rfl⟩⟩
   ·cases h
  ·cases h
 ·cases h
theorem OR {l:List (Nat × Ct)}(g:Good P T l):Good P T ((123,nR)::l):=g.add Fp DL (aw Tryz.func123 (c:=code Tryz.f123) rfl (by decide))
def CY (B:jK)(o:Int)(is:Bool):Int:=if fF B o is=0 then(if(ji B).length=0 then 10 else 0) else fF B o is
def kP (mk off:Int)(l:List Pr)(m:Nat):Bool:=l.all λp=>decide (-off≤lp mk p.2 (-(m:Int)))
def Ar (q:Nat→Bool):Nat→Nat
 |0=>0
 |n+1=>if q (n+1)=true then n+1 else Ar q n
theorem NI {q:Nat→Bool}{m:Nat}:∀{n:Nat},m≤n→(m=0∨q m=true)→(∀k,m<k→k≤n→q k=false)→Ar q n=m
 |0,h,_,_=>by simp only[Ar];omega
 |n+1,h,h1,h2=>by
  simp only[Ar]
  by_cases e:m=n+1
  ·subst e
   rcases h1 with h1|h1
   ·omega
   ·rw[if_pos h1]
  ·rw[h2 (n+1) (by omega) (Nat.le_refl _),if_neg Bool.false_ne_true]
   exact NI (by omega) h1 λk k1 k2=>h2 k k1 (by omega)
def Gg (B:jK)(off:Int):Int:=(Ar (kP B.mark off (ji B)) 100:Nat)
theorem XS {mk a:Int}(h1:0≤mk)(h2:0≤a){s t:Int}(h:s≤t):lp mk a s≤lp mk a t:=by
 unfold lp
 have:mk*a*s≤mk*a*t:=Int.mul_le_mul_of_nonneg_left h (Int.mul_nonneg h1 h2)
 omega
theorem VN {mk off:Int}{l:List Pr}(h1:0≤mk)(h2:∀p∈l,0≤p.2){m k:Nat}(h:m≤k)(hc:kP mk off l k=true):kP mk off l m=true:=by
 unfold kP at *
 rw[List.all_eq_true] at *
 intro p hp
 have:=hc p hp
 simp only[decide_eq_true_eq] at *
 have:=XS h1 (h2 p hp) (show -(k:Int)≤-(m:Int) by omega)
 omega
theorem VO {mk off:Int}{l:List Pr}(h:0≤off):kP mk off l 0=true:=by
 unfold kP
 rw[List.all_eq_true]
 intro p hp
 simp only[decide_eq_true_eq,lp]
 simp
 omega
theorem HG {mk off:Int}{l:List Pr}{p:Pr}{m:Nat}:kP mk off (l++[p]) m=(kP mk off l m&&decide (-off≤lp mk p.2 (-(m:Int)))):=by
 simp[kP,List.all_append]
theorem Nw {mk off:Int}{l l':List Pr}(h:l.Perm l')(m:Nat):kP mk off l m=kP mk off l' m:=by
 unfold kP
 rw[Bool.eq_iff_iff,List.all_eq_true,List.all_eq_true]
 exact⟨λhl p hp=>hl p (h.mem_iff.2 hp),λhl p hp=>hl p (h.mem_iff.1 hp)⟩
def tD (B:jK)(off:Int):Int × Int:=if CY B 0 (aE off 0 30000)=0 then(Gg B off,0) else(0,CY B 0 (aE off 0 30000))
def ue:Ct:=C6 λB r=>match r with
 |[.si .i64 off]=>some (none,.bn [.si .i64 (tD B off).1,.si .i64 (tD B off).2])
 |_=>none
theorem Kd {l:List (Nat × Ct)}(g0:Good P T l):aP P 97 ue:=by
 have g:=OR (OS (yn (v5 g0)))
 refine VM (C:=aC _) g.ok vp Tryz.func97 (c:=code Tryz.f97) rfl λfr args H out h hp=>aes h hp λmk l1 l2 c1 c2 n rd r p v Rv hk hp hR=>?_
 split at hk
 ·rename_i off
  cases hk
  refine⟨Nat.le_of_ble_eq_true rfl,λG hG=>?_⟩
  refine AK (g.ok _ _ _) rfl aj rfl rfl rfl rfl ?_
  refine cU (g.ok _ _ _) bP [0,0,2,7,15] [] 5 (by kernel_rfl) ?_
  refine aa.mk (rT _ _) ?_
  obtain⟨is,qt⟩:∃is:Bool,aE off 0 30000=is:=⟨_,rfl⟩
  obtain⟨B,hB⟩:∃B:jK,(⟨mk,l1,l2,c1,c2,(List.range n).map rd⟩:jK)=B:=⟨_,rfl⟩
  have PJ:B.mark=mk:=by rw[←hB]
  have wi:(⟨mk,l1,l2,c1,c2,kD n λi=>eP (rd i)⟩:jK)=B:=hB
  rw[hB] at hR
  refine Br.mk (λh=>?_) (λh=>?_)
  ·have h:(!decide (fF ⟨mk,l1,l2,c1,c2,kD n λi=>eP (rd i)⟩ 0 (aE off 0 30000)=0))=true:=h
   rw[wi,qt] at h
   have h:¬fF B 0 is=0:=by simpa using h
   have hw:tD B off=(0,fF B 0 is):=by rw[tD,qt,CY,if_neg h,if_neg h]
   rw[hw] at hR
   exact hR _ _ ⟨⟨rfl,rfl⟩,⟨rfl,(by show fF ⟨mk,l1,l2,c1,c2,kD n λi=>eP (rd i)⟩ 0 (aE off 0 30000)=fF B 0 is;rw[wi,qt])⟩,trivial⟩ rfl
  ·have h:(!decide (fF ⟨mk,l1,l2,c1,c2,kD n λi=>eP (rd i)⟩ 0 (aE off 0 30000)=0))=false:=h
   rw[wi,qt] at h
   have h:fF B 0 is=0:=by simpa using h
   obtain⟨q1,q2,q3⟩:=H2 h
   have EV:0≤off∧off≤30000:=by
    rw[q3] at qt
    simpa only[aE,Bool.and_eq_true,decide_eq_true_eq] using qt
   have ur:=MS q1
   have ck:0≤mk∧bY 1000 mk:=by rw[←PJ];unfold bY;omega
   refine aa.mk ⟨rT _ _,by rw[wi];exact q1⟩ ?_
   refine Br.mk (λh2=>?_) (λh2=>?_)
   ·have h2:(!decide ((0:Int)<((ji ⟨mk,l1,l2,c1,c2,kD n λi=>eP (rd i)⟩).length:Int)))=true:=h2
    rw[wi] at h2
    have h2:(ji B).length=0:=by
     have:¬(0:Int)<((ji B).length:Int):=by simpa using h2
     omega
    have hw:tD B off=(0,10):=by rw[tD,qt,CY,if_pos h,if_pos h2,if_neg (by decide)]
    rw[hw] at hR
    exact hR _ _ ⟨⟨rfl,rfl⟩,⟨rfl,rfl⟩,trivial⟩ rfl
   ·have h2:(!decide ((0:Int)<((ji ⟨mk,l1,l2,c1,c2,kD n λi=>eP (rd i)⟩).length:Int)))=false:=h2
    rw[wi] at h2
    have h2:¬(ji B).length=0:=by
     have:(0:Int)<((ji B).length:Int):=by simpa using h2
     omega
    have hw:tD B off=(Gg B off,0):=by rw[tD,qt,CY,if_pos h,if_neg h2,if_pos rfl]
    rw[hw] at hR
    have pi:∀p∈ji B,0≤p.2∧bY 1000 p.2:=λp hp=>by
     have:=(abQ.1 hp).1
     unfold bY;omega
    refine Ed jc gk (jH (ji B)) 23 (g.ok _ _ _) aj rfl rfl rfl rfl rfl rfl rfl Ay rj rfl (by rw[←wi];rfl) ?_
    intro lA ts clock mn
    have P7:∀{aN rest:List ((Pr × Bool) × Nat)},ts.Perm (aN++rest)→∀x∈aN,x.1.1∈ji B:=λhp x hx=>by
     have h1:=mn.mem_iff.1 (List.mem_map_of_mem (f:=λx=>x.1) (hp.mem_iff.2 (List.mem_append_left _ hx)))
     rw[LI (KR B)] at h1
     obtain⟨p,h2,h3⟩:=List.mem_map.1 h1
     rw[←h3];exact h2
    refine cm (g.ok _ _ _) 28 (λx:{z:(List ((Pr × Bool) × Nat) × List ((Pr × Bool) × Nat)) × Nat // ts.Perm (z.1.1++z.1.2)∧z.2≤100∧kP mk off (z.1.1.map (·.1.1)) z.2=true∧∀k,z.2<k→k≤100→kP mk off (z.1.1.map (·.1.1)) k=false} =>
     ⟨[(1,⟨[],.si .i64 off⟩),(2,⟨[],.sp 1 0⟩),(5,⟨[],.sp 2 0⟩),(7,⟨[],.si .i64 x.1.2⟩),(15,⟨[],.sp 27 0⟩)],[],
      [(27,.it 23 clock (x.1.1.1.map (·.2)) clock),(23,.map (kd jc gk ts) clock),(2,.cells 47 [.si .i64 0]),(1,.cells 183 (bC mk l1 l2 c1 c2 0)),(0,.ro 4 n λi=>eP (rd i))],28,[(120,[.sp 2 0])]⟩)
     (λx=>x.1.1.2.length) (λj hj=>hG j (by omega)) ⟨(([],ts),100),by simp,by simp,by simp[kP],λk k1 k2=>by simp only at k1;omega⟩ (λj=>j) ?_ ?_
    ·refine⟨?_,?_,rfl,rfl,rfl,rfl,⟨rfl,⟨⟨rfl,rfl⟩,trivial⟩,rfl,trivial⟩⟩
     ·exact Q2
     ·exact Q1
    ·rintro⟨⟨⟨aN,rest⟩,m⟩,hp,hm,Jj,IX⟩
     simp only at hp hm Jj IX
     refine Ec jc gk 23 27 clock ts aN rest (g.ok _ _ _) aj rfl rfl rfl rfl rfl Ay rj rfl rfl rfl hp ⟨λhr=>?_,?_⟩
     ·replace hr:rest=[]:=hr
      subst hr
      have hv:ts.Perm aN:=by simpa using hp
      have E0:(aN.map λx=>x.1.1).Perm (ji B):=by
       have h3:=(((hv.map λx=>x.1).symm.trans mn).map λx:Pr × Bool=>x.1)
       rw[LI (KR B),List.map_map,List.map_map] at h3
       simpa [Function.comp_def] using h3
      have uI:Gg B off=(m:Int):=by
       unfold Gg
       rw[PJ,NI hm (.inr (by rw[←Nw E0];exact Jj)) λk k1 k2=>by rw[←Nw E0];exact IX k k1 k2]
      refine Br.mk (λh=>by cases h) (λ_=>?_)
      rw[uI] at hR
      exact hR _ _ ⟨⟨rfl,rfl⟩,⟨rfl,rfl⟩,trivial⟩ rfl
     ·rintro⟨⟨⟨x,y⟩,bb⟩,b⟩ iY lD
      refine Br.mk (λ_=>?_) (λh=>by cases h)
      have EZ:(((x,y),bb),b)∈ts:=hp.mem_iff.2 (List.mem_append_right _ (lD.mem_iff.2 List.mem_cons_self))
      have jy:ts.Perm ((aN++[(((x,y),bb),b)])++iY):=by
       rw[List.append_assoc]
       exact hp.trans (List.Perm.append_left _ lD)
      have hy:=pi (x,y) (P7 jy (((x,y),bb),b) (by simp))
      have ZW:∀p∈(aN++[(((x,y),bb),b)]).map (·.1.1),0≤p.2:=λp ko=>by
       obtain⟨z,hz,rfl⟩:=List.mem_map.1 ko
       exact(pi _ (P7 jy z hz)).1
      have JV:(aN++[(((x,y),bb),b)]).map (·.1.1)=aN.map (·.1.1)++[(x,y)]:=by simp
      refine Eb jc gk 23 27 clock ts aN (((x,y),bb),b) (g.ok _ _ _) aj rfl rfl rfl rfl rfl Ay rj rfl rfl rfl EZ ?_
      refine cm (g.ok _ _ _) 28 (λz:{k:Nat // k≤m∧∀j,k<j→j≤100→kP mk off (aN.map (·.1.1)++[(x,y)]) j=false} =>
       ⟨[(1,⟨[],.si .i64 off⟩),(2,⟨[],.sp 1 0⟩),(5,⟨[],.sp 2 0⟩),(7,⟨[],.si .i64 z.1⟩),(8,⟨[],.sp 28 0⟩),(15,⟨[],.sp 27 0⟩)],[],
        [(28,.cells 212 [.si .i64 x,.si .i64 y]),(27,.it 23 clock ((aN++[(((x,y),bb),b)]).map (·.2)) clock),(23,.map (kd jc gk ts) clock),(2,.cells 47 [.si .i64 0]),(1,.cells 183 (bC mk l1 l2 c1 c2 0)),(0,.ro 4 n λi=>eP (rd i))],29,[(120,[.sp 2 0])]⟩)
       (λz=>z.1) (λj hj=>hG j (by omega)) ⟨m,Nat.le_refl _,λj j1 j2=>by rw[HG,IX j j1 j2];rfl⟩ (λj=>j) ?_ ?_
      ·refine⟨?_,?_,rfl,rfl,rfl,rfl,⟨rfl,⟨⟨rfl,rfl⟩,trivial⟩,rfl,trivial⟩⟩
       ·exact Q2
       ·exact Q1
      ·rintro⟨k,c9,bA⟩
       refine aa.mk (λ_=>(show ae .i64 (0-(k:Int)) from⟨by omega,by omega⟩)) ?_
       refine aa.mk (λ_=>⟨ck.2,hy.2,(by show -1000≤0-(k:Int)∧0-(k:Int)≤1000;omega)⟩) ?_
       refine aa.mk (λ_=>(show ae .i64 (0-off) from⟨by omega,by omega⟩)) ?_
       have hz:(0:Int)-(k:Int)=-(k:Int):=by omega
       have lE:(0:Int)-off=-off:=by omega
       refine Br.mk (λh3=>?_) (λh3=>?_)
       ·have h3:(decide ((0:Int)<(k:Int))&&decide (lp mk y (0-(k:Int))<0-off))=true:=h3
        rw[hz,lE] at h3
        simp only[Bool.and_eq_true,decide_eq_true_eq] at h3
        refine aa.mk (show ae .i64 ((k:Int)-1) from⟨by omega,by omega⟩) ⟨⟨k-1,by omega,λj j1 j2=>?_⟩,(λj=>j),?_,(by show k-1<k;omega)⟩
        ·rcases Nat.lt_or_ge k j with h4|h4
         ·exact bA j h4 j2
         ·obtain rfl:j=k:=by omega
          rw[HG,decide_eq_false (by show ¬-off≤lp mk y (-(j:Int));omega),Bool.and_false]
        ·refine⟨?_,?_,rfl,rfl,rfl,rfl,⟨rfl,⟨⟨rfl,rfl⟩,trivial⟩,rfl,trivial⟩⟩
         ·repeat' (first|exact trivial|exact rfl|refine And.intro ?_ ?_)
          show(k:Int)-1=((k-1:Nat):Int)
          omega
         ·exact Q1
       ·have h3:(decide ((0:Int)<(k:Int))&&decide (lp mk y (0-(k:Int))<0-off))=false:=h3
        rw[hz,lE] at h3
        have YH:kP mk off (aN.map (·.1.1)++[(x,y)]) k=true:=by
         rcases Nat.eq_zero_or_pos k with rfl|cR
         ·exact VO EV.1
         ·rw[decide_eq_true (by omega),Bool.true_and,decide_eq_false_iff_not] at h3
          rw[HG,decide_eq_true (by show -off≤lp mk y (-(k:Int));omega),Bool.and_true]
          exact VN ck.1 (λp ko=>ZW p (by rw[JV];exact List.mem_append_left _ ko)) c9 Jj
        refine⟨⟨((aN++[(((x,y),bb),b)],iY),k),jy,by simp only;omega,by simp only;rw[JV];exact YH,λj j1 j2=>by simp only;rw[JV];exact bA j j1 j2⟩,(λj=>j),?_,(by show iY.length<rest.length;rw[lD.length_eq];simp)⟩
        refine⟨?_,?_,rfl,rfl,rfl,rfl,⟨rfl,⟨⟨rfl,rfl⟩,trivial⟩,rfl,trivial⟩⟩
        ·exact Q2
        ·exact Q1
 ·cases hk
theorem Iw {l:List (Nat × Ct)}(g:Good P T l):Good P T ((97,ue)::l):=g.add (Kd g) (aer _) (aw Tryz.func97 (c:=code Tryz.f97) rfl (by decide))
def Ll (i:Nat):Span:=[((10:Int),(10:Int)),(12,13),(20,20),(31,32)].getD i (0,0)
def SM:List Span:=[(10,10),(12,13),(20,20),(31,32)]
theorem V_:S.sM SM 1 2 42 45=(9,0):=by decide +kernel
def SN:jK:=⟨50,-3,3,10,12,[(1,2,52,58)]⟩
theorem Wa:tD SN 60=(1,0):=by decide +kernel
theorem NL:(jG 4 λi=>iw (Ll i))=SM:=by decide
def z8:Ct:=λfr args H =>
 match args with
 |[]=>some ⟨none,none,.agg [.sl fr,.si .i64 1,.si .i64 2],[(fr,.ro 2 4 λi=>iw (Ll i))]⟩
 |_=>none
theorem Vb:cY z8:=by
 intro fr args H H' out hH h
 unfold z8 at h ⊢
 exact h
theorem wk (H:LH):Hand H [] where
 ok j c hb h:=by simp at h
 ids j c hb h:=by simp at h
 inj i j c hb hb' h _ _ _:=by simp at h
theorem k51 {l:List (Nat × Ct)}(g0:Good P T l):aP P 96 z8:=by
 have g:=Iv g0
 refine bq (C:=aC _) g.ok Tryz.func96 (c:=code Tryz.f96) rfl λfr args H out h hp=>?_
 unfold z8 at h
 split at h
 ·cases h
  refine⟨[],[],[],0,[1],rfl,rfl,Nat.le_of_ble_eq_true rfl,wk H,rfl,rfl,λG hG=>?_⟩
  refine⟨.inl rfl,⟨⟨rfl,⟨rfl,rfl⟩,⟨rfl,rfl⟩,trivial⟩,rfl,⟨rfl,⟨rfl,rfl,λi hi=>?_⟩,trivial⟩,trivial,rfl,rfl⟩⟩
  have hi:i<4:=hi
  rcases(show i=0∨i=1∨i=2∨i=3 by omega) with rfl|rfl|rfl|rfl<;>exact⟨rfl,rfl⟩
 ·cases h
theorem Xs {l:List (Nat × Ct)}(g:Good P T l):Good P T ((96,z8)::l):=g.add (k51 g) Vb (aw Tryz.func96 (c:=code Tryz.f96) rfl (by decide))
def qe:Ct:=λfr args H =>
 match args with
 |[]=>some ⟨none,none,.agg [.si .i64 50,.si .i64 (-3),.si .i64 3,.si .i64 10,.si .i64 12,.sl fr],[(fr,.ro 4 1 λi=>eP (1,2,52,58))]⟩
 |_=>none
theorem Hm:cY qe:=by
 intro fr args H H' out hH h
 unfold qe at h ⊢
 exact h
theorem Kf {l:List (Nat × Ct)}(g0:Good P T l):aP P 98 qe:=by
 have g:=Iv g0
 refine bq (C:=aC _) g.ok Tryz.func98 (c:=code Tryz.f98) rfl λfr args H out h hp=>?_
 unfold qe at h
 split at h
 ·cases h
  refine⟨[],[],[],0,[1],rfl,rfl,Nat.le_of_ble_eq_true rfl,wk H,rfl,rfl,λG hG=>?_⟩
  refine⟨.inl rfl,⟨⟨⟨rfl,rfl⟩,⟨rfl,rfl⟩,⟨rfl,rfl⟩,⟨rfl,rfl⟩,⟨rfl,rfl⟩,rfl,trivial⟩,rfl,⟨rfl,⟨rfl,rfl,λi hi=>?_⟩,trivial⟩,trivial,rfl,rfl⟩⟩
  have hi:i<1:=hi
  obtain rfl:i=0:=by omega
  exact⟨rfl,rfl⟩
 ·cases h
theorem Iy {l:List (Nat × Ct)}(g:Good P T l):Good P T ((98,qe)::l):=g.add (Kf g) Hm (aw Tryz.func98 (c:=code Tryz.f98) rfl (by decide))
theorem Xg {l:List (Nat × Ct)}(g:Good P T l):Good P T ((95,S.ud)::l):=g.add (S.Kc S.ah) (S.adp _) (aw Tryz.func95 (c:=code Tryz.f95) rfl (by decide))
def qd:Ct:=bd fun
 |[]=>some ⟨none,none,.sb true,[]⟩
 |_=>none
theorem Fm {l:List (Nat × Ct)}(g0:Good P T l):aP P 63 qd:=by
 have g:=Iw (Xg (Iy (Xs (Iv ah))))
 refine bq (C:=aC _) g.ok Tryz.func63 (c:=code Tryz.f63) rfl λfr args H out h hp=>?_
 simp only[qd,bd] at h
 split at h
 ·cases h
  refine dt rfl (Nat.le_of_ble_eq_true rfl) λG hG=>?_
  refine aa.mk ⟨λi hi=>?_,rfl,(show(jG 4 λi=>iw (Ll i)).length≤40 by rw[NL];decide)⟩ ?_
  ·rcases(show i=0∨i=1∨i=2∨i=3 by omega) with rfl|rfl|rfl|rfl<;>rfl
  refine aa.mk ⟨λi hi=>?_,rfl,?_⟩ ?_
  ·obtain rfl:i=0:=by omega
   rfl
  ·trivial
  refine⟨.inl rfl,cz ?_ rfl rfl⟩
  show(_:Bool)=true
  rw[NL,V_,show(⟨50,-3,3,10,12,kD 1 λi=>eP (1,2,52,58)⟩:jK)=SN from rfl,Wa]
  rfl
 ·cases h
theorem OL {l:List (Nat × Ct)}(g:Good P T l):Good P T ((63,qd)::l):=g.add (Fm g) (cZ _) (aw Tryz.func63 (c:=code Tryz.f63) rfl (by decide))
end Go.X.W
namespace Go.X
open Go
def iz (N:Nat)(ix:Nat→Option Nat)(z:Nat→Bool)(l:List Bool):Array Bool:=((List.range N).map λj=>match ix j with
 |some i=>l.getD i false
 |none=>z j).toArray
def sF (ops:Array Oper)(j:Nat):List Nat:=match ops[j]? with
 |some o=>(o.after.toList.filter gh).map (·.on)
 |none=>[]
def HD (bf:Nat→List Nat):Nat→Nat→List Nat
 |0,d=>[d]
 |f+1,d=>d::(bf d).flatMap (HD bf f)
def Rn (ops:Array Oper)(ix:Nat→Option Nat)(z:Nat→Bool)(j:Nat):Bool:=(sF ops j).any λk=>match ix k with
 |none=>!z k
 |some _=>false
def CW (ops:Array Oper)(ix:Nat→Option Nat)(bf:Nat→List Nat)(z:Nat→Bool)(j:Nat)(FL:List Nat):Bool :=
 Rn ops ix z j||FL.all λq=>(sF ops j).any λk=>match ix k with
  |some d=>(HD bf 6 d).contains q
  |none=>false
def K3 (ops:Array Oper)(N:Nat)(ix:Nat→Option Nat)(z:Nat→Bool)(i j:Nat):Bool:=(sF ops j).all λk=>Nat.blt k N&&match ix k with
 |some d=>Nat.blt d i
 |none=>z k
def xm (ops:Array Oper)(N m:Nat)(ix:Nat→Option Nat)(gJ:Nat→Nat)(bf:Nat→List Nat)(z:Nat→Bool):Bool :=
 Nat.beq ops.size N&&((List.range N).all (λj=>match ix j with
  |some i=>Nat.blt i m&&(Nat.beq (gJ i) j&&CW ops ix bf z j (bf i))
  |none=>z j||CW ops ix bf z j (List.range m))
 && (List.range m).all λi=>ix (gJ i) == some i&&(Nat.blt (gJ i) N&&K3 ops N ix z i (gJ i)))
def qj (m:Nat)(l:List Bool):Bool:=(List.range m).all λj=>l.getD j false
theorem zQ {a b:Nat}(h:Nat.blt a b=true):a<b:=Nat.le_of_ble_eq_true h
theorem Dt {N:Nat}{ix:Nat→Option Nat}{z:Nat→Bool}{l:List Bool}{j:Nat}(d:Bool)(h:j<N):(iz N ix z l).getD j d=(match ix j with
 |some i=>l.getD i false
 |none=>z j):=by
 unfold iz
 simp[Array.getD,h]
theorem MC {N:Nat}{ix:Nat→Option Nat}{z:Nat→Bool}{l:List Bool}{j:Nat}(h:(iz N ix z l).getD j false=true):j<N∧(match ix j with
 |some i=>l.getD i false
 |none=>z j)=true:=by
 by_cases hj:j<N
 ·rw[Dt false hj] at h;exact⟨hj,h⟩
 ·unfold iz at h
  simp[Array.getD,hj] at h
theorem Rh {ops:Array Oper}{listed:Array Bool}{j:Nat}:j∈Region.ready .any ops listed↔listed.getD j true=false∧j<ops.size∧∀k∈sF ops j,listed.getD k false=true:=by
 rw[mem_ready]
 constructor
 ·rintro⟨h0,o,ho,h⟩
  refine⟨h0,(Array.getElem?_eq_some_iff.1 ho).1,λk hk=>?_⟩
  unfold sF at hk
  rw[ho] at hk
  obtain⟨e,he,rfl⟩:=List.mem_map.1 hk
  obtain⟨he,hb⟩:=List.mem_filter.1 he
  exact h e (Array.mem_toList_iff.1 he) (by rw[DB];exact hb)
 ·rintro⟨h0,hj,h⟩
  refine⟨h0,ops[j],Array.getElem?_eq_getElem hj,λe he hb=>h e.on ?_⟩
  unfold sF
  rw[Array.getElem?_eq_getElem hj]
  exact List.mem_map.2 ⟨e,List.mem_filter.2 ⟨Array.mem_toList_iff.2 he,by rw[←DB];exact hb⟩,rfl⟩
theorem No {bf:Nat→List Nat}{l:List Bool}(bi:nU bf l=true):∀(f d q:Nat),l.getD d false=true→q∈HD bf f d→l.getD q false=true
 |0,d,q,h,hq=>by rw[List.mem_singleton.1 hq];exact h
 |f+1,d,q,h,hq=>by
  rcases List.mem_cons.1 hq with rfl|hq
  ·exact h
  obtain⟨e,he,hq⟩:=List.mem_flatMap.1 hq
  refine No bi f e q ?_ hq
  have hd:d<l.length:=by
   by_cases hd:d<l.length
   ·exact hd
   ·rw[List.getD,List.getElem?_eq_none (by omega)] at h;cases h
  have:=List.all_eq_true.1 bi d (List.mem_range.2 hd)
  rw[h,Bool.not_true,Bool.false_or,List.all_eq_true] at this
  exact this e he
theorem abg {ops:Array Oper}{N:Nat}{ix:Nat→Option Nat}{z:Nat→Bool}{l:List Bool}{j:Nat}(h:Rn ops ix z j=true)(hr:∀k∈sF ops j,(iz N ix z l).getD k false=true):False:=by
 obtain⟨k,hk,h⟩:=List.any_eq_true.1 h
 have h2:=(MC (hr k hk)).2
 cases e:ix k with
 |some i=>rw[e] at h;cases h
 |none=>rw[e] at h h2;simp only at h h2;rw[h2] at h;cases h
theorem SZ {ops:Array Oper}{N:Nat}{ix:Nat→Option Nat}{bf:Nat→List Nat}{z:Nat→Bool}{l:List Bool}{j:Nat}{FL:List Nat}(bi:nU bf l=true)(h:CW ops ix bf z j FL=true)(hr:∀k∈sF ops j,(iz N ix z l).getD k false=true):(FL.all λq=>l.getD q false)=true:=by
 rcases Bool.or_eq_true_iff.1 h with h|h
 ·exact(abg h hr).elim
 rw[List.all_eq_true] at h ⊢
 intro q hq
 obtain⟨k,hk,h⟩:=List.any_eq_true.1 (h q hq)
 have h2:=(MC (hr k hk)).2
 cases e:ix k with
 |none=>rw[e] at h;cases h
 |some d =>
  rw[e] at h h2
  exact No bi 6 d q h2 (List.contains_iff_mem.1 h)
theorem MD {N:Nat}{ix:Nat→Option Nat}{z:Nat→Bool}{l:List Bool}(k:Nat):(iz N ix z l)[k]?=if k<N then some (match ix k with
 |some i=>l.getD i false
 |none=>z k) else none:=by
 unfold iz
 by_cases h:k<N<;>simp[h]
theorem Ur {N:Nat}{ix:Nat→Option Nat}{z:Nat→Bool}{l:List Bool}:(iz N ix z l).size=N:=by simp[iz]
theorem Uq {N:Nat}{ix:Nat→Option Nat}{z:Nat→Bool}{l:List Bool}{i j:Nat}(hl:i<l.length)(hi:ix j=some i)(h1:∀k,k<N→ix k=some i→k=j):(iz N ix z l).setIfInBounds j true=iz N ix z (l.set i true):=by
 apply Array.ext_getElem?
 intro k
 rw[Array.getElem?_setIfInBounds,MD,MD,Ur]
 by_cases e:j=k
 ·subst e
  rw[if_pos rfl]
  by_cases hN:j<N
  ·rw[if_pos hN,if_pos hN,hi]
   simp[List.getD,hl]
  ·rw[if_neg hN,if_neg hN]
 ·rw[if_neg e]
  by_cases hN:k<N
  ·rw[if_pos hN,if_pos hN]
   cases ek:ix k with
   |none=>rfl
   |some d =>
    have hd:i≠d:=λh=>e (h1 k hN (h ▸ ek)).symm
    simp only[List.getD,List.getElem?_set_ne hd]
  ·rw[if_neg hN,if_neg hN]
theorem Oh {l:List Bool}:∀m,∃i,i≤m∧(∀d,d<i→l.getD d false=true)∧(i<m→l.getD i false=false)
 |0=>⟨0,Nat.le_refl _,λd h=>absurd h (Nat.not_lt_zero d),λh=>absurd h (Nat.lt_irrefl 0)⟩
 |m+1=>by
  obtain⟨i,h1,h2,h3⟩:=Oh (l:=l) m
  by_cases ir:i<m
  ·exact⟨i,by omega,h2,λ_=>h3 ir⟩
  obtain rfl:i=m:=by omega
  cases e:l.getD i false with
  |false=>exact⟨i,by omega,h2,λ_=>e⟩
  |true=>exact⟨i+1,Nat.le_refl _,λd hd=>by
    rcases Nat.lt_succ_iff_lt_or_eq.1 hd with h|rfl
    ·exact h2 d h
    ·exact e,λh=>absurd h (Nat.lt_irrefl _)⟩
theorem ab5 {ops:Array Oper}{N:Nat}{ix:Nat→Option Nat}{z:Nat→Bool}{l:List Bool}{i j:Nat}(h:K3 ops N ix z i j=true)(h2:∀d,d<i→l.getD d false=true):∀k∈sF ops j,(iz N ix z l).getD k false=true:=by
 intro k hk
 have h:=List.all_eq_true.1 h k hk
 rw[Bool.and_eq_true] at h
 rw[Dt false (zQ h.1)]
 cases e:ix k with
 |none=>rw[e] at h;exact h.2
 |some d=>rw[e] at h;exact h2 d (zQ h.2)
def LG (ops:Array Oper)(N m:Nat)(ix:Nat→Option Nat)(gJ:Nat→Nat)(bf:Nat→List Nat)(z:Nat→Bool)(pre:List Nat):Bool :=
 Nat.beq ops.size N&&((List.range N).all (λj=>match ix j with
  |some i=>Nat.blt i m&&(Nat.beq (gJ i) j&&CW ops ix bf z j (bf i))
  |none=>z j||CW ops ix bf z j ((List.range m).filter λq=>!pre.contains q))
 && (List.range m).all λi=>ix (gJ i) == some i&&(Nat.blt (gJ i) N&&K3 ops N ix z i (gJ i)))
theorem aaI {ops:Array Oper}{N m:Nat}{ix:Nat→Option Nat}{gJ:Nat→Nat}{bf:Nat→List Nat}{z:Nat→Bool}{pre:List Nat}(h:LG ops N m ix gJ bf z pre=true):∀l∈xC m,(∀q∈pre,l.getD q false=true)→yO ops m (iz N ix z) gJ (qj m) bf l=true:=by
 intro l hl iS
 have hlen:=Mq hl
 unfold yO
 cases bi:nU bf l with
 |false=>rfl
 |true =>
 unfold LG at h
 simp only[Bool.and_eq_true] at h
 obtain⟨hN,hA,hR⟩:=h
 have hN:=Nat.eq_of_beq_eq_true hN
 rw[Bool.not_true,Bool.false_or]
 cases hex:qj m l with
 |true=>rfl
 |false =>
 rw[Bool.false_or]
 simp only[Bool.and_eq_true]
 refine⟨?_,?_⟩
 ·obtain⟨i,hi,Pp,ZS⟩:=Oh (l:=l) m
  have ir:i<m:=by
   rcases Nat.lt_or_eq_of_le hi with h|rfl
   ·exact h
   ·have:qj i l=true:=List.all_eq_true.2 λd hd=>Pp d (List.mem_range.1 hd)
    rw[this] at hex;cases hex
  have aV:∀{j},j∈Region.ready .any ops (iz N ix z l)→(!(Region.ready .any ops (iz N ix z l)).isEmpty)=true:=by
   intro j hj
   cases e:Region.ready .any ops (iz N ix z l) with
   |nil=>rw[e] at hj;cases hj
   |cons a b=>rfl
  have h:=List.all_eq_true.1 hR i (List.mem_range.2 ir)
  simp only[Bool.and_eq_true] at h
  obtain⟨h2,h3,h4⟩:=h
  refine aV (j:=gJ i) (Rh.2 ⟨?_,by rw[hN];exact zQ h3,ab5 h4 Pp⟩)
  rw[Dt true (zQ h3),show ix (gJ i)=some i by simpa using h2]
  exact ZS ir
 ·rw[List.all_eq_true]
  intro j hj
  obtain⟨h0,Bp,Ps⟩:=Rh.1 hj
  rw[hN] at Bp
  rw[Dt true Bp] at h0
  have fL:=List.all_eq_true.1 hA j (List.mem_range.2 Bp)
  cases e:ix j with
  |none =>
   rw[e] at fL h0
   simp only at h0
   rw[h0,Bool.false_or] at fL
   have h8:=SZ bi fL Ps
   have h9:qj m l=true:=by
    refine List.all_eq_true.2 λq hq=>?_
    cases hp:pre.contains q with
    |true=>exact iS q (List.contains_iff_mem.1 hp)
    |false=>exact List.all_eq_true.1 h8 q (List.mem_filter.2 ⟨hq,by rw[hp];rfl⟩)
   rw[h9] at hex
   cases hex
  |some i =>
   rw[e] at fL h0
   simp only[Bool.and_eq_true] at fL h0
   obtain⟨h1,h2,h3⟩:=fL
   have h1:=zQ h1
   rw[List.any_eq_true]
   refine⟨i,List.mem_range.2 h1,?_⟩
   rw[Uq (i:=i) (by omega) e (λk hk Jo=>by
    have:=List.all_eq_true.1 hA k (List.mem_range.2 hk)
    rw[Jo] at this
    simp only[Bool.and_eq_true] at this
    exact(Nat.eq_of_beq_eq_true this.2.1).symm.trans (Nat.eq_of_beq_eq_true h2)),SZ bi h3 Ps]
   have:l.getD i true=false:=by
    have mg:i<l.length:=by omega
    rw[List.getD,List.getElem?_eq_getElem mg] at h0 ⊢
    simpa using h0
   rw[this,Nat.eq_of_beq_eq_true h2]
   simp
theorem Cd {ops:Array Oper}{N m:Nat}{ix:Nat→Option Nat}{gJ:Nat→Nat}{bf:Nat→List Nat}{z:Nat→Bool}(h:xm ops N m ix gJ bf z=true):∀l∈xC m,yO ops m (iz N ix z) gJ (qj m) bf l=true:=λl hl=>aaI (pre:=[]) (by
 have e:(List.range m).filter (λq=>!([]:List Nat).contains q)=List.range m:=by simp
 unfold xm at h
 unfold LG
 rw[e]
 exact h) l hl (λq hq=>by cases hq)
end Go.X
namespace Go.X.W
open Go Go.Proofs Go.X
theorem sI {m:Nat}{l:List Bool}(hl:l.length=m)(he:qj m l=true):l=List.replicate m true:=by
 refine List.eq_replicate_iff.2 ⟨hl,λb hb=>?_⟩
 obtain⟨i,hi,rfl⟩:=List.mem_iff_getElem.1 hb
 have h:=List.all_eq_true.1 he i (List.mem_range.2 (by omega))
 rwa [List.getD,List.getElem?_eq_getElem hi] at h
theorem dh {l:List Bool}{i j:Nat}(hi:i≠j):(l.set i true).getD j false=l.getD j false:=by
 simp[List.getD,List.getElem?_set,hi]
theorem v_ {l:List Bool}{i:Nat}(hl:i<l.length):(l.set i true).getD i false=true:=by
 simp[List.getD,List.getElem?_set,hl]
theorem v9 {l:List Bool}{i:Nat}(hl:i<l.length)(h:l.getD i true=false):l.getD i false=false:=by
 rw[List.getD,List.getElem?_eq_getElem hl] at h ⊢
 exact h
theorem re {bf:Nat→List Nat}{l:List Bool}(bi:nU bf l=true){i j:Nat}(hi:l.getD i false=true)(hj:j∈bf i):l.getD j false=true:=by
 have hl:i<l.length:=by
  rcases Nat.lt_or_ge i l.length with h|h
  ·exact h
  ·rw[List.getD,List.getElem?_eq_none h] at hi;cases hi
 have h:=List.all_eq_true.1 bi i (List.mem_range.2 hl)
 rw[hi,Bool.not_true,Bool.false_or,List.all_eq_true] at h
 exact h j hj
def rU (n:Nat):Code→Option (Array Oper)
 |.region id ops _=>match Nat.beq id n with
  |true=>some ops
  |false=>none
 |.seq a b=>match rU n a with
  |some x=>some x
  |none=>rU n b
 |.cond _ a b=>match rU n a with
  |some x=>some x
  |none=>rU n b
 |.block _ a=>rU n a
 |.loop a=>rU n a
 |.scope a=>rU n a
 |.rangeFunc _ _ a b=>match rU n a with
  |some x=>some x
  |none=>rU n b
 |_=>none
def tB (n:Nat)(c:Code):Array Oper:=match rU n c with
 |some a=>a
 |none=>#[]
end Go.X.W
namespace Go.X.Lt
open Go Go.Proofs Go.X
open Go.X.Gr (aB az au bQ dj ca da hasB cD dW eA aE bZ iC bc bR code fq)
open Go.X.W (tB v_ v9 sI re)
noncomputable abbrev Dk (G:cp):Cx:=⟨P,T,aC [],G,none,Tryz.f12.ntmps⟩
theorem FY (G:cp):(Dk G).Ok:=ah.ok _ _ _
noncomputable def o3:Array Oper:=tB 3 (code Tryz.f12)
def Qx (j:Nat):Option Nat:=if j<10 then some j else none
def z3:Nat→Bool:=λ_=>false
def iy:Nat→List Nat
 |1=>[0]
 |2=>[1]
 |3=>[2]
 |8=>[5,6,7]
 |9=>[3,6,8]
 |_=>[]
theorem T7:∀i,∀j∈iy i,j<i:=by
 intro i j hj
 unfold iy at hj
 split at hj<;>simp at hj<;>omega
theorem aaG:xm o3 11 10 Qx (λi=>i) iy z3=true:=by kernel_rfl
noncomputable def Ul:List Bool→Array Bool:=iz 11 Qx z3
def pR (x:Lo):Nat→List (Nat × FE)
 |0=>[(14,⟨[],.sp 4 2⟩)]
 |1=>[(15,⟨[],.sl 1⟩)]
 |2=>[(16,⟨[],.si .i64 (x.nB:Int)⟩)]
 |3=>[(17,⟨[],.sl 11⟩)]
 |4=>[(18,⟨[],.sm 12⟩)]
 |5=>[(6,⟨[],.sp 13 0⟩)]
 |6=>[(7,⟨[],.sp 14 0⟩)]
 |7=>[(8,⟨[],.sp 15 0⟩)]
 |_=>[]
def b3:List (Nat × FE):=[(1,⟨[],.sp 4 0⟩),(4,⟨[],.sp 5 0⟩),(5,⟨[],.sp 10 0⟩)]
def nC:List fE:=[(1000000,[.si .i64 35,.sp 5 0])]
def rQ (b:Bool)(p:Nat × HB):List (Nat × HB):=match b with
 |true=>[p]
 |false=>[]
def Gu (x:Lo):List (Nat × HB):=[(0,.ro 2 x.nL λi=>az (x.li i)),(1,.ro 10 x.nB λi=>dG (x.bl i)),(2,.ro 1 x.nP λi=>iC (x.bE i)),(3,.ro 2 x.nO λi=>az (x.od i)),(4,.cells 27 (e_ 0 1 2 3 x)),(5,.cells 47 [.si .i64 0]),(6,.mp []),(7,.mp []),(8,.vec 3 1 x.nB λi=>iC ((gf x i:Nat):Int)),(9,.cells 113 [.sl 0,.si .i64 x.st,.sl 1,.sl 2,.si .i64 x.g7,.sl 3,.sm 6,.sm 7,.sl 8]),(10,.cells 96 [.sp 9 0])]
def m8:Bool→Int
 |true=>-1
 |false=>0
def l9:Bool→SV
 |true=>.sl 11
 |false=>.sv (.slice none 0 0)
def h3 (x:Lo)(b3 b4 b5 b6 b7 b8 b9:Bool):List (Nat × HB):=Gu x++(rQ b3 (11,.vec 3 1 x.nB λ_=>iC 0)++(rQ b4 (12,.mp [])++(rQ b5 (13,.cells 3 [.si .i64 (m8 b8)])++(rQ b6 (14,.cells 24 [l9 b9])++rQ b7 (15,.cells 99 [.sv (.map none)])))))
def lu (x:Lo)(l:List Bool):List (Nat × HB):=h3 x (l.getD 3 false) (l.getD 4 false) (l.getD 5 false) (l.getD 6 false) (l.getD 7 false) (l.getD 8 false) (l.getD 9 false)
section
variable {G:cp}{x:Lo}{K:Ex→St→Prop}
def tT (G:cp)(x:Lo)(j:Nat)(rX:List (Nat × FE))(H H':List (Nat × HB))(n':Nat):Prop:=∃o,o3[j]?=some o∧o.guard=none∧∀(tail:List (Nat × FE)) (Q:Exit→Act→World→Prop) (Kn:St→Prop),dm (Dk G) Q Kn (λ_ _=>False)→Kn ⟨rX++((iy j).flatMap (pR x)++(b3++tail)),[],H',n',nC⟩ →
 c7 (Dk G) [o] Q Kn (λ_ _=>False) 0 [o] ⟨(iy j).flatMap (pR x)++(b3++tail),[],H,16,nC⟩
theorem adf (j:Nat)(hj:j<3)(H:List (Nat × HB)):tT G x j (pR x j) (Gu x++H) (Gu x++H) 16:=by
 rcases(show j=0∨j=1∨j=2 by omega) with rfl|rfl|rfl<;>exact⟨_,rfl,rfl,λtail Q Kn hC hK=>hK⟩
theorem adg (hB:x.nB≤6)(H:List (Nat × HB)):tT G x 3 [(17,⟨[],.sl 16⟩)] H ((16,.vec 3 1 x.nB λ_=>iC 0)::H) 17 :=
 ⟨_,rfl,rfl,λtail Q Kn hC hK=>oY x.nB (FY G) hC rfl rfl rfl rfl rfl rfl rfl rfl rfl rfl (by decide) (by omega) rfl rfl hK⟩
theorem adh (H:List (Nat × HB)):tT G x 4 [(18,⟨[],.sm 16⟩)] H ((16,.mp [])::H) 17 :=
 ⟨_,rfl,rfl,λtail Q Kn hC hK=>sL (FY G) hC rfl rfl rfl rfl rfl hK⟩
theorem adi (H:List (Nat × HB)):tT G x 5 [(6,⟨[],.sp 16 0⟩)] H ((16,.cells 3 [.si .i64 0])::H) 17:=⟨_,rfl,rfl,λtail Q Kn hC hK=>hK⟩
theorem adj (H:List (Nat × HB)):tT G x 6 [(7,⟨[],.sp 16 0⟩)] H ((16,.cells 24 [.sv (.slice none 0 0)])::H) 17:=⟨_,rfl,rfl,λtail Q Kn hC hK=>hK⟩
theorem adk (H:List (Nat × HB)):tT G x 7 [(8,⟨[],.sp 16 0⟩)] H ((16,.cells 99 [.sv (.map none)])::H) 17:=⟨_,rfl,rfl,λtail Q Kn hC hK=>hK⟩
theorem adl (b3 b4 b9:Bool):tT G x 8 [] (h3 x b3 b4 true true true false b9) ((13,.cells 3 [.si .i64 (-1)])::h3 x b3 b4 true true true false b9) 16:=by
 cases b3<;>cases b4<;>exact⟨_,rfl,rfl,λtail Q Kn hC hK=>hK⟩
theorem adm (b4:Bool):tT G x 9 [] (h3 x true b4 true true true true false) ((14,.cells 24 [.sl 11])::h3 x true b4 true true true true false) 16:=by
 cases b4<;>exact⟨_,rfl,rfl,λtail Q Kn hC hK=>hK⟩
theorem wR (s:Nat→Nat)(hs:4=s 4∧5=s 5∧10=s 10):m9 s 16 b3:=⟨⟨⟨hs.1,rfl⟩,rfl⟩,⟨⟨hs.2.1,rfl⟩,rfl⟩,⟨⟨hs.2.2,rfl⟩,rfl⟩,trivial⟩
theorem aek (b4 b5 b6 b7 b8:Bool):oJ 4 (λj=>match j with|11=>16|j=>j) 16 [(17,⟨[],.sl 16⟩)] (pR x 3) ((16,.vec 3 1 x.nB λ_=>iC 0)::h3 x false b4 b5 b6 b7 b8 false) (h3 x true b4 b5 b6 b7 b8 false) nC:=by
 cases b4<;>cases b5<;>cases b6<;>cases b7<;>cases b8<;>exact⟨AU,rfl,AU,rfl,rfl,rfl,AU⟩
theorem ael (b3 b5 b6 b7 b8 b9:Bool):oJ 4 (λj=>match j with|12=>16|j=>j) 16 [(18,⟨[],.sm 16⟩)] (pR x 4) ((16,.mp [])::h3 x b3 false b5 b6 b7 b8 b9) (h3 x b3 true b5 b6 b7 b8 b9) nC:=by
 cases b3<;>cases b5<;>cases b6<;>cases b7<;>cases b8<;>cases b9<;>exact⟨AU,rfl,AU,rfl,rfl,rfl,AU⟩
theorem aem (b3 b4 b6 b7:Bool):oJ 4 (λj=>match j with|13=>16|j=>j) 16 [(6,⟨[],.sp 16 0⟩)] (pR x 5) ((16,.cells 3 [.si .i64 0])::h3 x b3 b4 false b6 b7 false false) (h3 x b3 b4 true b6 b7 false false) nC:=by
 cases b3<;>cases b4<;>cases b6<;>cases b7<;>exact⟨AU,rfl,AU,rfl,rfl,rfl,AU⟩
theorem aen (b3 b4 b5 b7:Bool):oJ 4 (λj=>match j with|14=>16|j=>j) 16 [(7,⟨[],.sp 16 0⟩)] (pR x 6) ((16,.cells 24 [.sv (.slice none 0 0)])::h3 x b3 b4 b5 false b7 false false) (h3 x b3 b4 b5 true b7 false false) nC:=by
 cases b3<;>cases b4<;>cases b5<;>cases b7<;>exact⟨AU,rfl,AU,rfl,rfl,rfl,AU⟩
theorem aeo (b3 b4 b5 b6:Bool):oJ 4 (λj=>match j with|15=>16|j=>j) 16 [(8,⟨[],.sp 16 0⟩)] (pR x 7) ((16,.cells 99 [.sv (.map none)])::h3 x b3 b4 b5 b6 false false false) (h3 x b3 b4 b5 b6 true false false) nC:=by
 cases b3<;>cases b4<;>cases b5<;>cases b6<;>exact⟨AU,rfl,AU,rfl,rfl,rfl,AU⟩
theorem aep (b3 b4 b9:Bool):oJ 4 (λj=>j) 16 [] (pR x 8) ((13,.cells 3 [.si .i64 (-1)])::h3 x b3 b4 true true true false b9) (h3 x b3 b4 true true true true b9) nC:=by
 cases b3<;>cases b4<;>cases b9<;>exact⟨AU,rfl,AU,rfl,rfl,rfl,AU⟩
theorem aeq (b4:Bool):oJ 4 (λj=>j) 16 [] (pR x 9) ((14,.cells 24 [.sl 11])::h3 x true b4 true true true true false) (h3 x true b4 true true true true true) nC:=by
 cases b4<;>exact⟨AU,rfl,AU,rfl,rfl,rfl,AU⟩
theorem wV (s:Nat→Nat)(hs:4=s 4∧1=s 1)(i:Nat)(h3:i=3∨11=s 11)(h4:i=4∨12=s 12)(h5:i=5∨13=s 13)(h6:i=6∨14=s 14)(h7:i=7∨15=s 15):∀j,j<10→j≠i→m9 s 16 (pR x j):=by
 intro j hj aV
 rcases(show j=0∨j=1∨j=2∨j=3∨j=4∨j=5∨j=6∨j=7∨j=8∨j=9 by omega) with rfl|rfl|rfl|rfl|rfl|rfl|rfl|rfl|rfl|rfl
 ·exact⟨⟨⟨hs.1,rfl⟩,rfl⟩,trivial⟩
 ·exact⟨⟨hs.2,rfl⟩,trivial⟩
 ·exact⟨⟨⟨rfl,rfl⟩,rfl⟩,trivial⟩
 ·exact⟨⟨h3.resolve_left (Ne.symm aV),rfl⟩,trivial⟩
 ·exact⟨⟨h4.resolve_left (Ne.symm aV),rfl⟩,trivial⟩
 ·exact⟨⟨⟨h5.resolve_left (Ne.symm aV),rfl⟩,rfl⟩,trivial⟩
 ·exact⟨⟨⟨h6.resolve_left (Ne.symm aV),rfl⟩,rfl⟩,trivial⟩
 ·exact⟨⟨⟨h7.resolve_left (Ne.symm aV),rfl⟩,rfl⟩,trivial⟩
 ·trivial
 ·trivial
theorem uX {l:List Bool}(bi:nU iy l=true){a b:Nat}(hb:b∈iy a)(h:l.getD b false=false):l.getD a false=false:=by
 cases h7:l.getD a false with
 |false=>rfl
 |true=>have:=re (bf:=iy) bi h7 hb;rw[this] at h;cases h
def XY (x:Lo):List (Nat × HB):=Gu x++[(11,.vec 3 1 x.nB λ_=>iC 0),(12,.mp []),(13,.cells 3 [.si .i64 (-1)]),(14,.cells 24 [.sl 11]),(15,.cells 99 [.sm 12])]
theorem ab8 (hG:∀j,4≤j→G.ρ j=none)(hB:x.nB≤6)(hK:K .normal ⟨[(6,⟨[],.sp 13 0⟩),(7,⟨[],.sp 14 0⟩),(8,⟨[],.sp 15 0⟩),(1,⟨[],.sp 4 0⟩),(4,⟨[],.sp 5 0⟩),(5,⟨[],.sp 10 0⟩)],[],XY x,16,nC⟩):ie (Dk G) o3 11 (Array.replicate 11 false) ⟨b3,[],h3 x false false false false false false false,16,nC⟩ K:=by
 refine zK (D:=nC) (FY G) 10 Ul (λi=>i) (qj 10) (pR x) b3 (lu x) (λ_=>16) iy 1 4 hG (λa ha j hj=>by have:=T7 a j hj;omega) (Cd aaG) AU ?_ ?_ (List.replicate 10 false) rfl (by decide)
 ·intro j hj l iF hf ha bi
  have nn:∀k,j≠k→(l.set j true).getD k false=l.getD k false:=λk hk=>Go.X.W.dh hk
  have e:=v_ (l:=l) (i:=j) (by omega)
  have fj:=v9 (l:=l) (i:=j) (by omega) hf
  have qz:j<3→lu x (l.set j true)=lu x l:=λh=>by
   unfold lu
   rw[nn 3 (by omega),nn 4 (by omega),nn 5 (by omega),nn 6 (by omega),nn 7 (by omega),nn 8 (by omega),nn 9 (by omega)]
  rcases(show j<3∨j=3∨j=4∨j=5∨j=6∨j=7∨j=8∨j=9 by omega) with h|rfl|rfl|rfl|rfl|rfl|rfl|rfl
  ·rw[qz h]
   obtain⟨o,q1,q2,q3⟩:=adf (G:=G) (x:=x) j h (rQ (l.getD 3 false) (11,.vec 3 1 x.nB λ_=>iC 0)++(rQ (l.getD 4 false) (12,.mp [])++(rQ (l.getD 5 false) (13,.cells 3 [.si .i64 (m8 (l.getD 8 false))])++(rQ (l.getD 6 false) (14,.cells 24 [l9 (l.getD 9 false)])++rQ (l.getD 7 false) (15,.cells 99 [.sv (.map none)])))))
   exact⟨o,q1,q2,.inl q3⟩
  ·have f9:=uX bi (show 3∈iy 9 by decide) fj
   obtain⟨o,q1,q2,q3⟩:=adg (G:=G) (x:=x) hB (lu x l)
   refine⟨o,q1,q2,.inr ⟨λj=>match j with|11=>16|j=>j,_,_,17,?_,wR _ ⟨rfl,rfl,rfl⟩,wV _ ⟨rfl,rfl⟩ 3 (.inl rfl) (.inr rfl) (.inr rfl) (.inr rfl) (.inr rfl),q3⟩⟩
   unfold lu
   rw[e,fj,f9,nn 4 (by decide),nn 5 (by decide),nn 6 (by decide),nn 7 (by decide),nn 8 (by decide),nn 9 (by decide),f9]
   exact aek _ _ _ _ _
  ·obtain⟨o,q1,q2,q3⟩:=adh (G:=G) (x:=x) (lu x l)
   refine⟨o,q1,q2,.inr ⟨λj=>match j with|12=>16|j=>j,_,_,17,?_,wR _ ⟨rfl,rfl,rfl⟩,wV _ ⟨rfl,rfl⟩ 4 (.inr rfl) (.inl rfl) (.inr rfl) (.inr rfl) (.inr rfl),q3⟩⟩
   unfold lu
   rw[e,fj,nn 3 (by decide),nn 5 (by decide),nn 6 (by decide),nn 7 (by decide),nn 8 (by decide),nn 9 (by decide)]
   exact ael _ _ _ _ _ _
  ·have f8:=uX bi (show 5∈iy 8 by decide) fj
   have f9:=uX bi (show 8∈iy 9 by decide) f8
   obtain⟨o,q1,q2,q3⟩:=adi (G:=G) (x:=x) (lu x l)
   refine⟨o,q1,q2,.inr ⟨λj=>match j with|13=>16|j=>j,_,_,17,?_,wR _ ⟨rfl,rfl,rfl⟩,wV _ ⟨rfl,rfl⟩ 5 (.inr rfl) (.inr rfl) (.inl rfl) (.inr rfl) (.inr rfl),q3⟩⟩
   unfold lu
   rw[e,fj,nn 3 (by decide),nn 4 (by decide),nn 6 (by decide),nn 7 (by decide),nn 8 (by decide),nn 9 (by decide),f8,f9]
   exact aem _ _ _ _
  ·have f8:=uX bi (show 6∈iy 8 by decide) fj
   have f9:=uX bi (show 8∈iy 9 by decide) f8
   obtain⟨o,q1,q2,q3⟩:=adj (G:=G) (x:=x) (lu x l)
   refine⟨o,q1,q2,.inr ⟨λj=>match j with|14=>16|j=>j,_,_,17,?_,wR _ ⟨rfl,rfl,rfl⟩,wV _ ⟨rfl,rfl⟩ 6 (.inr rfl) (.inr rfl) (.inr rfl) (.inl rfl) (.inr rfl),q3⟩⟩
   unfold lu
   rw[e,fj,nn 3 (by decide),nn 4 (by decide),nn 5 (by decide),nn 7 (by decide),nn 8 (by decide),nn 9 (by decide),f8,f9]
   exact aen _ _ _ _
  ·have f8:=uX bi (show 7∈iy 8 by decide) fj
   have f9:=uX bi (show 8∈iy 9 by decide) f8
   obtain⟨o,q1,q2,q3⟩:=adk (G:=G) (x:=x) (lu x l)
   refine⟨o,q1,q2,.inr ⟨λj=>match j with|15=>16|j=>j,_,_,17,?_,wR _ ⟨rfl,rfl,rfl⟩,wV _ ⟨rfl,rfl⟩ 7 (.inr rfl) (.inr rfl) (.inr rfl) (.inr rfl) (.inl rfl),q3⟩⟩
   unfold lu
   rw[e,fj,nn 3 (by decide),nn 4 (by decide),nn 5 (by decide),nn 6 (by decide),nn 8 (by decide),nn 9 (by decide),f8,f9]
   exact aeo _ _ _ _
  ·have f9:=uX bi (show 8∈iy 9 by decide) fj
   have t5:l.getD 5 false=true:=ha 5 (by decide)
   have t6:l.getD 6 false=true:=ha 6 (by decide)
   have t7:l.getD 7 false=true:=ha 7 (by decide)
   obtain⟨o,q1,q2,q3⟩:=adl (G:=G) (x:=x) (l.getD 3 false) (l.getD 4 false) false
   unfold lu
   rw[e,fj,nn 3 (by decide),nn 4 (by decide),nn 5 (by decide),nn 6 (by decide),nn 7 (by decide),nn 9 (by decide),t5,t6,t7,f9]
   exact⟨o,q1,q2,.inr ⟨λj=>j,_,_,16,aep _ _ _,wR _ ⟨rfl,rfl,rfl⟩,wV _ ⟨rfl,rfl⟩ 8 (.inr rfl) (.inr rfl) (.inr rfl) (.inr rfl) (.inr rfl),q3⟩⟩
  ·have t3:l.getD 3 false=true:=ha 3 (by decide)
   have t8:l.getD 8 false=true:=ha 8 (by decide)
   have t5:=re (bf:=iy) bi t8 (show 5∈iy 8 by decide)
   have t6:=re (bf:=iy) bi t8 (show 6∈iy 8 by decide)
   have t7:=re (bf:=iy) bi t8 (show 7∈iy 8 by decide)
   obtain⟨o,q1,q2,q3⟩:=adm (G:=G) (x:=x) (l.getD 4 false)
   unfold lu
   rw[e,fj,nn 3 (by decide),nn 4 (by decide),nn 5 (by decide),nn 6 (by decide),nn 7 (by decide),nn 8 (by decide),t3,t5,t6,t7,t8]
   exact⟨o,q1,q2,.inr ⟨λj=>j,_,_,16,aeq _,wR _ ⟨rfl,rfl,rfl⟩,wV _ ⟨rfl,rfl⟩ 9 (.inr rfl) (.inr rfl) (.inr rfl) (.inr rfl) (.inr rfl),q3⟩⟩
 ·intro l hl he
  obtain rfl:=sI hl he
  refine aJ [10] (FY G) (by kernel_rfl) (by decide) ⟨?_,trivial⟩
  exact ij 4 (λj=>j) hG ⟨AU,AU,rfl,rfl,rfl,rfl,AU⟩ (j6 (by kernel_rfl) hK)
end
end Go.X.Lt
namespace Go.X
open Go
theorem Vo {P:Program}{n:Nat}{l:List SV}{H:List (Nat × HB)}{nx:Nat}{Rv:SV→List (Nat × HB)→Nat→Prop}{Rp:List PanicEntry→List (Nat × HB)→Nat→Prop}(iA Tc Te size:Nat)(get:Nat→List SV)(cs cs':List SV)
  (hc:ab H iA=some (.cells Tc cs)) (hu:o8 nx (.slice none 0 0) cs'=cs) (h:bG P n l ((iA,.cells Tc cs')::(nx,.vec Te size 0 get)::H) (nx+1) Rv Rp):bG P n l H nx Rv Rp:=by
 refine Ae (fun ρ w hm aU=>?_) h
 have hx:=aU nx (Nat.le_refl _)
 obtain⟨nc,c1,c2⟩:=hm.ok _ _ hc
 have sU:iA≠nx:=by rintro rfl;rw[hx] at c1;cases c1
 let X:Cx:=⟨P,λ_=>none,λ_=>none,⟨w,Own ρ (ab H),ρ,Fz (ab H)⟩,none,0⟩
 have cL:Mod X ρ ⟨[],[],H,nx,[]⟩ { tmps:=#[],defers:=[] } w:={
  fm:=λt e hf=>by cases hf
  gs:=λt e hf=>by cases hf
  df:=trivial
  hm:=hm
  kp:={ str:=dF.refl _,size:=Nat.le_refl _,same:=λ_ _ _=>rfl,own:=λb h=>.inl h,ext:=Ext.refl ρ,fz:=λb h=>.inr (.inr h) }
  nx:=aU
  sz:=rfl }
 have cI:=cL.FO Te size get
 have hd:den (aq ρ nx (.sl none 0 0 size)) (.sl nx)=some (.slice none 0 0):=by simp[den,cj]
 have pq:ab ((nx,.vec Te size 0 get)::H) iA=some (.cells Tc cs):=by
  rw[ba,aR _ _ (Ne.symm sU)];exact hc
 have ap:ao (aq ρ nx (.sl none 0 0 size)) w (.cells Tc cs') nc:=by
  have h6:=kK (Ext.aq (.sl none 0 0 size) hx) c2
  cases nc<;>simp only[ao] at h6 ⊢
  obtain⟨vs,d1,d2,d3⟩:=h6
  exact⟨vs,by rw[←rh rfl hd,hu];exact d1,d2,d3⟩
 have lz:=cI.swap (hb':=.cells Tc cs') pq rfl (nm:=nc) (by rw[bF _ _ sU];exact c1) ap (λ_ _ _ h=>by cases h)
 refine⟨_,Ext.aq _ hx,lz.hm,lz.nx,λaM hd=>fT (Ext.aq _ hx) _ _ hd,?_,?_⟩
 ·rintro b ⟨j,x,ak,k1,k2,k3,k4⟩
  rw[ba] at k1
  by_cases e1:iA=j
  ·subst e1
   rw[cP] at k1;cases k1
   rw[bF _ _ sU] at k3
   exact⟨iA,_,ak,hc,rfl,k3,k4⟩
  ·rw[aR _ _ e1,ba] at k1
   by_cases e2:nx=j
   ·subst e2
    rw[cj] at k3;cases k3
    cases k4
   ·rw[aR _ _ e2] at k1
    rw[bF _ _ (Ne.symm e2)] at k3
    exact⟨j,x,ak,k1,k2,k3,k4⟩
 ·rintro b ⟨i,s2,C',v,m',get',q1,q2,q3,q4⟩
  rw[ba] at q1
  by_cases e1:iA=i
  ·subst e1
   rw[cP] at q1;cases q1
  ·rw[aR _ _ e1,ba] at q1
   by_cases e2:nx=i
   ·subst e2
    rw[cP] at q1;cases q1
   ·rw[aR _ _ e2] at q1
    exact⟨i,s2,C',v,m',get',q1,q2,q3,q4⟩
end Go.X
namespace Go.X.Lt
open Go Go.Proofs Go.X
open Go.X.Gr (aB az au bQ dj ca da hasB cD dW eA aE bZ iC bc bR code fq)
def jr (x:Lo):Ds:=fJ x x.nB 0 0 (λ_=>0) ⟨-1,0,λ_=>0,λ_=>0⟩
def xR:Ct:=λfr args H=>match args with
 |[.agg l]=>mq H l λx C=>some ⟨some (C∧dp x),none,.bn [.si .i64 (jr x).gx,.sl fr,.si .i64 0],[(fr,.vec 3 1 (jr x).om λj=>iC ((jr x).o j))]⟩
 |_=>none
theorem U0:cY xR:=by
 intro fr args H H' out hH h
 unfold xR at h ⊢
 split at h
 ·exact uS hH h
 ·cases h
theorem k12:aP P 12 xR:=by
 have g:=ah
 refine sD (C:=aC _) g.ok T6 Tryz.func12 (c:=code Tryz.f12) rfl λfr args H out h hp=>?_
 unfold xR at h
 split at h
 case h_2=>cases h
 rename_i l
 obtain⟨i0,i1,i2,i3,x,C,rfl,hh,h⟩:=wX h
 cases h
 obtain⟨hC,hx⟩:C∧dp x:=hp
 refine⟨jU i0 i1 i2 i3 x,[.agg (e_ 0 1 2 3 x)],H4 x,4,[20],rfl,rfl,Nat.le_of_ble_eq_true rfl,hh hC,rfl,rfl,λG hG=>?_⟩
 clear hh hC
 have hB:=hx.nB
 refine sK 35 5 (g.ok _ _ _) rfl aj rfl rfl rfl rfl rfl rfl rfl ?_
 refine av (g.ok _ _ _) aj rfl rfl rfl rfl ⟨vv,?_⟩
 refine ug 3 (λi=>j_ (0,0,0)) (fun ρ h=>FP h) ?_
 refine ug 1 (λi=>[]) (fun ρ h aM hv=>hv) ?_
 refine aO [.agg (e_ 0 1 2 3 x),.sl 4,mo false] (w9 false x 0 (λ_=>(0,0,0)) 0) 6 (λj=>match j with|4=>6|5=>7|j=>j) AU rfl AU rfl rfl ?_
 refine ze false hx (Nat.zero_le _) (λh=>by cases h) (λi hi=>absurd hi (Nat.not_lt_zero _)) ⟨rfl,AU,AU,?_⟩
 refine(show aX _ _ _ _ from ?_)
 refine lT bP ?_
 refine ij (af:=⟨b3,[],h3 x false false false false false false false,16,nC⟩) 4 (λj=>match j with|6=>8|7=>9|8=>10|9=>11|10=>12|j=>j) hG ⟨AU,AU,rfl,rfl,rfl,rfl,AU⟩ ?_
 refine ab8 hG hB ?_
 refine av (g.ok _ _ _) aj rfl rfl rfl rfl ⟨Dv,?_⟩
 refine Vo 16 24 3 1 (λj=>iC 0) _ [.sl 18] rfl rfl ?_
 refine aO (Al 0 0) (x_ 16 x [] [] ⟨-1,0,λ_=>0,λ_=>0⟩) 18 (λj=>match j with|4=>6|5=>7|6=>8|7=>9|8=>13|9=>14|10=>16|11=>17|12=>4|13=>15|14=>10|15=>11|16=>18|17=>12|j=>j) AU rfl AU rfl rfl ?_
 refine Sm hx x.nB 0 0 (λ_=>0) [] [] _ _ _ (by omega) (by omega) (Fq x) (λo=>rfl) (λo=>Nat.le_refl _) λa9 jt bW jg=>⟨rfl,AU,AU,?_⟩
 refine cU (g.ok _ _ _) bP [0,0,1,7,15] [(4,5)] 5 (by kernel_rfl) ?_
 exact⟨.inl rfl,⟨AU,rfl,⟨rfl,⟨rfl,rfl,rfl,λi hi=>⟨rfl,rfl⟩⟩,trivial⟩,AU,rfl,rfl⟩⟩
theorem OJ {l:List (Nat × Ct)}(g:Good P T l):Good P T ((12,xR)::l):=g.add k12 U0 (aw Tryz.func12 (c:=code Tryz.f12) rfl (by decide))
end Go.X.Lt
namespace Go.X.Wr
open Go Go.Proofs Go.X
def fx (w:Wd):Nat→Nat
 |0=>0
 |i+1=>if(w.ev i).kind=1 then fx w i ||| 2 ^ i else fx w i
theorem R6 (w:Wd):∀i,fx w i<2 ^ i
 |0=>by simp[fx]
 |i+1=>by
  have h:=R6 w i
  have h2:2 ^ i<2 ^ (i+1):=Nat.pow_lt_pow_right (by decide) (by omega)
  unfold fx
  split
  ·exact Nat.or_lt_two_pow (by omega) h2
  ·omega
theorem K2 {w:Wd}{i:Nat}(h:i≤8):fx w i<256:=Nat.lt_of_lt_of_le (R6 w i) (Nat.le_trans (Nat.pow_le_pow_right (by decide) h) (by decide))
theorem qa:Body P 34:=aw Tryz.func34 (c:=code Tryz.f34) rfl (by decide)
theorem ML:Body P 72:=aw Tryz.func72 (c:=code Tryz.f72) rfl (by decide)
theorem abU {i:Nat}(h:i<8):∃q:Nat,(1:Int)*2 ^ (i:Int).toNat=(q:Int)∧q≤128∧2 ^ i=q:=by
 refine⟨2 ^ i,?_,Nat.le_trans (Nat.pow_le_pow_right (by decide) (show i≤7 by omega)) (by decide),rfl⟩
 rw[Int.one_mul,Int.toNat_natCast,Int.natCast_pow];rfl
section
variable {w:Wd}{em:List (SV × SV)}{Rv:SV→List (Nat × HB)→Nat→Prop}{Rp:List PanicEntry→List (Nat × HB)→Nat→Prop}
theorem qN (hw:eb w=true)(aY:Rv (.si .u64 (fx w w.n:Int)) (bp w em) 4):bG P 34 [.sp 3 0] (bp w em) 4 Rv Rp:=by
 have g:=ah
 obtain⟨_,hu,hn,uz⟩:=lf hw
 refine eI (ι:=Unit) g.ok Tryz.func34 (c:=code Tryz.f34) rfl (Nat.le_of_ble_eq_true rfl) (λ_=>.si .u64 (fx w w.n:Int)) (λx=>bp w em) 4 (λG hG=>?_) (λ_=>aY)
 refine cm (g.ok _ _ _) 4 (λx:{i:Nat // i≤w.n}=>⟨[(2,⟨[],.si .u64 (fx w x.1:Int)⟩),(9,⟨[],.sl 1⟩),(10,⟨[],.si .i64 (w.n:Int)⟩),(11,⟨[],.si .i64 (x.1:Int)⟩)],[],bp w em,4,[]⟩) (λx=>w.n-x.1) hG ⟨0,Nat.zero_le _⟩ (λj=>j) ?_ ?_
 ·refine⟨?_,?_,rfl,rfl,rfl,rfl,trivial⟩<;>exact Q4
 rintro⟨i,hi⟩
 have hi:i≤w.n:=hi
 refine Br.mk (λh=>?_) (λh=>?_)
 ·have h:(i:Int)<(w.n:Int):=of_decide_eq_true h
  refine aa.mk (show(0:Int)≤(i:Int)∧(i:Int)<(w.n:Int) from⟨by omega,h⟩) ?_
  have aG:=K2 (w:=w) (i:=i) (by omega)
  obtain⟨q,py,gV,JG⟩:=abU (i:=i) (by omega)
  refine Br.mk (λh2=>?_) (λh2=>?_)
  ·have h2:(w.ev i).kind=1:=of_decide_eq_true h2
   refine aa.mk ⟨by omega,by show(i:Int).toNat≤64;omega,(show ae .u64 ((1:Int)*2 ^ (i:Int).toNat) from by rw[py];exact⟨by omega,by omega⟩)⟩ ?_
   refine aa.mk (show(0:Int)≤(fx w i:Int)∧(0:Int)≤(1:Int)*2 ^ (i:Int).toNat∧ae .u64 (fx w i:Int)∧ae .u64 ((1:Int)*2 ^ (i:Int).toNat) from by rw[py];exact⟨by omega,by omega,⟨by omega,by omega⟩,by omega,by omega⟩) ?_
   have er:((((fx w i:Nat):Int).toNat ||| ((1:Int)*2 ^ (i:Int).toNat).toNat:Nat):Int)=(fx w (i+1):Int):=by rw[py,Int.toNat_natCast,Int.toNat_natCast,fx,if_pos h2,JG]
   refine aa.mk (show ae .i64 ((i:Int)+1) from⟨by omega,by omega⟩) ⟨⟨i+1,by omega⟩,(λj=>j),?_,by show w.n-(i+1)<w.n-i;omega⟩
   refine⟨?_,?_,rfl,rfl,rfl,rfl,trivial⟩<;>repeat' (first|exact trivial|exact rfl|exact er|exact List.Perm.refl _|(intro i hi;exact⟨rfl,rfl⟩)|(intro v m g h;exact h)|refine And.intro ?_ ?_)
  ·have h2:¬(w.ev i).kind=1:=of_decide_eq_false h2
   have er:(fx w i:Int)=(fx w (i+1):Int):=by rw[fx,if_neg h2]
   refine aa.mk (show ae .i64 ((i:Int)+1) from⟨by omega,by omega⟩) ⟨⟨i+1,by omega⟩,(λj=>j),?_,by show w.n-(i+1)<w.n-i;omega⟩
   refine⟨?_,?_,rfl,rfl,rfl,rfl,trivial⟩<;>repeat' (first|exact trivial|exact rfl|exact er|exact List.Perm.refl _|(intro i hi;exact⟨rfl,rfl⟩)|(intro v m g h;exact h)|refine And.intro ?_ ?_)
 ·have h:¬(i:Int)<(w.n:Int):=of_decide_eq_false h
  obtain rfl:i=w.n:=by omega
  refine⟨(),(λj=>j),?_,?_,rfl,rfl,rfl,rfl⟩<;>exact Q4
def dP (q:Qn):SV:=.agg [.si .u64 (q.reads:Int),.si .i64 q.lo,.si .i64 q.hi]
def bj (w:Wd):Qn:=⟨fx w w.n,w.l1,w.l2⟩
theorem Sn (hw:eb w=true)(aY:Rv (dP (bj w)) (bp w em) 4):bG P 72 [.sp 3 0] (bp w em) 4 Rv Rp:=by
 have g:=ah
 refine eI (ι:=Unit) g.ok Tryz.func72 (c:=code Tryz.f72) rfl (Nat.le_of_ble_eq_true rfl) (λ_=>dP (bj w)) (λx=>bp w em) 4 (λG hG=>?_) (λ_=>aY)
 refine(show aX _ _ _ _ from ?_)
 refine lT bP ?_
 refine ef 0 (g.ok _ _ _) rfl rfl rfl rfl rfl rfl rfl (by kernel_rfl) (by kernel_rfl) (by kernel_rfl) ?_
 refine ef 2 (g.ok _ _ _) rfl rfl rfl rfl rfl rfl rfl (by kernel_rfl) (by kernel_rfl) (by kernel_rfl) ?_
 refine ef 3 (g.ok _ _ _) rfl rfl rfl rfl rfl rfl rfl (by kernel_rfl) (by kernel_rfl) (by kernel_rfl) ?_
 refine ef 4 (g.ok _ _ _) rfl rfl rfl rfl rfl rfl rfl (by kernel_rfl) (by kernel_rfl) (by kernel_rfl) ?_
 refine ef 5 (g.ok _ _ _) rfl rfl rfl rfl rfl rfl rfl (by kernel_rfl) (by kernel_rfl) (by kernel_rfl) ?_
 refine aJ [1,6] (g.ok _ _ _) (by kernel_rfl) (by decide) ⟨?_,?_,trivial⟩
 ·refine av (g.ok _ _ _) bm rfl rfl rfl rfl ⟨qa,?_⟩
  refine aO [.sp 3 0] (bp w em) 4 (λj=>j) Q2 rfl Q4 rfl rfl ?_
  refine qN hw ⟨rfl,Q1,Q0,?_⟩
  refine aJ [6] (g.ok _ _ _) (by kernel_rfl) (by decide) ⟨?_,trivial⟩
  refine ef 7 (g.ok _ _ _) rfl rfl rfl rfl rfl rfl rfl (by kernel_rfl) (by kernel_rfl) (by kernel_rfl) ?_
  refine ef 8 (g.ok _ _ _) rfl rfl rfl rfl rfl rfl rfl (by kernel_rfl) (by kernel_rfl) (by kernel_rfl) ?_
  refine aJ [9] (g.ok _ _ _) (by kernel_rfl) (by decide) ⟨?_,trivial⟩
  refine j6 (by kernel_rfl) ?_
  refine⟨(),(λj=>j),?_,?_,rfl,rfl,rfl,rfl⟩<;>exact Q4
 ·refine ef 7 (g.ok _ _ _) rfl rfl rfl rfl rfl rfl rfl (by kernel_rfl) (by kernel_rfl) (by kernel_rfl) ?_
  refine aJ [1] (g.ok _ _ _) (by kernel_rfl) (by decide) ⟨?_,trivial⟩
  refine av (g.ok _ _ _) bm rfl rfl rfl rfl ⟨qa,?_⟩
  refine aO [.sp 3 0] (bp w em) 4 (λj=>j) Q2 rfl Q4 rfl rfl ?_
  refine qN hw ⟨rfl,Q1,Q0,?_⟩
  refine ef 8 (g.ok _ _ _) rfl rfl rfl rfl rfl rfl rfl (by kernel_rfl) (by kernel_rfl) (by kernel_rfl) ?_
  refine aJ [9] (g.ok _ _ _) (by kernel_rfl) (by decide) ⟨?_,trivial⟩
  refine j6 (by kernel_rfl) ?_
  refine⟨(),(λj=>j),?_,?_,rfl,rfl,rfl,rfl⟩<;>exact Q4
end
def oX (w:Wd)(q:Qn)(i:Nat):Ef:=tz w (w.ev i) (q.reads.testBit i)
def gD (w:Wd)(q:Qn):Nat→Sp
 |0=>(q.lo,q.hi)
 |i+1=>nH (oX w q i) (gD w q i)
def mG (w:Wd)(q:Qn):Nat→Sp
 |0=>gD w q w.n
 |k+1=>gj (gD w q (w.n-(k+1))) (kN (oX w q (w.n-(k+1))) (mG w q k))
def aF (w:Wd)(q:Qn)(j:Nat):Sp:=if j≤w.n then mG w q (w.n-j) else(0,0)
def mF (w:Wd)(q:Qn)(i j:Nat):Sp:=if j≤i then gD w q j else(0,0)
def iN (w:Wd)(q:Qn)(m j:Nat):Sp:=if j≤w.n then(if w.n-j≤m then mG w q (w.n-j) else gD w q j) else(0,0)
theorem Uo (w:Wd)(q:Qn):iN w q 0=mF w q w.n:=by
 funext j
 unfold iN mF
 split
 ·split
  ·rw[show w.n-j=0 by omega,show j=w.n by omega];rfl
  ·rfl
 ·rfl
theorem Un (w:Wd)(q:Qn):iN w q w.n=aF w q:=by
 funext j
 unfold iN aF
 split
 ·rw[if_pos (by omega)]
 ·rfl
def kc (c:Int)(s:Sp):Prop:=(-1100000-c≤s.1∧s.1≤1100000+c)∧-1100000-c≤s.2∧s.2≤1100000+c
theorem kc.iu {c:Int}{s:Sp}(h:kc c s)(hc:c≤5000):iu s:=by
 unfold kc at h
 exact⟨⟨by omega,by omega⟩,by omega,by omega⟩
theorem kc.mono {c d:Int}{s:Sp}(h:kc c s)(hd:c≤d):kc d s:=by
 unfold kc at h ⊢;omega
theorem Hd {a b:Sp}{c:Int}(ha:kc c a)(hb:kc c b)(hc:0≤c):kc c (gj a b):=by
 unfold kc at *
 unfold gj uY
 split
 ·simp only;omega
 ·simp only;omega
def ri:Ef→Prop
 |.tk s=>(0≤s.1∧s.1≤60)∧0≤s.2∧s.2≤60
 |.rd s=>(-1000≤s.1∧s.1≤1000)∧-1000≤s.2∧s.2≤1000
 |.no=>True
theorem ri.ok {e:Ef}(h:ri e):vK e:=by
 cases e with
 |tk s=>exact⟨⟨by have:=h.1;omega,by have:=h.1;omega⟩,by have:=h.2;omega,by have:=h.2;omega⟩
 |rd s=>exact⟨⟨by have:=h.1;omega,by have:=h.1;omega⟩,by have:=h.2;omega,by have:=h.2;omega⟩
 |no=>trivial
theorem vJ {w:Wd}(hw:eb w=true)(q:Qn){i:Nat}(hi:i<w.n):ri (oX w q i):=by
 obtain⟨_,hu,hn,uz⟩:=lf hw
 have he:=H9 (uz i hi)
 unfold oX tz
 split
 ·rename_i h
  have m1:0≤(w.ev i).gM*w.u1∧(w.ev i).gM*w.u1≤60:=⟨Int.mul_nonneg (by omega) (by omega),Int.le_trans (Int.mul_le_mul (show(w.ev i).gM≤20 by omega) (show w.u1≤3 by omega) (by omega) (by decide)) (by decide:(20:Int)*3≤60)⟩
  have m2:0≤(w.ev i).gM*w.u2∧(w.ev i).gM*w.u2≤60:=⟨Int.mul_nonneg (by omega) (by omega),Int.le_trans (Int.mul_le_mul (show(w.ev i).gM≤20 by omega) (show w.u2≤3 by omega) (by omega) (by decide)) (by decide:(20:Int)*3≤60)⟩
  exact⟨m1,m2⟩
 ·split
  ·exact⟨⟨by omega,by show(w.ev i).lo≤60;omega⟩,by show 0≤(w.ev i).hi;omega,by show(w.ev i).hi≤60;omega⟩
  ·split
   ·exact⟨⟨by show -1000≤(w.ev i).lo;omega,by show(w.ev i).lo≤1000;omega⟩,by show -1000≤(w.ev i).hi;omega,by show(w.ev i).hi≤1000;omega⟩
   ·trivial
theorem TY {e:Ef}(he:ri e){k:Sp}{c:Int}(hc:0≤c)(hk:kc c k):kc (c+60) (nH e k):=by
 cases e with
 |tk s=>have h1:=he.1;have h2:=he.2;unfold kc at *;unfold nH yP;simp only;omega
 |rd s=>exact(Hd hk (by have h1:=he.1;have h2:=he.2;unfold kc;omega) hc).mono (by omega)
 |no=>exact hk.mono (by omega)
theorem MP {e:Ef}(he:ri e){k:Sp}{c:Int}(hc:0≤c)(hk:kc c k):kc (c+60) (kN e k):=by
 cases e with
 |tk s=>have h1:=he.1;have h2:=he.2;unfold kc at *;unfold kN Cn;simp only;omega
 |rd s=>exact(Hd hk (by have h1:=he.1;have h2:=he.2;unfold kc;omega) hc).mono (by omega)
 |no=>exact hk.mono (by omega)
theorem vZ {w:Wd}(hw:eb w=true){q:Qn}(hq:kc 0 (q.lo,q.hi)):∀i,i≤w.n→kc (60*(i:Int)) (gD w q i)
 |0,_=>hq
 |i+1,h=>by
  have h1:=TY (vJ hw q (i:=i) (by omega)) (by omega) (vZ hw hq i (by omega))
  exact h1.mono (by omega)
theorem MQ {w:Wd}(hw:eb w=true){q:Qn}(hq:kc 0 (q.lo,q.hi)):∀k,k≤w.n→kc (60*(w.n:Int)+60*(k:Int)) (mG w q k)
 |0,_=>(vZ hw hq w.n (Nat.le_refl _)).mono (by omega)
 |k+1,h=>by
  have h1:=MP (vJ hw q (i:=w.n-(k+1)) (by omega)) (by omega) (MQ hw hq k (by omega))
  exact Hd ((vZ hw hq (w.n-(k+1)) (by omega)).mono (by omega)) (h1.mono (by omega)) (by omega)
def uQ (lv:Nat→Sp):List SV:=(List.range 9).flatMap λi=>bg (lv i)
def dB (lv:Nat→Sp):SV:=.agg (uQ lv)
theorem HX:kJ dB:=λa=>⟨.agg #[.int .i64 (a 0).1,.int .i64 (a 0).2,.int .i64 (a 1).1,.int .i64 (a 1).2,.int .i64 (a 2).1,.int .i64 (a 2).2,.int .i64 (a 3).1,.int .i64 (a 3).2,.int .i64 (a 4).1,.int .i64 (a 4).2,.int .i64 (a 5).1,.int .i64 (a 5).2,.int .i64 (a 6).1,.int .i64 (a 6).2,.int .i64 (a 7).1,.int .i64 (a 7).2,.int .i64 (a 8).1,.int .i64 (a 8).2],rfl⟩
theorem K1:gB T 91 dP where
 ty:=⟨_,rfl⟩
 vC:=λa=>by kernel_rfl
 eq:=λa b=>by
  have h:l5 T 9 91 (dP a) (dP b)=some (decide ((a.reads:Int)=(b.reads:Int))&&((decide (a.lo=b.lo)&&(decide (a.hi=b.hi)&&true)&&true)&&true)):=by kernel_rfl
  rw[h]
  congr 1
  rw[Bool.eq_iff_iff]
  obtain⟨a1,a2,a3⟩:=a
  obtain⟨b1,b2,b3⟩:=b
  simp
  omega
 cl:=λa=>⟨.agg #[.int .u64 a.reads,.int .i64 a.lo,.int .i64 a.hi],rfl⟩
 same:=λa=>by
  have:cv (dP a)=.agg #[.int .u64 a.reads,.int .i64 a.lo,.int .i64 a.hi]:=rfl
  rw[this]
  simp[Instr.sameBits]
def dV (w:Wd)(es:List (Qn × (Nat→Sp))):Prop:=∀q lv,br es q=some lv→lv=aF w q
end Go.X.Wr
namespace Go.X.Wr
open Go Go.Proofs Go.X
open Go.X.W (tB v_ v9 sI re)
noncomputable abbrev sg (G:cp):Cx:=⟨P,T,aC [],G,none,Tryz.f33.ntmps⟩
theorem ox (G:cp):(sg G).Ok:=ah.ok _ _ _
noncomputable def o1:Array Oper:=tB 1 (code Tryz.f33)
def Qu (j:Nat):Option Nat:=if j<11 then some j else none
def z1:Nat→Bool:=λ_=>false
def nI:Nat→List Nat
 |1=>[0]
 |2=>[1]
 |3=>[2]
 |5=>[3,4]
 |6=>[5]
 |7=>[6]
 |8=>[6]
 |10=>[7,9]
 |_=>[]
theorem T5:∀i,∀j∈nI i,j<i:=by
 intro i j hj
 unfold nI at hj
 split at hj<;>simp at hj<;>omega
theorem aaD:xm o1 12 11 Qu (λi=>i) nI z1=true:=by kernel_rfl
noncomputable def Ui:List Bool→Array Bool:=iz 12 Qu z1
def zl:Nat→Sp:=λ_=>(0,0)
def CQ (q:Qn)(lv:Nat→Sp)(f:Bool):Nat→List (Nat × FE)
 |0=>[(14,⟨[],.sp 3 0⟩)]
 |1=>[(15,⟨[],.sp 3 0⟩)]
 |2=>[(16,⟨[],.sp 3 5⟩)]
 |3=>[(17,⟨[],.sm 2⟩)]
 |4=>[(18,⟨[],dP q⟩)]
 |5=>[(19,⟨[],.bn [dB lv,.sb f]⟩)]
 |6=>[(13,⟨[],.bn [dB lv,.sb f]⟩)]
 |7=>[(20,⟨[],dB lv⟩)]
 |8=>[(21,⟨[],.sb f⟩)]
 |9=>[(5,⟨[],.sp 6 0⟩)]
 |_=>[]
def b1:List (Nat × FE):=[(0,⟨[],.sp 3 0⟩),(3,⟨[],.sp 4 0⟩),(4,⟨[],.sp 5 0⟩)]
def bK (es:List (Qn × (Nat→Sp))):List (SV × SV):=dT dP dB es
def H1 (w:Wd)(q:Qn)(es:List (Qn × (Nat→Sp))):List (Nat × HB):=(5,.cells 85 (uQ zl))::(4,.cells 91 [.si .u64 (q.reads:Int),.si .i64 q.lo,.si .i64 q.hi])::bp w (bK es)
def rz (w:Wd)(q:Qn)(es:List (Qn × (Nat→Sp)))(lv:Nat→Sp):Bool→Bool→List (Nat × HB)
 |false,_=>H1 w q es
 |true,false=>(6,.cells 85 (uQ zl))::H1 w q es
 |true,true=>(6,.cells 85 (uQ lv))::H1 w q es
def Cr:Bool→Nat
 |false=>6
 |true=>7
section
variable {G:cp}{w:Wd}{q:Qn}{es:List (Qn × (Nat→Sp))}{lv:Nat→Sp}{f:Bool}{K:Ex→St→Prop}
theorem FQ {l:List Bool}(bi:nU nI l=true){a b:Nat}(hb:b∈nI a)(h:l.getD b false=false):l.getD a false=false:=by
 cases h7:l.getD a false with
 |false=>rfl
 |true=>have:=re (bf:=nI) bi h7 hb;rw[this] at h;cases h
def Dj (G:cp)(w:Wd)(q:Qn)(es:List (Qn × (Nat→Sp)))(lv:Nat→Sp)(f:Bool)(j:Nat)(H H':List (Nat × HB))(n n':Nat):Prop:=∃o,o1[j]?=some o∧o.guard=none∧∀(tail:List (Nat × FE)) (Q:Exit→Act→World→Prop) (Kn:St→Prop),dm (sg G) Q Kn (λ_ _=>False)→Kn ⟨CQ q lv f j++((nI j).flatMap (CQ q lv f)++(b1++tail)),[],H',n',[]⟩ →
 c7 (sg G) [o] Q Kn (λ_ _=>False) 0 [o] ⟨(nI j).flatMap (CQ q lv f)++(b1++tail),[],H,n,[]⟩
theorem adb (hl:(f=true∧br es q=some lv)∨(f=false∧br es q=none∧lv=zl))(b9:Bool):Dj G w q es lv f 5 (rz w q es lv b9 false) (rz w q es lv b9 false) (Cr b9) (Cr b9):=by
 refine⟨_,rfl,rfl,λtail Q Kn hC hK=>?_⟩
 rcases hl with⟨rfl,h⟩|⟨rfl,h,rfl⟩
 ·cases b9<;>exact mR dP dB es q 2 (ox G) hC rfl rfl rfl rfl rfl rfl rfl rfl rfl K1 HX rfl rfl rfl (λ_=>⟨λv hv=>(by rw[h] at hv;cases hv;exact hK),λhv=>(by rw[h] at hv;cases hv)⟩)
 ·cases b9<;>exact mR dP dB es q 2 (ox G) hC rfl rfl rfl rfl rfl rfl rfl rfl rfl K1 HX rfl rfl rfl (λ_=>⟨λv hv=>(by rw[h] at hv;cases hv),λhv=>hK⟩)
theorem ade:Dj G w q es lv f 9 (rz w q es lv false false) (rz w q es lv true false) 6 7:=⟨_,rfl,rfl,λtail Q Kn hC hK=>hK⟩
theorem ada:Dj G w q es lv f 10 (rz w q es lv true false) ((6,.cells 85 (uQ lv))::rz w q es lv true false) 7 7:=⟨_,rfl,rfl,λtail Q Kn hC hK=>hK⟩
theorem ac_ (j:Nat)(hj:j<11)(h:¬(j=5∨j=9∨j=10))(b9 zL:Bool):Dj G w q es lv f j (rz w q es lv b9 zL) (rz w q es lv b9 zL) (Cr b9) (Cr b9):=by
 rcases(show j=0∨j=1∨j=2∨j=3∨j=4∨j=6∨j=7∨j=8 by omega) with rfl|rfl|rfl|rfl|rfl|rfl|rfl|rfl
 all_goals
  refine⟨_,rfl,rfl,λtail Q Kn hC hK=>?_⟩
  cases b9<;>cases zL<;>exact hK
theorem QF:m9 (λj=>j) 7 b1∧∀j,j<11→m9 (λj=>j) 7 (CQ q lv f j):=by
 refine⟨?_,λj hj=>?_⟩
 ·exact Q2
 ·rcases(show j=0∨j=1∨j=2∨j=3∨j=4∨j=5∨j=6∨j=7∨j=8∨j=9∨j=10 by omega) with rfl|rfl|rfl|rfl|rfl|rfl|rfl|rfl|rfl|rfl|rfl<;>exact Q2
theorem R7 (hG:∀j,4≤j→G.ρ j=none)(hl:(f=true∧br es q=some lv)∨(f=false∧br es q=none∧lv=zl))
  (hK:K .normal ⟨(3,⟨[],.sp 4 0⟩)::(4,⟨[],.sp 5 0⟩)::(5,⟨[],.sp 6 0⟩)::(6,⟨[],.sb f⟩)::(0,⟨[],.sp 3 0⟩)::[],[],(6,.cells 85 (uQ lv))::H1 w q es,7,[]⟩) :
  ie (sg G) o1 12 (Array.replicate 12 false) ⟨b1,[],H1 w q es,6,[]⟩ K:=by
 refine zK (D:=[]) (ox G) 11 Ui (λi=>i) (qj 11) (CQ q lv f) b1 (λl=>rz w q es lv (l.getD 9 false) (l.getD 10 false)) (λl=>Cr (l.getD 9 false)) nI 1 4 hG (λa ha j hj=>by have:=T5 a j hj;omega) (Cd aaD) ?_ ?_ ?_ (List.replicate 11 false) rfl (by decide)
 ·repeat' (first|exact trivial|exact⟨rfl,rfl⟩|refine And.intro ?_ ?_)
 ·intro j hj l iF hf ha bi
  have n9:j≠9→(l.set j true).getD 9 false=l.getD 9 false:=Go.X.W.dh
  have KB:j≠10→(l.set j true).getD 10 false=l.getD 10 false:=Go.X.W.dh
  have e:=v_ (l:=l) (i:=j) (by omega)
  have fj:=v9 (l:=l) (i:=j) (by omega) hf
  by_cases h5:j=5
  ·subst h5
   have f6:=FQ bi (show 5∈nI 6 by decide) fj
   have f7:=FQ bi (show 6∈nI 7 by decide) f6
   have f10:=FQ bi (show 7∈nI 10 by decide) f7
   rw[n9 (by decide),KB (by decide),f10]
   obtain⟨o,q1,q2,q3⟩:=adb (G:=G) (w:=w) hl (l.getD 9 false)
   exact⟨o,q1,q2,.inl q3⟩
  by_cases h9:j=9
  ·subst h9
   have f10:=FQ bi (show 9∈nI 10 by decide) fj
   rw[e,fj,KB (by decide),f10]
   obtain⟨o,q1,q2,q3⟩:=ade (G:=G) (w:=w) (q:=q) (es:=es) (lv:=lv) (f:=f)
   exact⟨o,q1,q2,.inl q3⟩
  by_cases yq:j=10
  ·subst yq
   have f9:l.getD 9 false=true:=ha 9 (by decide)
   rw[e,fj,n9 (by decide),f9]
   obtain⟨o,q1,q2,q3⟩:=ada (G:=G) (w:=w) (q:=q) (es:=es) (lv:=lv) (f:=f)
   refine⟨o,q1,q2,.inr ⟨λj=>j,[],(6,.cells 85 (uQ lv))::rz w q es lv true false,7,?_,(QF (q:=q) (lv:=lv) (f:=f)).1,λk hk _=>QF.2 k hk,q3⟩⟩
   refine⟨trivial,rfl,?_,rfl,rfl,rfl,trivial⟩
   exact Q4
  rw[n9 h9,KB yq]
  obtain⟨o,q1,q2,q3⟩:=ac_ (G:=G) (w:=w) (q:=q) (es:=es) (lv:=lv) (f:=f) j hj (by omega) (l.getD 9 false) (l.getD 10 false)
  exact⟨o,q1,q2,.inl q3⟩
 ·intro l hl he
  obtain rfl:=sI hl he
  refine aJ [11] (ox G) (by kernel_rfl) (by decide) ⟨?_,trivial⟩
  refine ij 4 (λj=>j) hG ?_ (j6 (by kernel_rfl) hK)
  refine⟨?_,?_,rfl,rfl,rfl,rfl,trivial⟩<;>exact Q4
end
def iW (n:Nat):Code→Code
 |.block m a=>if Nat.beq m n then a else iW n a
 |.seq a b=>match iW n a with
  |.skip=>iW n b
  |c=>c
 |.cond _ a b=>match iW n a with
  |.skip=>iW n b
  |c=>c
 |.loop a=>iW n a
 |.scope a=>iW n a
 |_=>.skip
theorem MM:Body P 103:=aw Tryz.func103 (c:=code Tryz.f103) rfl (by decide)
theorem Dw:Body P 73:=aw Tryz.func73 (c:=code Tryz.f73) rfl (by decide)
def CJ:Code→Code
 |.rangeFunc _ _ a _=>a
 |_=>.skip
def CK:Code→Code
 |.rangeFunc _ _ _ b=>b
 |_=>.skip
def V2:List (Nat × SV):=[(0,.sp 3 0),(3,.sp 4 0),(4,.sp 5 0),(7,.se 7 0 0)]
def F2:List (Nat × FE):=[(0,⟨[],.sp 3 0⟩),(3,⟨[],.sp 4 0⟩),(4,⟨[],.sp 5 0⟩),(7,⟨[],.se 7 0 0⟩)]
def E2 (q:Qn)(bk:Bool):List (Nat × HB):=[(10,.cells 4 [.sb bk]),(9,.cells 88 [.si .u64 (q.reads:Int)]),(8,.cells 80 [.sp 3 0])]
def ym:SV:=.fn (.func 103) [] [.sp 8 0,.sp 10 0,.sp 9 0]
def A2 (w:Wd)(q:Qn)(es:List (Qn × (Nat→Sp)))(ar:Nat→Sp):List (Nat × HB):=(7,.vec 85 2 9 λj=>bg (ar j))::H1 w q es
noncomputable def cF:Code:=iW 0 (code Tryz.f33)
noncomputable def L2 (fn:Nat)(bk:Bool)(w:Wd)(q:Qn)(es:List (Qn × (Nat→Sp)))(ar:Nat→Sp):List (Nat × HB):=(12,.loop V2 Tryz.f33.ntmps fn [31,32] (CJ cF) (CK cF) 11 .ready none)::(11,.eh)::(E2 q bk++A2 w q es ar)
def P2 (w:Wd)(i:Nat):List (Nat × FE):=[(0,⟨[],.fy 12⟩),(1,⟨[],.sp 8 0⟩),(2,⟨[],.sp 10 0⟩),(3,⟨[],.sp 9 0⟩),(10,⟨[],.sl 1⟩),(11,⟨[],.si .i64 (w.n:Int)⟩),(12,⟨[],.si .i64 (i:Int)⟩)]
section
variable {G:cp}{w:Wd}{q:Qn}{es:List (Qn × (Nat→Sp))}{K:Ex→St→Prop}
theorem n4 {l l':List (Nat × SV)}{s:Nat→Nat}{n:Nat}(h:∀p∈l',gq l p.1=some (bX s p.2)∧dM n p.2=true)(hu:∀t v,gq l' t=some v→(t,v)∈l'):∀t v,gq l' t=some v→gq l t=some (bX s v)∧dM n v=true :=
 λt v hv=>h (t,v) (hu t v hv)
theorem ln:∀{l:List (Nat × SV)} {t:Nat} {v:SV},gq l t=some v→(t,v)∈l
 |[],t,v,h=>by cases h
 |(a,x)::r,t,v,h=>by
  simp only[gq] at h
  split at h
  ·rename_i e
   have e:a=t:=by simpa using e
   subst e;cases h
   exact List.mem_cons_self
  ·exact List.mem_cons_of_mem _ (ln h)
end
noncomputable def L9 (fn:Nat)(bk:Bool)(w:Wd)(q:Qn)(es:List (Qn × (Nat→Sp)))(ar:Nat→Sp):List (Nat × HB):=(12,.loop V2 Tryz.f33.ntmps fn [31,32] (CJ cF) (CK cF) 11 .busy none)::(11,.eh)::(E2 q bk++A2 w q es ar)
noncomputable abbrev X9 (G:cp)(r:Option Nat):Cx:=⟨P,T,aC [],G,r,Tryz.f33.ntmps⟩
theorem lI (G:cp)(r:Option Nat):(X9 G r).Ok:=ah.ok _ _ _
noncomputable def o9:Array Oper:=tB 9 (code Tryz.f33)
def Qy (j:Nat):Option Nat:=if j<10 then some j else none
def xG:Nat→List Nat
 |1=>[0]
 |4=>[3]
 |5=>[4]
 |6=>[2]
 |7=>[6]
 |8=>[2,7]
 |9=>[5,8]
 |_=>[]
theorem Ud:∀i,∀j∈xG i,j<i:=by
 intro i j hj
 unfold xG at hj
 split at hj<;>simp at hj<;>omega
theorem aaH:xm o9 12 10 Qy (λi=>i) xG z1=true:=by kernel_rfl
noncomputable def Um:List Bool→Array Bool:=iz 12 Qy z1
def xi (i:Nat)(e:Ef)(ar:Nat→Sp):Nat→List (Nat × FE)
 |0=>[(33,⟨[],.si .i64 (i:Int)⟩)]
 |1=>[(34,⟨[],.si .i64 ((i:Int)+1)⟩)]
 |2=>[(35,⟨[],sG e⟩)]
 |3=>[(36,⟨[],.si .i64 (i:Int)⟩)]
 |4=>[(37,⟨[],.se 7 (i:Int) 0⟩)]
 |5=>[(38,⟨[],.agg (bg (ar i))⟩)]
 | 6 => [(39, ⟨[], .fn (.method "blockworks/wear.after") [sG e] []⟩)]
 | 7 => [(40, ⟨[], .fn (.method "blockworks/wear.after") [sG e] []⟩)]
 |8=>[(41,⟨[],sG e⟩)]
 |9=>[(42,⟨[],.agg (bg (nH e (ar i)))⟩)]
 |_=>[]
def b9 (i:Nat)(e:Ef):List (Nat × FE):=(8,⟨[],.si .i64 (i:Int)⟩)::(9,⟨[],sG e⟩)::F2
section
variable {G:cp}{r:Option Nat}{fn:Nat}{bk:Bool}{w:Wd}{q:Qn}{es:List (Qn × (Nat→Sp))}{ar sj:Nat→Sp}{i:Nat}{e:Ef}{K:Ex→St→Prop}
def Mh (G:cp)(r:Option Nat)(i:Nat)(e:Ef)(ar:Nat→Sp)(j:Nat)(H H':List (Nat × HB)):Prop:=∃o,o9[j]?=some o∧o.guard=none∧∀(tail:List (Nat × FE)) (Q:Exit→Act→World→Prop) (Kn:St→Prop),dm (X9 G r) Q Kn (λ_ _=>False)→Kn ⟨xi i e ar j++((xG j).flatMap (xi i e ar)++(b9 i e++tail)),[],H',13,[]⟩ →
 c7 (X9 G r) [o] Q Kn (λ_ _=>False) 0 [o] ⟨(xG j).flatMap (xi i e ar)++(b9 i e++tail),[],H,13,[]⟩
theorem adn (hi:i<8)(j:Nat)(hj:j<9):Mh G r i e ar j (L9 fn bk w q es ar) (L9 fn bk w q es ar):=by
 rcases(show j=1∨j=4∨j=7∨j=0∨j=2∨j=3∨j=5∨j=6∨j=8 by omega) with rfl|rfl|rfl|rfl|rfl|rfl|rfl|rfl|rfl
 ·exact⟨_,rfl,rfl,λtail Q Kn hC hK=>aa.mk (show ae .i64 ((i:Int)+1) from⟨by omega,by omega⟩) hK⟩
 ·exact⟨_,rfl,rfl,λtail Q Kn hC hK=>AL 7 9 2 (i:Int) (lI G r) hC rfl rfl rfl rfl rfl rfl rfl rfl rfl rfl rfl rfl ⟨by omega,by omega⟩ hK⟩
 ·cases e<;>exact⟨_,rfl,rfl,λtail Q Kn hC hK=>aa.mk (by kernel_rfl) hK⟩
 all_goals first|exact⟨_,rfl,rfl,λtail Q Kn hC hK=>hK⟩|(cases e<;>exact⟨_,rfl,rfl,λtail Q Kn hC hK=>hK⟩)
theorem ado (he:vK e)(hk:iu (ar i)):Mh G r i e ar 9 (L9 fn bk w q es ar) ((0,.ax 2 gF)::L9 fn bk w q es ar):=by
 refine⟨_,rfl,rfl,λtail Q Kn hC hK=>?_⟩
 refine qk (Dm e) (lI G r) hC rfl rfl rfl rfl rfl rfl rfl (aa6 e) (UJ e) ?_
 refine aO [Ax e,.agg (bg (ar i))] pb 1 (λj=>j) (by cases e<;>exact Q2) (by cases e<;>rfl) Q7 rfl rfl ?_
 exact acL e he hk ⟨rfl,Q2,Q2,hK⟩
theorem QH:m9 (λj=>j) 13 (b9 i e)∧∀j,j<10→m9 (λj=>j) 13 (xi i e ar j):=by
 refine⟨?_,λj hj=>?_⟩
 ·cases e<;>exact Q2
 ·rcases(show j=0∨j=1∨j=2∨j=3∨j=4∨j=5∨j=6∨j=7∨j=8∨j=9 by omega) with rfl|rfl|rfl|rfl|rfl|rfl|rfl|rfl|rfl|rfl<;>cases e<;>exact Q2
theorem aei:oJ 13 (λj=>j) 13 (xi i e ar 9) (xi i e ar 9) ((0,.ax 2 gF)::L9 fn bk w q es ar) (L9 fn bk w q es ar) []:=by
 refine⟨?_,rfl,?_,rfl,rfl,rfl,trivial⟩<;>repeat' (first|exact trivial|exact rfl|exact List.Perm.refl _|(intro i hi;exact⟨rfl,rfl⟩)|(intro v m g h;exact h)|refine n4 (List.forall_mem_cons.2 ⟨⟨rfl,rfl⟩,List.forall_mem_cons.2 ⟨⟨rfl,rfl⟩,List.forall_mem_cons.2 ⟨⟨rfl,rfl⟩,List.forall_mem_cons.2 ⟨⟨rfl,rfl⟩,λp hp=>by cases hp⟩⟩⟩⟩) (λt v h=>ln h)|refine And.intro ?_ ?_)
theorem ab_ (hG:∀j,13≤j→G.ρ j=none)(hi:i<8)(he:vK e)(hk:iu (ar i))(wm:∀j,j<9→sj j=if j=i+1 then nH e (ar i) else ar j)
  (hK:K .normal ⟨b9 i e,[],L9 fn bk w q es sj,13,[]⟩):ie (X9 G r) o9 12 (Array.replicate 12 false) ⟨b9 i e,[],L9 fn bk w q es ar,13,[]⟩ K:=by
 refine zK (D:=[]) (lI G r) 10 Um (λi=>i) (qj 10) (xi i e ar) (b9 i e) (λ_=>L9 fn bk w q es ar) (λ_=>13) xG 2 13 hG (λa ha j hj=>by have:=Ud a j hj;omega) (Cd aaH) ?_ ?_ ?_ (List.replicate 10 false) rfl (by decide)
 ·repeat' (first|exact trivial|exact⟨rfl,rfl⟩|refine And.intro ?_ ?_)
 ·intro j hj l iF hf ha bi
  by_cases h9:j=9
  ·subst h9
   obtain⟨o,q1,q2,q3⟩:=ado (G:=G) (r:=r) (fn:=fn) (bk:=bk) (w:=w) (q:=q) (es:=es) he hk
   exact⟨o,q1,q2,.inr ⟨λj=>j,_,_,13,aei,(QH (ar:=ar)).1,λk hk _=>QH.2 k hk,q3⟩⟩
  obtain⟨o,q1,q2,q3⟩:=adn (G:=G) (r:=r) (fn:=fn) (bk:=bk) (w:=w) (q:=q) (es:=es) (e:=e) (ar:=ar) hi j (by omega)
  exact⟨o,q1,q2,.inl q3⟩
 ·intro l hl he
  obtain rfl:=sI hl he
  refine aJ [10] (lI G r) (by kernel_rfl) (by decide) ⟨?_,trivial⟩
  refine AL 7 9 2 ((i:Int)+1) (lI G r) bm rfl rfl rfl rfl rfl rfl rfl rfl rfl rfl rfl rfl ⟨by omega,by omega⟩ ?_
  refine aJ [11] (lI G r) (by kernel_rfl) (by decide) ⟨?_,trivial⟩
  refine oZ 7 85 2 9 ((i:Int)+1) 0 (λj=>bg (ar j)) (λj=>bg (sj j)) (bg (nH e (ar i))) (lI G r) bm rfl rfl rfl rfl rfl rfl rfl rfl rfl rfl ⟨by omega,by omega⟩ (Nat.le_refl 2) (λj hj=>?_) ?_
  ·show bg (sj j)=_
   rw[wm j hj,show((i:Int)+1).toNat=i+1 by omega]
   split
   ·rfl
   ·rfl
  refine ij 13 (λj=>j) hG ?_ (j6 (by kernel_rfl) hK)
  refine⟨?_,?_,rfl,rfl,rfl,rfl,trivial⟩
  ·cases e<;>exact Q2
  ·repeat' (first|exact trivial|exact rfl|exact List.Perm.refl _|(intro i hi;exact⟨rfl,rfl⟩)|(intro v m g h;exact h)|refine n4 (List.forall_mem_cons.2 ⟨⟨rfl,rfl⟩,List.forall_mem_cons.2 ⟨⟨rfl,rfl⟩,List.forall_mem_cons.2 ⟨⟨rfl,rfl⟩,List.forall_mem_cons.2 ⟨⟨rfl,rfl⟩,λp hp=>by cases hp⟩⟩⟩⟩) (λt v h=>ln h)|refine And.intro ?_ ?_)
end
end Go.X.Wr
namespace Go.X.Lt
open Go Go.Proofs Go.X
open Go.X.Gr (aB az au bQ dj ca da hasB cD dW eA aE bZ iC bc bR code fq)
open Go.X.Wr (iW CJ CK n4 ln)
theorem fK:Body P 42:=aw Tryz.func42 (c:=code Tryz.f42) rfl (by decide)
theorem UD:Body P 81:=aw Tryz.func81 (c:=code Tryz.f81) rfl (by decide)
noncomputable def cV:Code:=iW 0 (code Tryz.f13)
def WV:SV:=.fn (.func 81) [] [.sp 13 0]
def VV:List (Nat × SV):=[(2,.sp 5 0),(3,.sp 6 0),(4,.sp 11 0),(5,.sp 12 0)]
def FV:List (Nat × FE):=[(2,⟨[],.sp 5 0⟩),(3,⟨[],.sp 6 0⟩),(4,⟨[],.sp 11 0⟩),(5,⟨[],.sp 12 0⟩),(12,⟨[],WV⟩)]
def Td (k:Nat)(x:Lo)(i:Nat):List (Nat × HB):=[(0,.ro 2 x.nL λi=>az (x.li i)),(1,.ro 10 x.nB λi=>dG (x.bl i)),(2,.ro 1 x.nP λi=>iC (x.bE i)),(3,.ro 2 x.nO λi=>az (x.od i)),(5,.cells 36 [.si .i64 0,.si .i64 0]),(6,.cells 47 [.si .i64 0]),
 (7,.mp []),(8,.mp []),(9,.vec 3 1 x.nB λi=>iC ((gf x i:Nat):Int)),(10,.cells 113 [.sl 0,.si .i64 x.st,.sl 1,.sl 2,.si .i64 x.g7,.sl 3,.sm 7,.sm 8,.sl 9]),(11,.cells 96 [.sp 10 0]),(12,.cells 104 [.sl k]),(13,.cells 96 [.sp 10 0]),(k,.vec 36 2 i λj=>az (ed x j))]
noncomputable def lvH (fn:Nat)(s:LoopState)(x:Lo)(i:Nat):List (Nat × HB):=(16,.loop VV Tryz.f13.ntmps fn [13,14] (CJ cV) (CK cV) 15 s none)::(15,.eh)::Td 17 x i
def xS:Ct:=λfr args H=>match args with
 |[.agg l]=>mq H l λx C=>some ⟨some (C∧dp x),none,.bn [.agg [.si .i64 (fQ (ed x) x.nB).1,.si .i64 (fQ (ed x) x.nB).2],.si .i64 0],[]⟩
 |_=>none
theorem U1:cY xS:=by
 intro fr args H H' out hH h
 unfold xS at h ⊢
 split at h
 ·exact uS hH h
 ·cases h
theorem k13:aP P 13 xS:=by
 have g:=ah
 refine sD (C:=aC _) g.ok T8 Tryz.func13 (c:=code Tryz.f13) rfl λfr args H out h hp=>?_
 unfold xS at h
 split at h
 case h_2=>cases h
 rename_i l
 obtain⟨i0,i1,i2,i3,x,C,rfl,hh,h⟩:=wX h
 cases h
 obtain⟨hC,hx⟩:C∧dp x:=hp
 refine⟨jU i0 i1 i2 i3 x,[.agg (e_ 0 1 2 3 x)],H4 x,4,[],rfl,rfl,Nat.le_of_ble_eq_true rfl,hh hC,rfl,rfl,λG hG=>?_⟩
 clear hh hC
 have hB:=hx.nB
 have hw:∀i,i<x.nB→(0≤(ed x i).1∧(ed x i).1≤100)∧0≤(ed x i).2∧(ed x i).2≤100:=λi _=>zx hx _ _
 refine sK 41 6 (g.ok _ _ _) rfl aj rfl rfl rfl rfl rfl rfl rfl ?_
 refine av (g.ok _ _ _) aj rfl rfl rfl rfl ⟨vv,?_⟩
 refine ug 3 (λi=>j_ (0,0,0)) (fun ρ h=>FP h) ?_
 refine ug 1 (λi=>[]) (fun ρ h aM hv=>hv) ?_
 refine aO [.agg (e_ 0 1 2 3 x),.sl 4,mo false] (w9 false x 0 (λ_=>(0,0,0)) 0) 6 (λj=>match j with|4=>7|5=>8|j=>j) AU rfl AU rfl rfl ?_
 refine ze false hx (Nat.zero_le _) (λh=>by cases h) (λi hi=>absurd hi (Nat.not_lt_zero _)) ⟨rfl,AU,AU,?_⟩
 refine av (g.ok _ _ _) aj rfl rfl rfl rfl ⟨fK,cT ah.ok Tryz.func42 (c:=code Tryz.f42) rfl (Nat.le_of_ble_eq_true rfl) λG2 b_=>?_⟩
 refine(show aX _ _ _ _ from ?_)
 refine Lb 14 104 36 2 (λj=>az (ed x j)) _ [.sl 16] rfl rfl ?_
 refine kF (af:=⟨FV,[],Td 14 x 0,15,[(1000000,[.si .i64 41,.sp 6 0])]⟩) 4 (λj=>match j with|7=>9|8=>10|9=>11|10=>12|11=>13|12=>14|13=>15|14=>16|j=>j) hG ⟨AU,AU,rfl,rfl,rfl,rfl,AU⟩ ?_
 refine lK (g.ok _ _ _) rfl rfl rfl UD ?_
 intro fn
 refine cT ah.ok Tryz.func81 (c:=code Tryz.f81) rfl (Nat.le_of_ble_eq_true rfl) λG2 b_=>?_
 have f1:∀t v,gq VV t=some v→gq (vY FV) t=some (bX (λj=>match j with|17=>14|j=>j) v)∧dM 18 v=true:=λt v h=>by
  have h:=ln h
  simp only[VV,List.mem_cons,List.not_mem_nil,or_false,Prod.mk.injEq] at h
  rcases h with⟨rfl,rfl⟩|⟨rfl,rfl⟩|⟨rfl,rfl⟩|⟨rfl,rfl⟩<;>exact⟨rfl,rfl⟩
 have f2:∀t v,gq VV t=some v→gq VV t=some (bX (λj=>match j with|17=>19|j=>j) v)∧dM 18 v=true:=λt v h=>by
  have h:=ln h
  simp only[VV,List.mem_cons,List.not_mem_nil,or_false,Prod.mk.injEq] at h
  rcases h with⟨rfl,rfl⟩|⟨rfl,rfl⟩|⟨rfl,rfl⟩|⟨rfl,rfl⟩<;>exact⟨rfl,rfl⟩
 refine cm (ah.ok _ _ _) 17 (λi:{i:Nat // i≤x.nB}=>⟨[(0,⟨[],.fy 16⟩),(1,⟨[],.sp 13 0⟩),(8,⟨[],.sl 9⟩),(9,⟨[],.si .i64 (x.nB:Int)⟩),(10,⟨[],.si .i64 (i.1:Int)⟩)],[],lvH fn .ready x i.1,18,[]⟩) (λi=>x.nB-i.1) b_ ⟨0,Nat.zero_le _⟩ (λj=>match j with|17=>14|j=>j) ?_ ?_
 ·exact⟨AU,AU,rfl,rfl,rfl,rfl,AU⟩
 rintro⟨i,hi⟩
 have hi:i≤x.nB:=hi
 refine Br.mk (λh=>?_) (λh=>?_)
 ·have h:(i:Int)<(x.nB:Int):=of_decide_eq_true h
  refine aa.mk (show(0:Int)≤(i:Int)∧(i:Int)<(x.nB:Int) from⟨by omega,h⟩) ?_
  refine vT 16 ah.ok (ah.ok _ _ _) aj rfl rfl rfl rfl rfl rfl rfl rfl rfl (by decide) ?_
  intro G3 r pc
  refine lT bP ?_
  refine aJ [0,1,2] (g.ok _ _ _) (by kernel_rfl) (by decide) ⟨?_,?_,?_,trivial⟩
  refine aJ [1,2] (g.ok _ _ _) (by kernel_rfl) (by decide) ⟨?_,?_,trivial⟩
  refine aJ [2] (g.ok _ _ _) (by kernel_rfl) (by decide) ⟨?_,trivial⟩
  refine aJ [3] (g.ok _ _ _) (by kernel_rfl) (by decide) ⟨?_,trivial⟩
  refine av (g.ok _ _ _) bm rfl rfl rfl rfl ⟨sk,?_⟩
  refine aO [.sp 7 0,.si .i64 ((gf x i:Nat):Int)] (ey x [] x.nB) 8 (λj=>match j with|4=>7|5=>8|6=>9|7=>10|j=>j) AU rfl AU rfl rfl ?_
  refine tM hx (by omega) ⟨rfl,AU,AU,?_⟩
  refine aJ [4] (g.ok _ _ _) (by kernel_rfl) (by decide) ⟨?_,trivial⟩
  rotate_left 1
  refine aJ [1] (g.ok _ _ _) (by kernel_rfl) (by decide) ⟨?_,trivial⟩
  refine aJ [3] (g.ok _ _ _) (by kernel_rfl) (by decide) ⟨?_,trivial⟩
  refine av (g.ok _ _ _) bm rfl rfl rfl rfl ⟨sk,?_⟩
  refine aO [.sp 7 0,.si .i64 ((gf x i:Nat):Int)] (ey x [] x.nB) 8 (λj=>match j with|4=>7|5=>8|6=>9|7=>10|j=>j) AU rfl AU rfl rfl ?_
  refine tM hx (by omega) ⟨rfl,AU,AU,?_⟩
  refine aJ [4] (g.ok _ _ _) (by kernel_rfl) (by decide) ⟨?_,trivial⟩
  rotate_left 1
  refine aJ [0,2] (g.ok _ _ _) (by kernel_rfl) (by decide) ⟨?_,?_,trivial⟩
  refine aJ [2] (g.ok _ _ _) (by kernel_rfl) (by decide) ⟨?_,trivial⟩
  refine aJ [3] (g.ok _ _ _) (by kernel_rfl) (by decide) ⟨?_,trivial⟩
  refine av (g.ok _ _ _) bm rfl rfl rfl rfl ⟨sk,?_⟩
  refine aO [.sp 7 0,.si .i64 ((gf x i:Nat):Int)] (ey x [] x.nB) 8 (λj=>match j with|4=>7|5=>8|6=>9|7=>10|j=>j) AU rfl AU rfl rfl ?_
  refine tM hx (by omega) ⟨rfl,AU,AU,?_⟩
  refine aJ [4] (g.ok _ _ _) (by kernel_rfl) (by decide) ⟨?_,trivial⟩
  rotate_left 1
  refine aJ [0,3] (g.ok _ _ _) (by kernel_rfl) (by decide) ⟨?_,?_,trivial⟩
  refine aJ [3] (g.ok _ _ _) (by kernel_rfl) (by decide) ⟨?_,trivial⟩
  refine av (g.ok _ _ _) bm rfl rfl rfl rfl ⟨sk,?_⟩
  refine aO [.sp 7 0,.si .i64 ((gf x i:Nat):Int)] (ey x [] x.nB) 8 (λj=>match j with|4=>7|5=>8|6=>9|7=>10|j=>j) AU rfl AU rfl rfl ?_
  refine tM hx (by omega) ⟨rfl,AU,AU,?_⟩
  refine aJ [4] (g.ok _ _ _) (by kernel_rfl) (by decide) ⟨?_,trivial⟩
  rotate_left 1
  refine av (g.ok _ _ _) bm rfl rfl rfl rfl ⟨sk,?_⟩
  refine aO [.sp 7 0,.si .i64 ((gf x i:Nat):Int)] (ey x [] x.nB) 8 (λj=>match j with|4=>7|5=>8|6=>9|7=>10|j=>j) AU rfl AU rfl rfl ?_
  refine tM hx (by omega) ⟨rfl,AU,AU,?_⟩
  refine aJ [0,4] (g.ok _ _ _) (by kernel_rfl) (by decide) ⟨?_,?_,trivial⟩
  refine aJ [4] (g.ok _ _ _) (by kernel_rfl) (by decide) ⟨?_,trivial⟩
  rotate_left 1
  refine aJ [0] (g.ok _ _ _) (by kernel_rfl) (by decide) ⟨?_,trivial⟩
  rotate_left 1
  refine aJ [0,1] (g.ok _ _ _) (by kernel_rfl) (by decide) ⟨?_,?_,trivial⟩
  refine aJ [1] (g.ok _ _ _) (by kernel_rfl) (by decide) ⟨?_,trivial⟩
  refine aJ [3] (g.ok _ _ _) (by kernel_rfl) (by decide) ⟨?_,trivial⟩
  refine av (g.ok _ _ _) bm rfl rfl rfl rfl ⟨sk,?_⟩
  refine aO [.sp 7 0,.si .i64 ((gf x i:Nat):Int)] (ey x [] x.nB) 8 (λj=>match j with|4=>7|5=>8|6=>9|7=>10|j=>j) AU rfl AU rfl rfl ?_
  refine tM hx (by omega) ⟨rfl,AU,AU,?_⟩
  refine aJ [4] (g.ok _ _ _) (by kernel_rfl) (by decide) ⟨?_,trivial⟩
  rotate_left 1
  refine aJ [0,3] (g.ok _ _ _) (by kernel_rfl) (by decide) ⟨?_,?_,trivial⟩
  refine aJ [3] (g.ok _ _ _) (by kernel_rfl) (by decide) ⟨?_,trivial⟩
  refine av (g.ok _ _ _) bm rfl rfl rfl rfl ⟨sk,?_⟩
  refine aO [.sp 7 0,.si .i64 ((gf x i:Nat):Int)] (ey x [] x.nB) 8 (λj=>match j with|4=>7|5=>8|6=>9|7=>10|j=>j) AU rfl AU rfl rfl ?_
  refine tM hx (by omega) ⟨rfl,AU,AU,?_⟩
  refine aJ [4] (g.ok _ _ _) (by kernel_rfl) (by decide) ⟨?_,trivial⟩
  rotate_left 1
  refine av (g.ok _ _ _) bm rfl rfl rfl rfl ⟨sk,?_⟩
  refine aO [.sp 7 0,.si .i64 ((gf x i:Nat):Int)] (ey x [] x.nB) 8 (λj=>match j with|4=>7|5=>8|6=>9|7=>10|j=>j) AU rfl AU rfl rfl ?_
  refine tM hx (by omega) ⟨rfl,AU,AU,?_⟩
  refine aJ [0,4] (g.ok _ _ _) (by kernel_rfl) (by decide) ⟨?_,?_,trivial⟩
  refine aJ [4] (g.ok _ _ _) (by kernel_rfl) (by decide) ⟨?_,trivial⟩
  rotate_left 1
  refine aJ [0] (g.ok _ _ _) (by kernel_rfl) (by decide) ⟨?_,trivial⟩
  rotate_left 1
  all_goals
   refine aJ [5] (g.ok _ _ _) (by kernel_rfl) (by decide) ⟨?_,trivial⟩
   refine mQ (Te:=0) 17 18 i 1 _ _ (λj=>az (ed x j)) (g.ok _ _ _) bm rfl rfl rfl rfl rfl rfl rfl rfl rfl rfl rfl rfl (by decide) (by decide) rfl rfl rfl rfl (by omega) (λk hk=>?_) ?_
   ·rcases Nat.lt_or_ge k i with h1|h1
    ·rw[if_pos h1]
    ·obtain rfl:k=i:=by omega
     rw[if_neg (by omega),show k-k=0 by omega]
     rfl
   refine aJ [6] (g.ok _ _ _) (by kernel_rfl) (by decide) ⟨?_,trivial⟩
   refine j6 (by kernel_rfl) ?_
   refine Br.mk (λh=>absurd h (by decide)) (λ_=>?_)
   refine aa.mk (show ae .i64 ((i:Int)+1) from⟨by omega,by omega⟩) ⟨⟨i+1,(by omega:i+1≤x.nB)⟩,(λj=>match j with|17=>19|j=>j),⟨AU,AU,rfl,rfl,rfl,rfl,AU⟩,by show x.nB-(i+1)<x.nB-i;omega⟩
 ·have h:¬(i:Int)<(x.nB:Int):=of_decide_eq_false h
  obtain rfl:i=x.nB:=by omega
  refine av (g.ok _ _ _) aj rfl rfl rfl rfl ⟨Uz,?_⟩
  refine aO [.sl 0] [(0,.vec 36 2 x.nB λj=>az (ed x j))] 1 (λj=>17) AU rfl AU rfl rfl ?_
  refine s44 (by omega) hw ⟨rfl,AU,AU,?_⟩
  exact⟨.inl rfl,bU AU rfl rfl AU⟩
theorem OK {l:List (Nat × Ct)}(g:Good P T l):Good P T ((13,xS)::l):=g.add k13 U1 (aw Tryz.func13 (c:=code Tryz.f13) rfl (by decide))
end Go.X.Lt
namespace Go.X.Wr
open Go Go.Proofs Go.X
open Go.X.W (tB v_ v9 sI re)
section
variable {G:cp}{w:Wd}{q:Qn}{es:List (Qn × (Nat→Sp))}{K:Ex→St→Prop}
theorem W5 (hG:∀j,4≤j→G.ρ j=none)(hw:eb w=true)(hq:kc 0 (q.lo,q.hi))(hr:q.reads<256)
  (hK:∀fn,K .normal ⟨(30,⟨[],ym⟩)::F2,[],(12,.dead)::L2 fn false w q es (mF w q w.n),13,[(mD,[.sp 11 0])]⟩) :
  aX (sg G) cF ⟨(30,⟨[],ym⟩)::F2,[],E2 q false++A2 w q es (mF w q 0),11,[]⟩ K:=by
 obtain⟨_,hu,hn,uz⟩:=lf hw
 refine lK (ox G) rfl rfl rfl MM ?_
 intro fn
 refine cT ah.ok Tryz.func103 (c:=code Tryz.f103) rfl (Nat.le_of_ble_eq_true rfl) λG2 b_=>?_
 refine cm (ah.ok _ _ _) 13 (λx:{i:Nat // i≤w.n}=>⟨P2 w x.1,[],L2 fn false w q es (mF w q x.1),13,[]⟩) (λx=>w.n-x.1) b_ ⟨0,Nat.zero_le _⟩ (λj=>j) ?_ ?_
 ·refine⟨?_,?_,rfl,rfl,rfl,rfl,trivial⟩<;>repeat' (first|exact trivial|exact rfl|exact List.Perm.refl _|(intro i hi;exact⟨rfl,rfl⟩)|(intro v m g h;exact h)|refine n4 (List.forall_mem_cons.2 ⟨⟨rfl,rfl⟩,List.forall_mem_cons.2 ⟨⟨rfl,rfl⟩,List.forall_mem_cons.2 ⟨⟨rfl,rfl⟩,List.forall_mem_cons.2 ⟨⟨rfl,rfl⟩,λp hp=>by cases hp⟩⟩⟩⟩) (λt v h=>ln h)|refine And.intro ?_ ?_)
 rintro⟨i,hi⟩
 have hi:i≤w.n:=hi
 refine Br.mk (λh=>?_) (λh=>?_)
 ·have h:(i:Int)<(w.n:Int):=of_decide_eq_true h
  refine Br.mk (λh=>by cases h) (λ_=>?_)
  refine av (ah.ok _ _ _) aj rfl rfl rfl rfl ⟨Dx,?_⟩
  refine aO [.sp 3 0,.si .i64 (i:Int),.si .u64 (q.reads:Int)] (bp w (bK es)) 4 (λj=>j) Q2 rfl Q4 rfl rfl ?_
  refine So hw (by omega) hr λe he=>?_
  have yA:ri e:=by rw[he];exact vJ hw q (by omega)
  have mi:iu (mF w q i i):=by unfold mF;rw[if_pos (Nat.le_refl i)];exact(vZ hw hq i hi).iu (by omega)
  have wm:∀j,j<9→mF w q (i+1) j=if j=i+1 then nH e (mF w q i i) else mF w q i j:=λj _=>by
   unfold mF
   by_cases h1:j=i+1
   ·subst h1;rw[if_pos (Nat.le_refl _),if_pos rfl,if_pos (Nat.le_refl _),he];rfl
   ·rw[if_neg h1]
    by_cases h2:j≤i
    ·rw[if_pos h2,if_pos (by omega)]
    ·rw[if_neg h2,if_neg (by omega)]
  have Ja:=yA.ok
  clear he yA
  cases e
  all_goals
   refine⟨rfl,Q1,Q0,?_⟩
   refine vT 12 ah.ok (ah.ok _ _ _) aj rfl rfl rfl rfl rfl rfl rfl rfl rfl (by decide) ?_
   intro G3 r pc
   refine lT bP ?_
   refine ij (af:=⟨b9 i _,[],L9 fn false w q es (mF w q i),13,[]⟩) 13 (λj=>j) pc ?_ (ab_ (r:=r) pc (by omega) Ja mi wm ?_)
   ·refine⟨?_,?_,rfl,rfl,rfl,rfl,trivial⟩<;>repeat' (first|exact trivial|exact rfl|exact List.Perm.refl _|(intro i hi;exact⟨rfl,rfl⟩)|(intro v m g h;exact h)|refine n4 (List.forall_mem_cons.2 ⟨⟨rfl,rfl⟩,List.forall_mem_cons.2 ⟨⟨rfl,rfl⟩,List.forall_mem_cons.2 ⟨⟨rfl,rfl⟩,List.forall_mem_cons.2 ⟨⟨rfl,rfl⟩,λp hp=>by cases hp⟩⟩⟩⟩) (λt v h=>ln h)|refine And.intro ?_ ?_)
   refine Br.mk (λh=>by cases h) (λ_=>?_)
   refine aa.mk (show ae .i64 ((i:Int)+1) from⟨by omega,by omega⟩) ⟨⟨i+1,by omega⟩,(λj=>j),?_,by show w.n-(i+1)<w.n-i;omega⟩
   refine⟨?_,?_,rfl,rfl,rfl,rfl,trivial⟩<;>repeat' (first|exact trivial|exact rfl|exact List.Perm.refl _|(intro i hi;exact⟨rfl,rfl⟩)|(intro v m g h;exact h)|refine n4 (List.forall_mem_cons.2 ⟨⟨rfl,rfl⟩,List.forall_mem_cons.2 ⟨⟨rfl,rfl⟩,List.forall_mem_cons.2 ⟨⟨rfl,rfl⟩,List.forall_mem_cons.2 ⟨⟨rfl,rfl⟩,λp hp=>by cases hp⟩⟩⟩⟩) (λt v h=>ln h)|refine And.intro ?_ ?_)
 ·have h:¬(i:Int)<(w.n:Int):=of_decide_eq_false h
  obtain rfl:i=w.n:=by omega
  exact hK fn
end
end Go.X.Wr
