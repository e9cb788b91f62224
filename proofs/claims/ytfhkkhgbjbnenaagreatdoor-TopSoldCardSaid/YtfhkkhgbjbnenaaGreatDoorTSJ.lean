/- Wear: follow: back: what a round does, in whatever order; TopSold: what came in; the loops inside the loop over blocks. -/
import Derived.Test.YtfhkkhgbjbnenaaGreatDoorTSI
import Derived.Test.YtfhkkhgbjbnenaaGreatDoorTSH
import Derived.Test.YtfhkkhgbjbnenaaGreatDoorTSG

set_option linter.unusedVariables false
set_option linter.unusedSimpArgs false
set_option linter.unusedSectionVars false
set_option maxRecDepth 100000
set_option maxHeartbeats 4000000

namespace Go.X.Wr
open Go Go.Proofs Go.X
open Go.X.W (tB v_ v9 sI re)
noncomputable def cB:Code:=iW 2 (code Tryz.f33)
def Ov : SV := .fn (.methodOf 138 "blockworks/wear.before") [] []
def V3:List (Nat × SV):=[(0,.sp 3 0),(3,.sp 4 0),(4,.sp 5 0),(7,.se 7 0 0),(10,.sp 12 0)]
def F3:List (Nat × FE):=[(0,⟨[],.sp 3 0⟩),(3,⟨[],.sp 4 0⟩),(4,⟨[],.sp 5 0⟩),(7,⟨[],.se 7 0 0⟩),(10,⟨[],.sp 12 0⟩)]
def E3 (q:Qn):List (Nat × HB):=(12,.cells 140 [Ov])::(11,.eh)::E2 q true
noncomputable def L3 (s:LoopState)(fn:Nat)(w:Wd)(q:Qn)(es:List (Qn × (Nat→Sp)))(ar:Nat→Sp):List (Nat × HB):=(14,.loop V3 Tryz.f33.ntmps fn [49,50] (CJ cB) (CK cB) 13 s none)::(13,.eh)::(E3 q++A2 w q es ar)
noncomputable def FT:Array Oper:=tB 14 (code Tryz.f33)
def Qv (j:Nat):Option Nat:=if j<13 then some j else none
def oO:Nat→List Nat
 |2=>[1]
 |3=>[2]
 |7=>[6]
 |8=>[7]
 |9=>[8]
 |10=>[4,5,9]
 |11=>[3,10]
 |12=>[11]
 |_=>[]
theorem T3:∀i,∀j∈oO i,j<i:=by
 intro i j hj
 unfold oO at hj
 split at hj<;>simp at hj<;>omega
theorem aaE:xm FT 15 13 Qv (λi=>i) oO z1=true:=by kernel_rfl
noncomputable def Uj:List Bool→Array Bool:=iz 15 Qv z1
def oC (k:Nat)(e:Ef)(ar:Nat→Sp):Nat→List (Nat × FE)
 |0=>[(51,⟨[],.si .i64 (k:Int)⟩)]
 |1=>[(52,⟨[],.si .i64 (k:Int)⟩)]
 |2=>[(53,⟨[],.se 7 (k:Int) 0⟩)]
 |3=>[(54,⟨[],.agg (bg (ar k))⟩)]
 |4=>[(55,⟨[],Ov⟩)]
 |5=>[(56,⟨[],sG e⟩)]
 |6=>[(57,⟨[],.si .i64 (k:Int)⟩)]
 |7=>[(58,⟨[],.si .i64 ((k:Int)+1)⟩)]
 |8=>[(59,⟨[],.se 7 ((k:Int)+1) 0⟩)]
 |9=>[(60,⟨[],.agg (bg (ar (k+1)))⟩)]
 |10=>[(61,⟨[],.agg (bg (kN e (ar (k+1))))⟩)]
 |11=>[(62,⟨[],.sl 15⟩)]
 |12=>[(63,⟨[],.agg (bg (gj (ar k) (kN e (ar (k+1)))))⟩)]
 |_=>[]
def q8 (k:Nat)(e:Ef):List (Nat × FE):=(11,⟨[],.si .i64 (k:Int)⟩)::(12,⟨[],sG e⟩)::F3
def CM (k:Nat)(e:Ef)(ar:Nat→Sp):HB:=.row 83 2 2 [.si .i64 (ar k).1,.si .i64 (ar k).2,.si .i64 (kN e (ar (k+1))).1,.si .i64 (kN e (ar (k+1))).2]
noncomputable def mf (fn:Nat)(w:Wd)(q:Qn)(es:List (Qn × (Nat→Sp)))(ar:Nat→Sp)(k:Nat)(e:Ef):Bool→List (Nat × HB)
 |false=>L3 .busy fn w q es ar
 |true=>(15,CM k e ar)::L3 .busy fn w q es ar
def GB (j:Nat):Nat:=if Nat.beq j 15 then 16 else j
section
variable {G:cp}{r:Option Nat}{fn:Nat}{w:Wd}{q:Qn}{es:List (Qn × (Nat→Sp))}{ar sj:Nat→Sp}{k:Nat}{e:Ef}{K:Ex→St→Prop}
def GX (G:cp)(r:Option Nat)(k:Nat)(e:Ef)(ar:Nat→Sp)(j:Nat)(H H':List (Nat × HB))(n n':Nat):Prop:=∃o,FT[j]?=some o∧o.guard=none∧∀(tail:List (Nat × FE)) (Q:Exit→Act→World→Prop) (Kn:St→Prop),dm (X9 G r) Q Kn (λ_ _=>False)→Kn ⟨oC k e ar j++((oO j).flatMap (oC k e ar)++(q8 k e++tail)),[],H',n',[]⟩ →
 c7 (X9 G r) [o] Q Kn (λ_ _=>False) 0 [o] ⟨(oO j).flatMap (oC k e ar)++(q8 k e++tail),[],H,n,[]⟩
theorem ac6 (hi:k<8)(j:Nat)(hj:j<10)(b:Bool):GX G r k e ar j (mf fn w q es ar k e b) (mf fn w q es ar k e b) 16 16:=by
 rcases(show j=7∨j=2∨j=8∨j=0∨j=1∨j=3∨j=4∨j=5∨j=6∨j=9 by omega) with rfl|rfl|rfl|rfl|rfl|rfl|rfl|rfl|rfl|rfl
 ·cases b<;>exact⟨_,rfl,rfl,λtail Q Kn hC hK=>aa.mk (show ae .i64 ((k:Int)+1) from⟨by omega,by omega⟩) hK⟩
 ·cases b<;>exact⟨_,rfl,rfl,λtail Q Kn hC hK=>AL 7 9 2 (k:Int) (lI G r) hC rfl rfl rfl rfl rfl rfl rfl rfl rfl rfl rfl rfl ⟨by omega,by omega⟩ hK⟩
 ·cases b<;>exact⟨_,rfl,rfl,λtail Q Kn hC hK=>AL 7 9 2 ((k:Int)+1) (lI G r) hC rfl rfl rfl rfl rfl rfl rfl rfl rfl rfl rfl rfl ⟨by omega,by omega⟩ hK⟩
 all_goals cases b<;>first|exact⟨_,rfl,rfl,λtail Q Kn hC hK=>hK⟩|(cases e<;>exact⟨_,rfl,rfl,λtail Q Kn hC hK=>hK⟩)
theorem ac7 (he:vK e)(hk:iu (ar (k+1))):GX G r k e ar 10 (mf fn w q es ar k e false) ((0,.ax 2 gF)::mf fn w q es ar k e false) 16 16:=by
 refine⟨_,rfl,rfl,λtail Q Kn hC hK=>?_⟩
 refine Wy (DA e) (lI G r) hC rfl rfl rfl rfl rfl rfl rfl rfl rfl (aa7 e) (UK e) ?_
 refine aO [Ax e,.agg (bg (ar (k+1)))] pb 1 (λj=>j) (by cases e<;>exact Q2) (by cases e<;>rfl) Q7 rfl rfl ?_
 exact acM e he hk ⟨rfl,Q2,Q2,hK⟩
theorem ac8:∃o,FT[11]?=some o∧o.guard=none∧∀(tail:List (Nat × FE)) (Q:Exit→Act→World→Prop) (Kn:St→Prop),dm (X9 G r) Q Kn (λ_ _=>False)→Kn ⟨[(62,⟨[],.sl 16⟩)]++((oO 11).flatMap (oC k e ar)++(q8 k e++tail)),[],(16,CM k e ar)::mf fn w q es ar k e false,17,[]⟩ →
 c7 (X9 G r) [o] Q Kn (λ_ _=>False) 0 [o] ⟨(oO 11).flatMap (oC k e ar)++(q8 k e++tail),[],mf fn w q es ar k e false,16,[]⟩:=⟨_,rfl,rfl,λtail Q Kn hC hK=>hK⟩
theorem ac9 (h1:iu (ar k))(h2:iu (kN e (ar (k+1)))):GX G r k e ar 12 (mf fn w q es ar k e true) ((0,.ax 2 gF)::(15,CM k e ar)::mf fn w q es ar k e true) 16 16:=by
 refine⟨_,rfl,rfl,λtail Q Kn hC hK=>?_⟩
 refine av (lI G r) hC rfl rfl rfl rfl ⟨xL,?_⟩
 refine aO [.sl 1] (bH (ar k) (kN e (ar (k+1)))) 2 (λj=>match j with|0=>0|_=>15) Q2 rfl Q7 rfl rfl ?_
 exact zg h1 h2 ⟨rfl,Q2,Q2,hK⟩
theorem Ft:m9 (λj=>j) 16 (q8 k e)∧∀j,j<13→m9 (λj=>j) 16 (oC k e ar j):=by
 refine⟨?_,λj hj=>?_⟩
 ·cases e<;>exact Q2
 ·rcases(show j=0∨j=1∨j=2∨j=3∨j=4∨j=5∨j=6∨j=7∨j=8∨j=9∨j=10∨j=11∨j=12 by omega) with rfl|rfl|rfl|rfl|rfl|rfl|rfl|rfl|rfl|rfl|rfl|rfl|rfl<;>cases e<;>exact Q2
theorem QG:m9 GB 16 (q8 k e)∧∀j,j<13→j≠11→m9 GB 16 (oC k e ar j):=by
 refine⟨?_,λj hj hj2=>?_⟩
 ·cases e<;>exact Q2
 ·rcases(show j=0∨j=1∨j=2∨j=3∨j=4∨j=5∨j=6∨j=7∨j=8∨j=9∨j=10∨j=12 by omega) with rfl|rfl|rfl|rfl|rfl|rfl|rfl|rfl|rfl|rfl|rfl|rfl<;>cases e<;>exact Q2
theorem aef:oJ 15 (λj=>j) 16 (oC k e ar 10) (oC k e ar 10) ((0,.ax 2 gF)::mf fn w q es ar k e false) (mf fn w q es ar k e false) []:=by
 refine⟨?_,rfl,?_,rfl,rfl,rfl,trivial⟩<;>repeat' (first|exact trivial|exact rfl|exact List.Perm.refl _|(intro i hi;exact⟨rfl,rfl⟩)|(intro v m g h;exact h)|refine n4 (List.forall_mem_cons.2 ⟨⟨rfl,rfl⟩,List.forall_mem_cons.2 ⟨⟨rfl,rfl⟩,List.forall_mem_cons.2 ⟨⟨rfl,rfl⟩,List.forall_mem_cons.2 ⟨⟨rfl,rfl⟩,List.forall_mem_cons.2 ⟨⟨rfl,rfl⟩,λp hp=>by cases hp⟩⟩⟩⟩⟩) (λt v h=>ln h)|refine And.intro ?_ ?_)
theorem aeg:oJ 15 (λj=>j) 16 (oC k e ar 12) (oC k e ar 12) ((0,.ax 2 gF)::(15,CM k e ar)::mf fn w q es ar k e true) (mf fn w q es ar k e true) []:=by
 refine⟨?_,rfl,?_,rfl,rfl,rfl,trivial⟩<;>repeat' (first|exact trivial|exact rfl|exact List.Perm.refl _|(intro i hi;exact⟨rfl,rfl⟩)|(intro v m g h;exact h)|refine n4 (List.forall_mem_cons.2 ⟨⟨rfl,rfl⟩,List.forall_mem_cons.2 ⟨⟨rfl,rfl⟩,List.forall_mem_cons.2 ⟨⟨rfl,rfl⟩,List.forall_mem_cons.2 ⟨⟨rfl,rfl⟩,List.forall_mem_cons.2 ⟨⟨rfl,rfl⟩,λp hp=>by cases hp⟩⟩⟩⟩⟩) (λt v h=>ln h)|refine And.intro ?_ ?_)
theorem aeh:oJ 15 GB 16 [(62,⟨[],.sl 16⟩)] (oC k e ar 11) ((16,CM k e ar)::mf fn w q es ar k e false) (mf fn w q es ar k e true) []:=by
 refine⟨?_,rfl,?_,rfl,rfl,rfl,trivial⟩<;>repeat' (first|exact trivial|exact rfl|exact List.Perm.refl _|(intro i hi;exact⟨rfl,rfl⟩)|(intro v m g h;exact h)|refine n4 (List.forall_mem_cons.2 ⟨⟨rfl,rfl⟩,List.forall_mem_cons.2 ⟨⟨rfl,rfl⟩,List.forall_mem_cons.2 ⟨⟨rfl,rfl⟩,List.forall_mem_cons.2 ⟨⟨rfl,rfl⟩,List.forall_mem_cons.2 ⟨⟨rfl,rfl⟩,λp hp=>by cases hp⟩⟩⟩⟩⟩) (λt v h=>ln h)|refine And.intro ?_ ?_)
theorem abm {l:List Bool}(bi:nU oO l=true){a b:Nat}(hb:b∈oO a)(h:l.getD b false=false):l.getD a false=false:=by
 cases h7:l.getD a false with
 |false=>rfl
 |true=>have:=re (bf:=oO) bi h7 hb;rw[this] at h;cases h
theorem ab6 (hG:∀j,15≤j→G.ρ j=none)(hi:k<8)(he:vK e)(h0:iu (ar k))(h1:iu (ar (k+1)))(h2:iu (kN e (ar (k+1))))(wm:∀j,j<9→sj j=if j=k then gj (ar k) (kN e (ar (k+1))) else ar j)
  (hK:K .normal ⟨q8 k e,[],L3 .busy fn w q es sj,16,[]⟩):ie (X9 G r) FT 15 (Array.replicate 15 false) ⟨q8 k e,[],L3 .busy fn w q es ar,16,[]⟩ K:=by
 refine zK (D:=[]) (lI G r) 13 Uj (λi=>i) (qj 13) (oC k e ar) (q8 k e) (λl=>mf fn w q es ar k e (l.getD 11 false)) (λ_=>16) oO 2 15 hG (λa ha j hj=>by have:=T3 a j hj;omega) (Cd aaE) ?_ ?_ ?_ (List.replicate 13 false) rfl (by decide)
 ·repeat' (first|exact trivial|exact⟨rfl,rfl⟩|refine And.intro ?_ ?_)
 ·intro j hj l iF hf ha bi
  have KC:j≠11→(l.set j true).getD 11 false=l.getD 11 false:=Go.X.W.dh
  have ee:=v_ (l:=l) (i:=j) (by omega)
  have fj:=v9 (l:=l) (i:=j) (by omega) hf
  by_cases yq:j=10
  ·subst yq
   have f11:=abm bi (show 10∈oO 11 by decide) fj
   rw[KC (by decide),f11]
   obtain⟨o,q1,q2,q3⟩:=ac7 (G:=G) (r:=r) (fn:=fn) (w:=w) (q:=q) (es:=es) he h1
   exact⟨o,q1,q2,.inr ⟨λj=>j,_,_,16,aef,(Ft (ar:=ar)).1,λk hk _=>Ft.2 k hk,q3⟩⟩
  by_cases O8:j=11
  ·subst O8
   rw[ee,fj]
   obtain⟨o,q1,q2,q3⟩:=ac8 (G:=G) (r:=r) (fn:=fn) (w:=w) (q:=q) (es:=es) (e:=e) (ar:=ar) (k:=k)
   exact⟨o,q1,q2,.inr ⟨GB,_,_,17,aeh,(QG (ar:=ar)).1,λk hk bA=>QG.2 k hk bA,q3⟩⟩
  by_cases XV:j=12
  ·subst XV
   have f11:l.getD 11 false=true:=ha 11 (by decide)
   rw[KC (by decide),f11]
   obtain⟨o,q1,q2,q3⟩:=ac9 (G:=G) (r:=r) (fn:=fn) (w:=w) (q:=q) (es:=es) h0 h2
   exact⟨o,q1,q2,.inr ⟨λj=>j,_,_,16,aeg,(Ft (ar:=ar)).1,λk hk _=>Ft.2 k hk,q3⟩⟩
  rw[KC O8]
  obtain⟨o,q1,q2,q3⟩:=ac6 (G:=G) (r:=r) (fn:=fn) (w:=w) (q:=q) (es:=es) (e:=e) (ar:=ar) hi j (by omega) (l.getD 11 false)
  exact⟨o,q1,q2,.inl q3⟩
 ·intro l hl he
  obtain rfl:=sI hl he
  refine aJ [13] (lI G r) (by kernel_rfl) (by decide) ⟨?_,trivial⟩
  refine AL 7 9 2 (k:Int) (lI G r) bm rfl rfl rfl rfl rfl rfl rfl rfl rfl rfl rfl rfl ⟨by omega,by omega⟩ ?_
  refine aJ [14] (lI G r) (by kernel_rfl) (by decide) ⟨?_,trivial⟩
  refine oZ 7 85 2 9 (k:Int) 0 (λj=>bg (ar j)) (λj=>bg (sj j)) (bg (gj (ar k) (kN e (ar (k+1))))) (lI G r) bm rfl rfl rfl rfl rfl rfl rfl rfl rfl rfl ⟨by omega,by omega⟩ (Nat.le_refl 2) (λj hj=>?_) ?_
  ·show bg (sj j)=_
   rw[wm j hj,show(k:Int).toNat=k by omega]
   split
   ·rfl
   ·rfl
  refine ij 15 (λj=>j) hG ?_ (j6 (by kernel_rfl) hK)
  refine⟨?_,?_,rfl,rfl,rfl,rfl,trivial⟩
  ·cases e<;>exact Q2
  ·repeat' (first|exact trivial|exact rfl|exact List.Perm.refl _|(intro i hi;exact⟨rfl,rfl⟩)|(intro v m g h;exact h)|refine n4 (List.forall_mem_cons.2 ⟨⟨rfl,rfl⟩,List.forall_mem_cons.2 ⟨⟨rfl,rfl⟩,List.forall_mem_cons.2 ⟨⟨rfl,rfl⟩,List.forall_mem_cons.2 ⟨⟨rfl,rfl⟩,List.forall_mem_cons.2 ⟨⟨rfl,rfl⟩,λp hp=>by cases hp⟩⟩⟩⟩⟩) (λt v h=>ln h)|refine And.intro ?_ ?_)
end
def P3 (w:Wd)(i:Nat):List (Nat × FE):=[(0,⟨[],.fy 14⟩),(1,⟨[],.sp 8 0⟩),(2,⟨[],.sp 10 0⟩),(3,⟨[],.sp 9 0⟩),(10,⟨[],.sl 1⟩),(11,⟨[],.si .i64 (w.n:Int)⟩),(12,⟨[],.si .i64 (i:Int)⟩)]
section
variable {G:cp}{w:Wd}{q:Qn}{es:List (Qn × (Nat→Sp))}{K:Ex→St→Prop}
theorem UW (hG:∀j,4≤j→G.ρ j=none)(hw:eb w=true)(hq:kc 0 (q.lo,q.hi))(hr:q.reads<256)
  (hK:∀fn,K .normal ⟨(48,⟨[],ym⟩)::F3,[],(14,.dead)::L3 .ready fn w q es (iN w q w.n),15,[(mD,[.sp 13 0]),(mD,[.sp 11 0])]⟩) :
  aX (sg G) cB ⟨(48,⟨[],ym⟩)::F3,[],E3 q++A2 w q es (iN w q 0),13,[(mD,[.sp 11 0])]⟩ K:=by
 obtain⟨_,hu,hn,uz⟩:=lf hw
 refine lK (ox G) rfl rfl rfl MM ?_
 intro fn
 refine cT ah.ok Tryz.func103 (c:=code Tryz.f103) rfl (Nat.le_of_ble_eq_true rfl) λG2 b_=>?_
 have eM:True:=trivial
 refine cm (ah.ok _ _ _) 15 (λx:{i:Nat // i≤w.n}=>⟨P3 w x.1,[],L3 .ready fn w q es (iN w q x.1),15,[]⟩) (λx=>w.n-x.1) b_ ⟨0,Nat.zero_le _⟩ (λj=>j) ?_ ?_
 ·refine⟨?_,?_,rfl,rfl,rfl,rfl,trivial⟩<;>repeat' (first|exact trivial|exact rfl|exact eM|exact List.Perm.refl _|(intro i hi;exact⟨rfl,rfl⟩)|(intro v m g h;exact h)|refine n4 (List.forall_mem_cons.2 ⟨⟨rfl,rfl⟩,List.forall_mem_cons.2 ⟨⟨rfl,rfl⟩,List.forall_mem_cons.2 ⟨⟨rfl,rfl⟩,List.forall_mem_cons.2 ⟨⟨rfl,rfl⟩,List.forall_mem_cons.2 ⟨⟨rfl,rfl⟩,λp hp=>by cases hp⟩⟩⟩⟩⟩) (λt v h=>ln h)|refine And.intro ?_ ?_)
 clear eM
 rintro⟨i,hi⟩
 have hi:i≤w.n:=hi
 refine Br.mk (λh=>?_) (λh=>?_)
 ·have h:(i:Int)<(w.n:Int):=of_decide_eq_true h
  refine Br.mk (λ_=>?_) (λh=>by cases h)
  refine aa.mk (show ae .i64 ((w.n:Int)-1) from⟨by omega,by omega⟩) (aa.mk (show ae .i64 ((w.n:Int)-1-(i:Int)) from⟨by omega,by omega⟩) ?_)
  obtain⟨k,hk⟩:∃k,w.n-1-i=k:=⟨_,rfl⟩
  have eM:(w.n:Int)-1-(i:Int)=(k:Int):=by omega
  refine av (ah.ok _ _ _) aj rfl rfl rfl rfl ⟨Dx,?_⟩
  refine aO [.sp 3 0,.si .i64 (k:Int),.si .u64 (q.reads:Int)] (bp w (bK es)) 4 (λj=>j) (by repeat' (first|exact trivial|exact rfl|exact eM|refine And.intro ?_ ?_)) rfl Q4 rfl rfl ?_
  refine So hw (by omega) hr λe he=>?_
  have yA:ri e:=by rw[he];exact vJ hw q (by omega)
  have e0:iN w q i k=gD w q k:=by unfold iN;rw[if_pos (by omega),if_neg (by omega)]
  have e1:iN w q i (k+1)=mG w q i:=by unfold iN;rw[if_pos (by omega),if_pos (by omega),show w.n-(k+1)=i by omega]
  have hb:=MQ hw hq i hi
  have uD:iu (iN w q i k):=by rw[e0];exact(vZ hw hq k (by omega)).iu (by omega)
  have c9:iu (iN w q i (k+1)):=by rw[e1];exact hb.iu (by omega)
  have bA:iu (kN e (iN w q i (k+1))):=by rw[e1];exact(MP yA (by omega) hb).iu (by omega)
  have wm:∀j,j<9→iN w q (i+1) j=if j=k then gj (iN w q i k) (kN e (iN w q i (k+1))) else iN w q i j:=λj _=>by
   by_cases h1:j=k
   ·subst h1
    rw[if_pos rfl,e0,e1,he]
    unfold iN
    rw[if_pos (by omega),if_pos (by omega),show w.n-j=i+1 by omega]
    show gj (gD w q (w.n-(i+1))) _=_
    rw[show w.n-(i+1)=j by omega]
    rfl
   ·rw[if_neg h1]
    unfold iN
    by_cases h2:j≤w.n
    ·rw[if_pos h2,if_pos h2]
     by_cases h3:w.n-j≤i
     ·rw[if_pos h3,if_pos (by omega)]
     ·rw[if_neg h3,if_neg (by omega)]
    ·rw[if_neg h2,if_neg h2]
  have Ja:=yA.ok
  clear he yA
  cases e
  all_goals
   refine⟨rfl,Q1,Q0,?_⟩
   refine vT 14 ah.ok (ah.ok _ _ _) aj rfl rfl rfl rfl rfl rfl rfl rfl rfl (by decide) ?_
   intro G3 r pc
   refine lT bP ?_
   refine ij (af:=⟨q8 k _,[],L3 .busy fn w q es (iN w q i),16,[]⟩) 15 (λj=>j) pc ?_ (ab6 (r:=r) pc (by omega) Ja uD c9 bA wm ?_)
   ·refine⟨?_,?_,rfl,rfl,rfl,rfl,trivial⟩<;>repeat' (first|exact trivial|exact rfl|exact eM|exact List.Perm.refl _|(intro i hi;exact⟨rfl,rfl⟩)|(intro v m g h;exact h)|refine n4 (List.forall_mem_cons.2 ⟨⟨rfl,rfl⟩,List.forall_mem_cons.2 ⟨⟨rfl,rfl⟩,List.forall_mem_cons.2 ⟨⟨rfl,rfl⟩,List.forall_mem_cons.2 ⟨⟨rfl,rfl⟩,List.forall_mem_cons.2 ⟨⟨rfl,rfl⟩,λp hp=>by cases hp⟩⟩⟩⟩⟩) (λt v h=>ln h)|refine And.intro ?_ ?_)
   refine Br.mk (λh=>by cases h) (λ_=>?_)
   refine aa.mk (show ae .i64 ((i:Int)+1) from⟨by omega,by omega⟩) ⟨⟨i+1,by omega⟩,(λj=>j),?_,by show w.n-(i+1)<w.n-i;omega⟩
   refine⟨?_,?_,rfl,rfl,rfl,rfl,trivial⟩<;>repeat' (first|exact trivial|exact rfl|exact eM|exact List.Perm.refl _|(intro i hi;exact⟨rfl,rfl⟩)|(intro v m g h;exact h)|refine n4 (List.forall_mem_cons.2 ⟨⟨rfl,rfl⟩,List.forall_mem_cons.2 ⟨⟨rfl,rfl⟩,List.forall_mem_cons.2 ⟨⟨rfl,rfl⟩,List.forall_mem_cons.2 ⟨⟨rfl,rfl⟩,List.forall_mem_cons.2 ⟨⟨rfl,rfl⟩,λp hp=>by cases hp⟩⟩⟩⟩⟩) (λt v h=>ln h)|refine And.intro ?_ ?_)
 ·have h:¬(i:Int)<(w.n:Int):=of_decide_eq_false h
  obtain rfl:i=w.n:=by omega
  exact hK fn
end
noncomputable def KJ:Array Oper:=tB 15 (code Tryz.f33)
def Qw (j:Nat):Option Nat:=if j<6 then some j else none
def xF:Nat→List Nat
 |1=>[0]
 |2=>[1]
 |3=>[2]
 |_=>[]
theorem T4:∀i,∀j∈xF i,j<i:=by
 intro i j hj
 unfold xF at hj
 split at hj<;>simp at hj<;>omega
theorem aaF:xm KJ 7 6 Qw (λi=>i) xF z1=true:=by kernel_rfl
noncomputable def Uk:List Bool→Array Bool:=iz 7 Qw z1
def Gt (q:Qn)(ar:Nat→Sp):Nat→List (Nat × FE)
 |0=>[(65,⟨[],.sp 3 0⟩)]
 |1=>[(66,⟨[],.sp 3 0⟩)]
 |2=>[(67,⟨[],.sp 3 5⟩)]
 |3=>[(68,⟨[],.sm 2⟩)]
 |4=>[(69,⟨[],dP q⟩)]
 |5=>[(70,⟨[],dB ar⟩)]
 |_=>[]
def xy (w:Wd)(q:Qn)(es:List (Qn × (Nat→Sp)))(ar:Nat→Sp):List (Nat × HB):=(13,.eh)::(11,.eh)::A2 w q es ar
def xx:List fE:=[(mD,[.sp 13 0]),(mD,[.sp 11 0])]
section
variable {G:cp}{w:Wd}{q:Qn}{es:List (Qn × (Nat→Sp))}{ar:Nat→Sp}{K:Ex→St→Prop}
def TR (G:cp)(w:Wd)(q:Qn)(es:List (Qn × (Nat→Sp)))(ar:Nat→Sp)(j:Nat):Prop:=∃o,KJ[j]?=some o∧o.guard=none∧∀(tail:List (Nat × FE)) (Q:Exit→Act→World→Prop) (Kn:St→Prop),dm (sg G) Q Kn (λ_ _=>False)→Kn ⟨Gt q ar j++((xF j).flatMap (Gt q ar)++(F2++tail)),[],xy w q es ar,15,xx⟩ →
 c7 (sg G) [o] Q Kn (λ_ _=>False) 0 [o] ⟨(xF j).flatMap (Gt q ar)++(F2++tail),[],xy w q es ar,15,xx⟩
theorem ac' (j:Nat)(hj:j<6):TR G w q es ar j:=by
 rcases(show j=5∨j=0∨j=1∨j=2∨j=3∨j=4 by omega) with rfl|rfl|rfl|rfl|rfl|rfl
 ·exact⟨_,rfl,rfl,λtail Q Kn hC hK=>N' 7 9 2 (ox G) hC rfl rfl rfl rfl rfl rfl rfl rfl (by decide) rfl hK⟩
 all_goals exact⟨_,rfl,rfl,λtail Q Kn hC hK=>hK⟩
theorem ab7 (hG:∀j,4≤j→G.ρ j=none)(hK:K .normal ⟨F2,[],xy w q (bN es q ar) ar,15,xx⟩):ie (sg G) KJ 7 (Array.replicate 7 false) ⟨F2,[],xy w q es ar,15,xx⟩ K:=by
 refine zK (D:=xx) (ox G) 6 Uk (λi=>i) (qj 6) (Gt q ar) F2 (λ_=>xy w q es ar) (λ_=>15) xF 1 4 hG (λa ha j hj=>by have:=T4 a j hj;omega) (Cd aaF) ?_ ?_ ?_ (List.replicate 6 false) rfl (by decide)
 ·repeat' (first|exact trivial|exact⟨rfl,rfl⟩|refine And.intro ?_ ?_)
 ·intro j hj l iF hf ha bi
  obtain⟨o,q1,q2,q3⟩:=ac' (G:=G) (w:=w) (q:=q) (es:=es) (ar:=ar) j hj
  exact⟨o,q1,q2,.inl q3⟩
 ·intro l hl he
  obtain rfl:=sI hl he
  refine aJ [6] (ox G) (by kernel_rfl) (by decide) ⟨?_,trivial⟩
  refine mS dP dB es q ar (bN es q ar) rfl 2 (ox G) bm rfl (.inl rfl) rfl rfl rfl rfl K1 HX rfl rfl rfl rfl ?_
  intro _
  refine ij 4 (λj=>j) hG ?_ (j6 (by kernel_rfl) hK)
  refine⟨?_,?_,rfl,rfl,rfl,rfl,?_⟩<;>exact Q4
end
theorem Q8 {κ ν:Type} [DecidableEq κ]{k k':κ}{v:ν}:∀{l:List (κ × ν)},br (bN l k v) k'=if k=k' then some v else br l k'
 |[]=>by simp[bN,br]
 |p::l=>by
  have ih:=Q8 (k:=k) (k':=k') (v:=v) (l:=l)
  by_cases h:p.1=k
  ·subst h
   by_cases h2:p.1=k'<;>simp[bN,br,h2]
  ·by_cases h2:p.1=k'
   ·subst h2
    simp[bN,br,h,Ne.symm h]
   ·by_cases h3:k=k'
    ·subst h3;simp[bN,br,h,ih]
    ·simp[bN,br,h,h2,h3,ih]
theorem dV.aq {w:Wd}{es:List (Qn × (Nat→Sp))}(h:dV w es)(q:Qn):dV w (bN es q (aF w q)):=by
 intro k lv e
 rw[Q8] at e
 split at e
 ·rename_i h1
  cases e;subst h1;rfl
 ·exact h k lv e
theorem fK:Body P 33:=aw Tryz.func33 (c:=code Tryz.f33) rfl (by decide)
section
variable {w:Wd}{q:Qn}{es:List (Qn × (Nat→Sp))}{Rv:SV→List (Nat × HB)→Nat→Prop}{Rp:List PanicEntry→List (Nat × HB)→Nat→Prop}
theorem ga (hw:eb w=true)(hq:kc 0 (q.lo,q.hi))(hr:q.reads<256)(eM:dV w es)(aY:∀a9,dV w a9→Rv (dB (aF w q)) (bp w (bK a9)) 4):bG P 33 [.sp 3 0,dP q] (bp w (bK es)) 4 Rv Rp:=by
 refine Vq (ι:={a9 // dV w a9}) ah.ok Tryz.func33 (c:=code Tryz.f33) rfl (Nat.le_of_ble_eq_true rfl) (λ_=>dB (aF w q)) (λx=>bp w (bK x.1)) 4 (λG hG=>?_) (λx=>aY x.1 x.2)
 refine(show aX _ _ _ _ from ?_)
 refine lT bP ?_
 refine ij (af:=⟨b1,[],H1 w q es,6,[]⟩) 4 (λj=>j) hG (by
  refine⟨?_,?_,rfl,rfl,rfl,rfl,trivial⟩<;>exact Q4) ?_
 cases hl:br es q with
 |some lv =>
  obtain rfl:=eM q lv hl
  refine R7 (f:=true) (lv:=aF w q) hG (.inl ⟨rfl,hl⟩) ?_
  refine Br.mk (λ_=>?_) (λh=>by cases h)
  refine⟨⟨es,eM⟩,(λj=>j),?_,?_,rfl,rfl,rfl,rfl⟩<;>exact Q4
 |none =>
  refine R7 (f:=false) (lv:=zl) hG (.inr ⟨rfl,hl,rfl⟩) ?_
  refine Br.mk (λh=>by cases h) (λ_=>?_)
  refine aa.mk ⟨by decide,by decide⟩ ?_
  refine av (ox G) aj rfl rfl rfl rfl ⟨Dw,?_⟩
  refine cT ah.ok Tryz.func73 (c:=code Tryz.f73) rfl (Nat.le_of_ble_eq_true rfl) λG2 b_=>?_
  refine(show aX _ _ _ _ from ?_)
  refine acR 7 7 9 2 (λj=>bg (mF w q 0 j)) ⟨rfl,rfl,by decide,by decide,λi hi=>?_,?_⟩
  ·rcases(show i=0∨i=1∨i=2∨i=3∨i=4∨i=5∨i=6∨i=7∨i=8 by omega) with rfl|rfl|rfl|rfl|rfl|rfl|rfl|rfl|rfl<;>rfl
  refine kF (af:=⟨(30,⟨[],ym⟩)::F2,[],E2 q false++A2 w q es (mF w q 0),11,[]⟩) 4 (λj=>match j with|7=>11|j=>j) hG (by
   refine⟨?_,?_,rfl,rfl,rfl,rfl,trivial⟩<;>exact Q4) ?_
  refine W5 hG hw hq hr λfn=>?_
  refine av (ox G) aj rfl rfl rfl rfl ⟨Dw,?_⟩
  refine cT ah.ok Tryz.func73 (c:=code Tryz.f73) rfl (Nat.le_of_ble_eq_true rfl) λG3 pc=>?_
  refine(show aX _ _ _ _ from ?_)
  refine kF (af:=⟨(48,⟨[],ym⟩)::F3,[],E3 q++A2 w q es (iN w q 0),13,[(mD,[.sp 11 0])]⟩) 4 (λj=>match j with|8=>14|9=>15|10=>16|12=>13|j=>j) hG (by
   refine⟨?_,?_,rfl,rfl,rfl,rfl,?_⟩<;>repeat' (first|exact trivial|exact rfl|exact List.Perm.refl _|(intro i hi;exact⟨(congrFun (congrArg (λf=>λj=>bg (f j)) (Uo w q).symm) i),rfl⟩)|(intro i hi;exact⟨rfl,rfl⟩)|(intro v m g h;exact h)|refine And.intro ?_ ?_)) ?_
  refine UW hG hw hq hr λfn=>?_
  refine(show aX _ _ _ _ from ?_)
  refine lT bP ?_
  refine ij (af:=⟨F2,[],xy w q es (aF w q),15,xx⟩) 4 (λj=>j) hG ?_ (ab7 (ar:=aF w q) hG ?_)
  ·refine⟨?_,?_,rfl,rfl,rfl,rfl,?_⟩<;>repeat' (first|exact trivial|exact rfl|exact List.Perm.refl _|(intro i hi;exact⟨(congrFun (congrArg (λf=>λj=>bg (f j)) (Un w q)) i),rfl⟩)|(intro i hi;exact⟨rfl,rfl⟩)|(intro v m g h;exact h)|refine And.intro ?_ ?_)
  refine N' 7 9 2 (ox G) aj rfl rfl rfl rfl rfl rfl rfl rfl (by decide) rfl ?_
  refine⟨⟨bN es q (aF w q),eM.aq q⟩,(λj=>j),?_,?_,rfl,rfl,rfl,rfl⟩<;>exact Q4
end
end Go.X.Wr
namespace Go.X
open Go
theorem Hz {P:Program}{T:cf}{C:Nat→Option Ct}(hX:∀G r nt,(⟨P,T,C,G,r,nt⟩:Cx).Ok){na cG aL:Nat}(hA:r8 P na cG aL){n:Nat}{fn:Func}{c:Code}(hf:P.funcs[n]?=some fn)(hb:fn.body=some c)
  {l:List SV} (hlen:l.length≤fn.ntmps) {H:List (Nat × HB)} {nx:Nat} {Rv:SV→List (Nat × HB)→Nat→Prop} {Rp:List PanicEntry→List (Nat × HB)→Nat→Prop}
  (h:∀G:cp,(∀j,nx≤j→G.ρ j=none)→exec ⟨P,T,C,G,none,fn.ntmps⟩ c (start l H nx) (zA ⟨P,T,C,G,none,fn.ntmps⟩ na cG aL fn.results.toList (λv st=>Rv v st.H st.nx))) :
  bG P n l H nx Rv Rp:=by
 intro ρ w aM hm aU hd
 have gr:=Nb (X:=⟨P,T,C,⟨w,Own ρ (ab H),ρ,Fz (ab H)⟩,none,fn.ntmps⟩) (hX _ _ _) rfl hA hf hb rfl hd hlen hm rfl aU (h _ aU)
 refine gr.mono ?_
 rintro e w' (⟨v,st,ρ',u,rfl,hv,dc,hr⟩|⟨ch,st,ρ',rfl,dc,hr⟩)
 ·exact .inl ⟨v,st.H,st.nx,ρ',u,rfl,hv,dc.hm,dc.kp,dc.nx,hr⟩
 ·exact hr.elim
theorem Ad {ι κ:Type}{P:Program}{n:Nat}{l:List SV}
  {H:List (Nat × HB)} {nx:Nat} {Rv:SV→List (Nat × HB)→Nat→Prop} {Rp:List PanicEntry→List (Nat × HB)→Nat→Prop} (v':ι→SV) (H':ι→List (Nat × HB)) (aA:Nat) (qf:κ→List PanicEntry) (Hp:κ→List (Nat × HB)) (np:Nat)
  (h:bG P n l H nx (λv jM jV=>∃x s,oH nx v jM jV (v' x) (H' x) aA s) (λch jM jV=>∃y s,ch=qf y∧oH nx (.bn []) jM jV (.bn []) (Hp y) np s))
  (hk:∀x,Rv (v' x) (H' x) aA) (hp:∀y,Rp (qf y) (Hp y) np):bG P n l H nx Rv Rp:=by
 intro ρ w aM hm aU hd
 refine(h ρ w aM hm aU hd).mono ?_
 rintro e w' (⟨v,jM,jV,fo,u,rfl,h1,h2,h3,h4,x,s,hs⟩|⟨ch,jM,jV,fo,rfl,h2,h3,h4,y,s,rfl,hs⟩)
 ·have ck:Mod ⟨P,λ_=>none,λ_=>none,⟨w,Own ρ (ab H),ρ,Fz (ab H)⟩,none,0⟩ fo ⟨[],[],jM,jV,[]⟩ { tmps:=#[],defers:=[] } w':={
   fm:=λt e hf=>by cases hf
   gs:=λt e hf=>by cases hf
   df:=trivial
   hm:=h2
   kp:=h3
   nx:=h4
   sz:=rfl }
  have cI:=ck.oz (n0:=nx) (s:=s) (af:=⟨[],[],H' x,aA,[]⟩) ⟨trivial,hs.H,hs.inj,hs.fix,hs.ge,rfl,trivial⟩ aU
  exact .inl ⟨v' x,H' x,aA,_,u,rfl,by rw[ui _ hs.vi,←tR _ _ hs.v];exact h1,cI.hm,cI.kp,cI.nx,hk x⟩
 ·have ck:Mod ⟨P,λ_=>none,λ_=>none,⟨w,Own ρ (ab H),ρ,Fz (ab H)⟩,none,0⟩ fo ⟨[],[],jM,jV,[]⟩ { tmps:=#[],defers:=[] } w':={
   fm:=λt e hf=>by cases hf
   gs:=λt e hf=>by cases hf
   df:=trivial
   hm:=h2
   kp:=h3
   nx:=h4
   sz:=rfl }
  have cI:=ck.oz (n0:=nx) (s:=s) (af:=⟨[],[],Hp y,np,[]⟩) ⟨trivial,hs.H,hs.inj,hs.fix,hs.ge,rfl,trivial⟩ aU
  exact .inr ⟨qf y,Hp y,np,_,rfl,cI.hm,cI.kp,cI.nx,hp y⟩
end Go.X
namespace Go.X.Wr
open Go Go.Proofs Go.X
theorem xK:Body P 71:=aw Tryz.func71 (c:=code Tryz.f71) rfl (by decide)
theorem tV:Body P 32:=aw Tryz.func32 (c:=code Tryz.f32) rfl (by decide)
section
variable {w:Wd}{q:Qn}{es:List (Qn × (Nat→Sp))}{Rv:SV→List (Nat × HB)→Nat→Prop}{Rp:List PanicEntry→List (Nat × HB)→Nat→Prop}
theorem zf (hw:eb w=true)(hq:kc 0 (q.lo,q.hi))(hr:q.reads<256)(eM:dV w es)(aY:∀a9,dV w a9→Rv (.sb (decide ((aF w q 0).1≤(aF w q 0).2))) (bp w (bK a9)) 4):bG P 71 [.sp 3 0,dP q] (bp w (bK es)) 4 Rv Rp:=by
 have g:=A4 ah
 refine eI (ι:={a9 // dV w a9}) g.ok Tryz.func71 (c:=code Tryz.f71) rfl (Nat.le_of_ble_eq_true rfl) (λ_=>.sb (decide ((aF w q 0).1≤(aF w q 0).2))) (λx=>bp w (bK x.1)) 4 (λG hG=>?_) (λx=>aY x.1 x.2)
 refine av (g.ok _ _ _) aj rfl rfl rfl rfl ⟨fK,?_⟩
 refine aO [.sp 3 0,dP q] (bp w (bK es)) 4 (λj=>j) Q2 rfl Q4 rfl rfl ?_
 refine ga hw hq hr eM λa9 bW=>⟨rfl,Q1,Q0,?_⟩
 refine aa.mk ⟨by decide,by decide⟩ ?_
 refine⟨⟨a9,bW⟩,(λj=>j),?_,?_,rfl,rfl,rfl,rfl⟩<;>exact Q4
def cH (w:Wd):Bool:=decide ((aF w (bj w) 0).1≤(aF w (bj w) 0).2)
theorem KZ (hw:eb w=true):kc 0 ((bj w).lo,(bj w).hi):=by
 obtain⟨h1,_⟩:=lf hw
 refine⟨⟨?_,?_⟩,?_,?_⟩<;>simp only[bj]<;>omega
theorem RZ (hw:eb w=true):(bj w).reads<256:=K2 (w:=w) (i:=w.n) (lf hw).2.2.1
theorem vb (hw:eb w=true)(eM:dV w es)(aY:cH w=true→∀a9,dV w a9→Rv (dB (aF w (bj w))) (bp w (bK a9)) 4)(EC:cH w=false→∀a9,dV w a9→Rp (iX 10) (bp w (bK a9)) 4):bG P 32 [.sp 3 0] (bp w (bK es)) 4 Rv Rp:=by
 have g:=Ix ah
 refine Ad (ι:={a9 // cH w=true∧dV w a9}) (κ:={a9 // cH w=false∧dV w a9}) (λ_=>dB (aF w (bj w))) (λx=>bp w (bK x.1)) 4 (λ_=>iX 10) (λx=>bp w (bK x.1)) 4 (cT g.ok Tryz.func32 (c:=code Tryz.f32) rfl (Nat.le_of_ble_eq_true rfl) (λG hG=>?_)) (λx=>aY x.2.1 x.1 x.2.2) (λx=>EC x.2.1 x.1 x.2.2)
 refine av (g.ok _ _ _) aj rfl rfl rfl rfl ⟨ML,?_⟩
 refine aO [.sp 3 0] (bp w (bK es)) 4 (λj=>j) Q2 rfl Q4 rfl rfl ?_
 refine Sn hw ⟨rfl,Q1,Q0,?_⟩
 refine av (g.ok _ _ _) aj rfl rfl rfl rfl ⟨xK,?_⟩
 refine aO [.sp 3 0,dP (bj w)] (bp w (bK es)) 4 (λj=>j) Q2 rfl Q4 rfl rfl ?_
 refine zf hw (KZ hw) (RZ hw) eM λa9 bW=>⟨rfl,Q1,Q0,?_⟩
 refine Br.mk (λhc=>?_) (λhc=>?_)
 ·have hc:(!cH w)=true:=hc
  have hc:cH w=false:=by simpa using hc
  refine⟨⟨a9,hc,bW⟩,(λj=>j),rfl,?_,?_,rfl,rfl,rfl,rfl⟩<;>exact Q4
 have hc:(!cH w)=false:=hc
 have hc:cH w=true:=by simpa using hc
 refine av (g.ok _ _ _) aj rfl rfl rfl rfl ⟨ML,?_⟩
 refine aO [.sp 3 0] (bp w (bK a9)) 4 (λj=>j) Q2 rfl Q4 rfl rfl ?_
 refine Sn hw ⟨rfl,Q1,Q0,?_⟩
 refine av (g.ok _ _ _) aj rfl rfl rfl rfl ⟨fK,?_⟩
 refine aO [.sp 3 0,dP (bj w)] (bp w (bK a9)) 4 (λj=>j) Q2 rfl Q4 rfl rfl ?_
 refine ga hw (KZ hw) (RZ hw) bW λeJ bA=>⟨rfl,Q1,Q0,?_⟩
 refine⟨⟨eJ,hc,bA⟩,(λj=>j),?_,?_,rfl,rfl,rfl,rfl⟩<;>exact Q4
end
end Go.X.Wr
namespace Go.X
open Go
def yk (ds:List Nat):List (Nat × FE)→List (Nat × FE)
 |[]=>[]
 |(t,e)::r=>match ds.any (Nat.beq t) with
  |true=>yk ds r
  |false=>(match e.gp with
   |[]=>(t,e)::yk ds r
   |_=>[])
theorem AP {ds:List Nat}:∀{F:List (Nat × FE)} {t:Nat} {e:FE},findF (yk ds F) t=some e→findF F t=some e∧e.gp=[]∧t ∉ ds
 |[],t,e,h=>by cases h
 |(s,x)::r,t,e,h=>by
  unfold yk at h
  split at h
  ·rename_i h1
   have ih:=AP h
   refine⟨?_,ih.2⟩
   simp only[findF]
   split
   ·rename_i h2
    have h2:s=t:=by simpa using h2
    subst h2
    have:s∈ds:=by simpa using h1
    exact absurd this ih.2.2
   ·exact ih.1
  ·rename_i h1
   split at h
   ·rename_i h3
    simp only[findF] at h ⊢
    split at h
    ·rename_i h2
     have qp:s=t:=by simpa using h2
     cases h
     rw[if_pos h2]
     refine⟨rfl,h3,?_⟩
     intro hm
     have h1:∀x∈ds,¬s=x:=by simpa using h1
     exact h1 t hm qp
    ·rename_i h2
     rw[if_neg h2]
     exact AP h
   ·cases h
def dstsOf (ops:Array Oper):List Nat:=ops.toList.filterMap (·.dst)
def Qp (X:Cx)(ops:Array Oper)(K:Ex→St→Prop):Exit→Act→World→Prop:=λe a w=>match e with
 |.panic ch=>∃st ρ,(∀t e,findF st.F t=some e→e.gp=[]∧t ∉ dstsOf ops)∧Mod X ρ st a w∧K (.panic ch) st
 |e=>sf X K e a w
structure vg (X:Cx) (ops:Array Oper) (fuel:Nat) (listed:Array Bool) (st:St) (K:Ex→St→Prop):Prop where
 h:∀ρ a w,Mod X ρ st a w→wpAnyIn (FW X.r) 0 X.P .any ops (Qp X ops K) fuel listed a w
theorem MA {X:Cx}{st:St}{K:Ex→St→Prop}{id:Nat}{ops:Array Oper}(hm:X.P.follows .mixedOrders=true)(h:vg X ops ops.size (Array.replicate ops.size false) st K):aX X (.region id ops true) st K:=by
 intro ρ a w cL
 have wI:Mod X ρ st a { w with drawn:=w.drawn+1 }:={
  fm:=cL.fm,gs:=cL.gs,df:=cL.df,hm:=cL.hm.world (Nat.le_refl _) (λ_ _=>rfl),kp:=cL.kp.world (Nat.le_refl _) (λ_ _=>rfl),nx:=cL.nx,sz:=cL.sz }
 refine wpIn_mono (Q:=Qp X ops K) (wpIn_region_any hm (h.h ρ a _ wI)) ?_
 intro e a' w' hq
 cases e with
 |panic ch=>obtain⟨af,ρ',_,h2,h3⟩:=hq;exact⟨.panic ch,af,ρ',rfl,h2,h3⟩
 |_=>exact hq
theorem vq {X:Cx}{st:St}{K:Ex→St→Prop}{ops:Array Oper}{fuel:Nat}{listed:Array Bool}(hr:Region.ready .any ops listed=[])(h:K .normal st):vg X ops fuel listed st K :=
 ⟨fun ρ a w hm=>wpAnyIn_done hr ⟨.normal,st,ρ,rfl,hm,h⟩ fuel⟩
theorem XJ {a:Act}{d t:Nat}{v:Value}(h:t≠d):(a.put (some d) v).tmps[t]?=a.tmps[t]?:=by
 show(a.tmps.setIfInBounds d v)[t]?=_
 rw[Array.getElem?_setIfInBounds]
 rw[if_neg (Ne.symm h)]
theorem TQ {X:Cx}{ops:Array Oper}{K:Ex→St→Prop}{ch:List PanicEntry}{d:Nat}(hd:d∈dstsOf ops){v:Value}{a:Act}{w:World}(h:Qp X ops K (.panic ch) (a.put (some d) v) w):Qp X ops K (.panic ch) a w:=by
 obtain⟨st,ρ,h1,h2,h3⟩:=h
 refine⟨st,ρ,h1,?_,h3⟩
 exact{
  fm:=λt e he=>by
   obtain⟨g1,g2⟩:=h1 t e he
   have hk:=h2.fm t e he
   have aV:t≠d:=by rintro rfl;exact g2 hd
   rw[XJ aV] at hk
   have hs:∀a:Act,bu a e.gp:=λa x hx=>by rw[g1] at hx;cases hx
   exact⟨λ_=>hk.1 (hs _),λhn=>absurd (hs _) hn⟩
  gs:=h2.gs
  df:=h2.df
  hm:=h2.hm
  kp:=h2.kp
  nx:=h2.nx
  sz:=by have:=h2.sz;simpa [Act.put] using this }
theorem oP {X:Cx}{st:St}{K:Ex→St→Prop}(i:Nat){d:Nat}{o:Oper}{pre:Option Prop}{v:SV}{ops:Array Oper}{fuel:Nat}{listed:Array Bool}(hX:X.Ok)(hr:X.r=none)(ho:ops[i]?=some o)(hd:o.dst=some d)(hg:o.guard=none)
  (hc:core X.T (findF st.F) [] (λ_=>none) st.nx o.op=some ⟨pre,v,.no⟩) (s7:rG o.op=none) (hp:eF st.gs X.nt (some d)=false) (hs:Region.noSelect ops=true) (hf:Region.free .any ops listed i=true)
  (BK:(Region.ready .any ops listed).contains i=true)
  (h:qU pre (eQ st λF gs H nx D=>fX v λv'=>vg X ops fuel (listed.setIfInBounds i true) ⟨(d,⟨[],v'⟩)::F,gs,H,nx,D⟩ K)):vg X ops (fuel+1) listed st K:=by
 refine⟨fun ρ a w hm=>?_⟩
 have eE:bu a []:=λx hx=>by cases hx
 have IM:∀w:World,HM ρ (λ_=>none) w:=λw=>{
  ok:=λ_ _ h=>by cases h
  sep:=λ_ _ _ _ _ _ _ h=>by cases h
  ro:=λ_ _ _ _ _ _ h=>by cases h
  ax:=λ_ ⟨_,_,_,_,_,_,h,_⟩=>by cases h }
 have hk:=vh h
 rw[eG,mP] at hk
 have cq:∀w:World,∃u,(execOp a.eval o).run X.P w=.ok (.value u) w∧den ρ v=some u:=λw=>by
  exact vE hX.dx hm.fm eE (IM w) (hm.nx _ (Nat.le_refl _)) hc (vj h)
 obtain⟨u,_,hu⟩:=cq w
 have hy:YieldsFenced X.P ops o u a:=by
  refine⟨.inl ⟨jS hg _,λw=>?_⟩,λw=>?_⟩
  ·obtain⟨u',h1,h2⟩:=cq w
   rw[hu] at h2;cases h2
   exact h1
  ·unfold Oper.about
   cases km:o.op<;>first|rfl|(rw[km] at s7;cases s7)
 have gU:d∈dstsOf ops:=by
  unfold dstsOf
  rw[List.mem_filterMap]
  exact⟨o,List.mem_of_getElem? (by rw[Array.getElem?_toList];exact ho),hd⟩
 refine wpAnyIn_take (by rw[vk,hr]) ho hs hf BK (λc a w h=>by rw[hd] at h;exact TQ gU h) hy ?_
 rw[hd]
 exact hk.h ρ _ w (hm.put hp hu)
def Df (X:Cx)(ops:Array Oper)(fuel:Nat)(listed:Array Bool)(K:Ex→St→Prop):Exit→Act→World→Prop:=λe a w=>match e with
 |.normal=>wpAnyIn (FW X.r) 0 X.P .any ops (Qp X ops K) fuel listed a w
 |e=>Qp X ops K e a w
def RT (ops:Array Oper)(K:Ex→St→Prop)(ch:List PanicEntry):St→Prop
 |⟨F,gs,H,nx,D⟩=>K (.panic ch) ⟨yk (dstsOf ops) F,gs,H,nx,D⟩
theorem nV {X:Cx}{ops:Array Oper}{fuel:Nat}{listed:Array Bool}{K:Ex→St→Prop}:dm X (Df X ops fuel listed K) (λst=>vg X ops fuel listed st K) (λch st=>RT ops K ch st) where
 k ρ' af a' w' an hk:=hk.h ρ' a' w' an
 p ch ρ' af a' w' an hk:=by
  obtain⟨F,gs,H,nx,D⟩:=af
  refine⟨⟨yk (dstsOf ops) F,gs,H,nx,D⟩,ρ',λt e he=>(AP he).2,{
   fm:=λt e he=>an.fm t e (AP he).1
   gs:=λt e he=>an.gs t e (AP he).1
   df:=an.df
   hm:=an.hm
   kp:=an.kp
   nx:=an.nx
   sz:=an.sz },hk⟩
def Lx (X:Cx)(ops:Array Oper)(fuel:Nat)(listed:Array Bool)(st:St)(K:Ex→St→Prop):List Nat→Prop
 |[]=>True
 |i::r=>(match nth ops.toList i with
  |some o=>(match o.guard with
   |none=>c7 X [o] (Df X ops fuel (listed.setIfInBounds i true) K) (λaf=>vg X ops fuel (listed.setIfInBounds i true) af K) (λch af=>RT ops K ch af) 0 [o] st
   |some _=>False)
  |none=>False)∧Lx X ops fuel listed st K r
theorem SS {X:Cx}{ops:Array Oper}{fuel:Nat}{listed:Array Bool}{st:St}{K:Ex→St→Prop}(hX:X.Ok):∀{l:List Nat},Lx X ops fuel listed st K l→∀i∈l,∀ρ a w,Mod X ρ st a w →
  wpOpIn (FW X.r) 0 X.P ops (Qp X ops K) i (wpAnyIn (FW X.r) 0 X.P .any ops (Qp X ops K) fuel (listed.setIfInBounds i true)) a w
 |j::r,h,i,hi,ρ,a,w,hm=>by
  rcases List.mem_cons.1 hi with rfl|hi
  ·have h1:=h.1
   split at h1
   ·rename_i o e
    rw[jA] at e
    have e:ops[i]?=some o:=by simpa [Array.getElem?_toList] using e
    split at h1
    ·rename_i hg
     have h2:=kf hX (nV (X:=X) (ops:=ops) (fuel:=fuel) (listed:=listed.setIfInBounds i true) (K:=K)).k nV.p [o] 0 ρ st a w rfl h1 hm
     have h2:wpOpsIn (FW X.r) 0 X.P #[o] (Df X ops fuel (listed.setIfInBounds i true) K) [0] a w:=h2
     simp only[wpOpsIn] at h2
     have BU:∀y,Region.wanted o y=true:=λy=>jS hg y
     simp only[List.getElem?_toArray,List.getElem?_cons_zero,BU,if_true] at h2
     unfold wpOpIn
     simp only[e,BU,if_true]
     have h3:Oper.wpIn (FW X.r) 0 X.P o a w (wpAnyIn (FW X.r) 0 X.P .any ops (Qp X ops K) fuel (listed.setIfInBounds i true)) (Df X ops fuel (listed.setIfInBounds i true) K):=h2
     unfold Oper.wpIn at h3 ⊢
     refine⟨h3.1,?_⟩
     have h4:=h3.2
     generalize (o.semAt (FW X.r).round a.eval).run X.P w=nv at h4 ⊢
     cases nv with
     |ok x w'=>cases x<;>exact h4
     |halt x w'=>cases x<;>exact h4
    ·exact h1.elim
   ·exact h1.elim
  ·exact SS hX h.2 i hi ρ a w hm
theorem du {X:Cx}{st:St}{K:Ex→St→Prop}{ops:Array Oper}{fuel:Nat}{listed:Array Bool}(rs:List Nat)(hX:X.Ok)(hr:Region.ready .any ops listed=rs)(aV:rs≠[])(h:Lx X ops fuel listed st K rs):vg X ops (fuel+1) listed st K :=
 ⟨fun ρ a w hm=>wpAnyIn_all hr aV λi hi=>SS hX h i hi ρ a w hm⟩
end Go.X
namespace Go.X.Wr
open Go Go.Proofs Go.X
theorem MK:Body P 94:=aw Tryz.func94 (c:=code Tryz.f94) rfl (by decide)
section
variable {w:Wd}{es:List (Qn × (Nat→Sp))}{Rv:SV→List (Nat × HB)→Nat→Prop}{Rp:List PanicEntry→List (Nat × HB)→Nat→Prop}
theorem Sl (hw:eb w=true)(eM:dV w es)(aY:cH w=true→∀a9,dV w a9→Rv (.agg (bg (aF w (bj w) w.n))) (bp w (bK a9)) 4)(EC:cH w=false→∀a9,dV w a9→Rp (iX 10) (bp w (bK a9)) 4):bG P 94 [.sp 3 0] (bp w (bK es)) 4 Rv Rp:=by
 have g:=ah
 refine Ad (ι:={a9 // cH w=true∧dV w a9}) (κ:={a9 // cH w=false∧dV w a9}) (λ_=>.agg (bg (aF w (bj w) w.n))) (λx=>bp w (bK x.1)) 4 (λ_=>iX 10) (λx=>bp w (bK x.1)) 4 ?_ (λx=>aY x.2.1 x.1 x.2.2) (λx=>EC x.2.1 x.1 x.2.2)
 refine cT g.ok Tryz.func94 (c:=code Tryz.f94) rfl (Nat.le_of_ble_eq_true rfl) (λG hG=>?_)
 obtain⟨_,_,hn,_⟩:=lf hw
 clear aY EC
 obtain⟨l1,l2,u1,u2,n,ev⟩:=w
 have hn:n≤8:=hn
 rcases(show n=0∨n=1∨n=2∨n=3∨n=4∨n=5∨n=6∨n=7∨n=8 by omega) with rfl|rfl|rfl|rfl|rfl|rfl|rfl|rfl|rfl
 all_goals
  refine(show aX _ _ _ _ from ?_)
  refine MA bP ?_
  refine oP 0 (g.ok _ _ _) rfl rfl rfl rfl rfl rfl rfl (by kernel_rfl) (by kernel_rfl) (by kernel_rfl) ?_
  refine oP 2 (g.ok _ _ _) rfl rfl rfl rfl rfl rfl rfl (by kernel_rfl) (by kernel_rfl) (by kernel_rfl) ?_
  refine oP 3 (g.ok _ _ _) rfl rfl rfl rfl rfl rfl rfl (by kernel_rfl) (by kernel_rfl) (by kernel_rfl) ?_
  refine oP 4 (g.ok _ _ _) rfl rfl rfl rfl rfl rfl rfl (by kernel_rfl) (by kernel_rfl) (by kernel_rfl) ?_
  refine oP 5 (g.ok _ _ _) rfl rfl rfl rfl rfl rfl rfl (by kernel_rfl) (by kernel_rfl) (by kernel_rfl) ?_
  refine du [1,6] (g.ok _ _ _) (by kernel_rfl) (by decide) ⟨?_,?_,trivial⟩
  ·refine av (g.ok _ _ _) nV rfl rfl rfl rfl ⟨tV,?_⟩
   refine aO [.sp 3 0] (bp _ (bK es)) 4 (λj=>j) Q2 rfl Q4 rfl rfl ?_
   refine vb hw eM (λhc a9 bW=>⟨rfl,Q1,Q0,?_⟩) (λhc a9 bW=>⟨rfl,Q1,Q0,?_⟩)
   ·refine du [6] (g.ok _ _ _) (by kernel_rfl) (by decide) ⟨?_,trivial⟩
    refine du [7] (g.ok _ _ _) (by kernel_rfl) (by decide) ⟨?_,trivial⟩
    refine du [8] (g.ok _ _ _) (by kernel_rfl) (by decide) ⟨?_,trivial⟩
    refine aa.mk ⟨by dsimp only;decide,by dsimp only;decide⟩ ?_
    refine du [9] (g.ok _ _ _) (by kernel_rfl) (by decide) ⟨?_,trivial⟩
    refine vq (by kernel_rfl) ?_
    refine⟨⟨a9,hc,bW⟩,(λj=>j),?_,?_,rfl,rfl,rfl,rfl⟩<;>exact Q4
   ·refine⟨⟨a9,hc,bW⟩,(λj=>j),rfl,?_,?_,rfl,rfl,rfl,rfl⟩<;>exact Q4
  ·refine du [1,7] (g.ok _ _ _) (by kernel_rfl) (by decide) ⟨?_,?_,trivial⟩
   ·refine av (g.ok _ _ _) nV rfl rfl rfl rfl ⟨tV,?_⟩
    refine aO [.sp 3 0] (bp _ (bK es)) 4 (λj=>j) Q2 rfl Q4 rfl rfl ?_
    refine vb hw eM (λhc a9 bW=>⟨rfl,Q1,Q0,?_⟩) (λhc a9 bW=>⟨rfl,Q1,Q0,?_⟩)
    ·refine du [7] (g.ok _ _ _) (by kernel_rfl) (by decide) ⟨?_,trivial⟩
     refine du [8] (g.ok _ _ _) (by kernel_rfl) (by decide) ⟨?_,trivial⟩
     refine aa.mk ⟨by dsimp only;decide,by dsimp only;decide⟩ ?_
     refine du [9] (g.ok _ _ _) (by kernel_rfl) (by decide) ⟨?_,trivial⟩
     refine vq (by kernel_rfl) ?_
     refine⟨⟨a9,hc,bW⟩,(λj=>j),?_,?_,rfl,rfl,rfl,rfl⟩<;>exact Q4
    ·refine⟨⟨a9,hc,bW⟩,(λj=>j),rfl,?_,?_,rfl,rfl,rfl,rfl⟩<;>exact Q4
   ·refine du [1] (g.ok _ _ _) (by kernel_rfl) (by decide) ⟨?_,trivial⟩
    refine av (g.ok _ _ _) nV rfl rfl rfl rfl ⟨tV,?_⟩
    refine aO [.sp 3 0] (bp _ (bK es)) 4 (λj=>j) Q2 rfl Q4 rfl rfl ?_
    refine vb hw eM (λhc a9 bW=>⟨rfl,Q1,Q0,?_⟩) (λhc a9 bW=>⟨rfl,Q1,Q0,?_⟩)
    ·refine du [8] (g.ok _ _ _) (by kernel_rfl) (by decide) ⟨?_,trivial⟩
     refine aa.mk ⟨by dsimp only;decide,by dsimp only;decide⟩ ?_
     refine du [9] (g.ok _ _ _) (by kernel_rfl) (by decide) ⟨?_,trivial⟩
     refine vq (by kernel_rfl) ?_
     refine⟨⟨a9,hc,bW⟩,(λj=>j),?_,?_,rfl,rfl,rfl,rfl⟩<;>exact Q4
    ·refine⟨⟨a9,hc,bW⟩,(λj=>j),rfl,?_,?_,rfl,rfl,rfl,rfl⟩<;>exact Q4
end
def xU:Ct:=bd fun
 |[.agg [.si .i64 k,.si .i64 u,.si .i64 lo,.si .i64 hi]]=>some ⟨none,none,.sb (fW ⟨k,u,lo,hi⟩),[]⟩
 |_=>none
theorem NY {k u lo hi:Int}(h:k=0):fW ⟨k,u,lo,hi⟩=(decide (0≤u)&&decide (u≤20)):=by
 subst h;simp[fW,fP]
theorem AD {k u lo hi:Int}(h:k=1):fW ⟨k,u,lo,hi⟩=fP lo hi (-1000) 1000:=by
 subst h;simp[fW,fP]
theorem NZ {k u lo hi:Int}(h:k=2):fW ⟨k,u,lo,hi⟩=fP lo hi 0 10:=by
 subst h;simp[fW,fP]
theorem N0 {k u lo hi:Int}(h0:¬k=0)(h1:¬k=1)(h2:¬k=2):fW ⟨k,u,lo,hi⟩=false:=by
 simp[fW,fP,h0,h1,h2]
theorem k39 {l:List (Nat × Ct)}(g0:Good P T l):aP P 70 xU:=by
 have g:=A0 (OO g0)
 refine bq (C:=aC _) g.ok Tryz.func70 (c:=code Tryz.f70) rfl λfr args H out h hp=>?_
 simp only[xU,bd] at h
 split at h
 ·rename_i k u lo hi
  cases h
  refine dt rfl (Nat.le_of_ble_eq_true rfl) λG hG=>?_
  refine Br.mk (λh0=>?_) (λh0=>?_)
  ·have h0:k=0:=of_decide_eq_true h0
   rw[NY h0]
   exact⟨.inl rfl,cz rfl rfl rfl⟩
  have h0:¬k=0:=of_decide_eq_false h0
  refine Br.mk (λh1=>?_) (λh1=>?_)
  ·have h1:k=1:=of_decide_eq_true h1
   rw[AD h1]
   exact⟨.inl rfl,cz rfl rfl rfl⟩
  have h1:¬k=1:=of_decide_eq_false h1
  refine Br.mk (λh2=>?_) (λh2=>?_)
  ·have h2:k=2:=of_decide_eq_true h2
   rw[NZ h2]
   exact⟨.inl rfl,cz rfl rfl rfl⟩
  have h2:¬k=2:=of_decide_eq_false h2
  rw[N0 h0 h1 h2]
  exact⟨.inl rfl,cz rfl rfl rfl⟩
 ·cases h
theorem Xn {l:List (Nat × Ct)}(g:Good P T l):Good P T ((70,xU)::l):=g.add (k39 g) (cZ _) (aw Tryz.func70 (c:=code Tryz.f70) rfl (by decide))
theorem k16 {l:List (Nat × Ct)}(g0:Good P T l):aP P 29 xU:=by
 have g:=Xk (AZ g0)
 refine bq (C:=aC _) g.ok Tryz.func29 (c:=code Tryz.f29) rfl λfr args H out h hp=>?_
 simp only[xU,bd] at h
 split at h
 ·rename_i k u lo hi
  cases h
  refine dt rfl (Nat.le_of_ble_eq_true rfl) λG hG=>?_
  refine Br.mk (λh0=>?_) (λh0=>?_)
  ·have h0:k=0:=of_decide_eq_true h0
   rw[NY h0]
   exact⟨.inl rfl,cz rfl rfl rfl⟩
  have h0:¬k=0:=of_decide_eq_false h0
  refine Br.mk (λh1=>?_) (λh1=>?_)
  ·have h1:k=1:=of_decide_eq_true h1
   rw[AD h1]
   exact⟨.inl rfl,cz rfl rfl rfl⟩
  have h1:¬k=1:=of_decide_eq_false h1
  refine Br.mk (λh2=>?_) (λh2=>?_)
  ·have h2:k=2:=of_decide_eq_true h2
   rw[NZ h2]
   exact⟨.inl rfl,cz rfl rfl rfl⟩
  have h2:¬k=2:=of_decide_eq_false h2
  rw[N0 h0 h1 h2]
  exact⟨.inl rfl,cz rfl rfl rfl⟩
 ·cases h
theorem Xe {l:List (Nat × Ct)}(g:Good P T l):Good P T ((29,xU)::l):=g.add (k16 g) (cZ _) (aw Tryz.func29 (c:=code Tryz.f29) rfl (by decide))
def Hk:Ct:=bd fun
 |[.agg [.si .i64 k,.si .i64 u,.si .i64 lo,.si .i64 hi]]=>some ⟨none,none,.sb (!fW ⟨k,u,lo,hi⟩),[]⟩
 |_=>none
theorem k38 {l:List (Nat × Ct)}(g0:Good P T l):aP P 69 Hk:=by
 have g:=Xn g0
 refine bq (C:=aC _) g.ok Tryz.func69 (c:=code Tryz.f69) rfl λfr args H out h hp=>?_
 simp only[Hk,bd] at h
 split at h
 ·cases h
  exact dt rfl (Nat.le_of_ble_eq_true rfl) λG hG=>⟨.inl rfl,cz rfl rfl rfl⟩
 ·cases h
theorem Xm {l:List (Nat × Ct)}(g:Good P T l):Good P T ((69,Hk)::l):=g.add (k38 g) (cZ _) (aw Tryz.func69 (c:=code Tryz.f69) rfl (by decide))
def AE (n:Nat)(ev:Nat→jm):List (Nat × HB):=[(0,.ro 4 n λi=>kR (ev i))]
def Iq:SV:=.fn (.func 69) [] []
theorem vv:Body P 68:=aw Tryz.func68 (c:=code Tryz.f68) rfl (by decide)
section
variable {n:Nat}{ev:Nat→jm}{Rv:SV→List (Nat × HB)→Nat→Prop}{Rp:List PanicEntry→List (Nat × HB)→Nat→Prop}
end
def gm (get:Nat→List SV)(i:Nat):jm:=match get i with
 |[.si .i64 k,.si .i64 u,.si .i64 lo,.si .i64 hi]=>⟨k,u,lo,hi⟩
 |_=>⟨0,0,0,0⟩
def r_ (n:Nat)(get:Nat→List SV):Prop:=∀i,i<n→get i=kR (gm get i)
theorem H_ (n:Nat)(ev:Nat→jm):r_ n (λi=>kR (ev i)):=λi hi=>rfl
def qe:Ct:=λfr args H=>match args with
 |[.sl id,.fn (.func 69) [] []]=>(match cn 4 H id with
  |some (n,get)=>some ⟨some (n≤8∧r_ n get∧∀i,i<n→fW (gm get i)=true),none,.si .i64 (-1),[]⟩
  |none=>none)
 |_=>none
theorem Hm:cY qe:=by
 intro fr args H H' out hH h
 unfold qe at h ⊢
 split at h
 ·split at h
  ·rename_i e1
   simp only[fk hH e1]
   exact h
  ·cases h
 ·cases h
theorem Kf {l:List (Nat × Ct)}(g0:Good P T l):aP P 101 qe:=by
 have g:=Xm ah
 refine bq (C:=aC _) g.ok Tryz.func101 (c:=code Tryz.f101) rfl λfr args H out h hp=>?_
 unfold qe at h
 split at h
 case h_2=>cases h
 rename_i id
 split at h
 case h_2=>cases h
 rename_i n get e1
 cases h
 obtain⟨hn,hs,he⟩:n≤8∧r_ n get∧∀i,i<n→fW (gm get i)=true:=hp
 have hh:Hand H [(id,.ro 4 n λi=>kR (gm get i))]:=kU e1 (λi=>rfl) (λi hi=>(hs i hi).symm)
 refine⟨[(id,.ro 4 n λi=>kR (gm get i))],[.sl 0,Iq],AE n (gm get),1,[],rfl,rfl,Nat.le_of_ble_eq_true rfl,hh,rfl,rfl,λG hG=>?_⟩
 refine cm (g.ok _ _ _) 1 (λx:{i:Nat // i≤n}=>⟨[(0,⟨[],.sl 0⟩),(1,⟨[],Iq⟩),(7,⟨[],.si .i64 (n:Int)⟩),(8,⟨[],.si .i64 (x.1:Int)⟩)],[],AE n (gm get),1,[]⟩) (λx=>n-x.1) hG ⟨0,Nat.zero_le _⟩ (λj=>j) ?_ ?_
 ·refine⟨?_,?_,rfl,rfl,rfl,rfl,trivial⟩<;>exact Q4
 rintro⟨i,hi⟩
 have hi:i≤n:=hi
 refine Br.mk (λh=>?_) (λh=>?_)
 ·have h:(i:Int)<(n:Int):=of_decide_eq_true h
  refine aa.mk (show(0:Int)≤(i:Int)∧(i:Int)<(n:Int) from⟨by omega,h⟩) ?_
  refine Br.mk (λh2=>?_) (λh2=>?_)
  ·have h2:(!fW (gm get i))=true:=h2
   rw[he i (by omega)] at h2
   cases h2
  refine aa.mk (show ae .i64 ((i:Int)+1) from⟨by omega,by omega⟩) ⟨⟨i+1,by omega⟩,(λj=>j),?_,by show n-(i+1)<n-i;omega⟩
  refine⟨?_,?_,rfl,rfl,rfl,rfl,trivial⟩<;>exact Q4
 ·exact⟨.inl rfl,bU ⟨rfl,rfl⟩ rfl rfl Q1⟩
theorem Iy {l:List (Nat × Ct)}(g:Good P T l):Good P T ((101,qe)::l):=g.add (Kf g) Hm (aw Tryz.func101 (c:=code Tryz.f101) rfl (by decide))
def zX:Ct:=λfr args H=>match args with
 |[.sl id,.fn (.func 69) [] []]=>(match cn 4 H id with
  |some (n,get)=>some ⟨some (n≤8∧r_ n get∧∀i,i<n→fW (gm get i)=true),none,.sb false,[]⟩
  |none=>none)
 |_=>none
theorem U7:cY zX:=by
 intro fr args H H' out hH h
 unfold zX at h ⊢
 split at h
 ·split at h
  ·rename_i e1
   simp only[fk hH e1]
   exact h
  ·cases h
 ·cases h
theorem k37 {l:List (Nat × Ct)}(g0:Good P T l):aP P 68 zX:=by
 have g:=Iy ah
 refine bq (C:=aC _) g.ok Tryz.func68 (c:=code Tryz.f68) rfl λfr args H out h hp=>?_
 unfold zX at h
 split at h
 case h_2=>cases h
 rename_i id
 split at h
 case h_2=>cases h
 rename_i n get e1
 cases h
 obtain⟨hn,hs,he⟩:n≤8∧r_ n get∧∀i,i<n→fW (gm get i)=true:=hp
 have hh:Hand H [(id,.ro 4 n λi=>kR (gm get i))]:=kU e1 (λi=>rfl) (λi hi=>(hs i hi).symm)
 refine⟨[(id,.ro 4 n λi=>kR (gm get i))],[.sl 0,Iq],AE n (gm get),1,[],rfl,rfl,Nat.le_of_ble_eq_true rfl,hh,rfl,rfl,λG hG=>?_⟩
 refine aa.mk ⟨hn,H_ _ _,he⟩ ?_
 exact⟨.inl rfl,bU rfl rfl rfl Q1⟩
theorem Xl {l:List (Nat × Ct)}(g:Good P T l):Good P T ((68,zX)::l):=g.add (k37 g) U7 (aw Tryz.func68 (c:=code Tryz.f68) rfl (by decide))
theorem aam {a b lo hi:Int}(h:fP a b lo hi=true):lo≤a∧a≤b∧b≤hi:=by
 simp only[fP,Bool.and_eq_true,decide_eq_true_eq] at h
 omega
theorem aed {l1 l2 u1 u2:Int}{n:Nat}{ev:Nat→jm}(h:(!fP l1 l2 0 300||decide (20<l2-l1)||!fP u1 u2 0 3||decide (8<(n:Int)))=true):eb ⟨l1,l2,u1,u2,n,ev⟩=false:=by
 unfold eb
 dsimp only
 simp only[Bool.or_eq_true,Bool.not_eq_true',decide_eq_true_eq] at h
 rcases h with((h|h)|h)|h
 ·rw[h];rfl
 ·rw[show decide (l2-l1≤20)=false from decide_eq_false (by omega)];simp
 ·rw[h];simp
 ·rw[show decide (n≤8)=false from decide_eq_false (by omega)];simp
theorem aee {l1 l2 u1 u2:Int}{n:Nat}{ev:Nat→jm}(h:(!fP l1 l2 0 300||decide (20<l2-l1)||!fP u1 u2 0 3||decide (8<(n:Int)))=false):n≤8∧eb ⟨l1,l2,u1,u2,n,ev⟩=(List.range n).all λi=>fW (ev i):=by
 simp only[Bool.or_eq_false_iff,Bool.not_eq_false',decide_eq_false_iff_not] at h
 obtain⟨⟨⟨h1,h2⟩,h3⟩,h4⟩:=h
 unfold eb
 dsimp only
 rw[h1,h3,decide_eq_true (show l2-l1≤20 by omega),decide_eq_true (show n≤8 by omega)]
 exact⟨by omega,by simp⟩
theorem xD {n i:Nat}{f:Nat→Bool}(hi:i<n)(h:f i=false):(List.range n).all f=false:=by
 rw[List.all_eq_false]
 exact⟨i,List.mem_range.2 hi,by rw[h];decide⟩
theorem xE {n:Nat}{f:Nat→Bool}(h:∀j,j<n→f j=true):(List.range n).all f=true:=by
 rw[List.all_eq_true]
 exact λi hi=>h i (List.mem_range.1 hi)
def c5:Ct:=λfr args H=>match args with
 |[.agg [.si .i64 l1,.si .i64 l2,.si .i64 u1,.si .i64 u2,.sl id]]=>(match cn 4 H id with
  |some (n,get)=>some ⟨some (n≤1000000∧r_ n get),none,.sb (eb ⟨l1,l2,u1,u2,n,gm get⟩),[]⟩
  |none=>none)
 |_=>none
theorem DK:cY c5:=by
 intro fr args H H' out hH h
 unfold c5 at h ⊢
 split at h
 ·split at h
  ·rename_i e1
   simp only[fk hH e1]
   exact h
  ·cases h
 ·cases h
theorem k5 {l:List (Nat × Ct)}(g0:Good P T l):aP P 10 c5:=by
 have g:=AZ (Xe ah)
 refine bq (C:=aC _) g.ok Tryz.func10 (c:=code Tryz.f10) rfl λfr args H out h hp=>?_
 unfold c5 at h
 split at h
 case h_2=>cases h
 rename_i l1 l2 u1 u2 id
 split at h
 case h_2=>cases h
 rename_i n get e1
 cases h
 obtain⟨hn,hs⟩:n≤1000000∧r_ n get:=hp
 have hh:Hand H [(id,.ro 4 n λi=>kR (gm get i))]:=kU e1 (λi=>rfl) (λi hi=>(hs i hi).symm)
 refine⟨[(id,.ro 4 n λi=>kR (gm get i))],[.agg [.si .i64 l1,.si .i64 l2,.si .i64 u1,.si .i64 u2,.sl 0]],AE n (gm get),1,[],rfl,rfl,Nat.le_of_ble_eq_true rfl,hh,rfl,rfl,λG hG=>?_⟩
 refine aa.mk (show(!fP l1 l2 0 300)=false→ae .i64 (l2-l1) from λh=>by
  have h:fP l1 l2 0 300=true:=by simpa using h
  have:=aam h
  exact⟨by omega,by omega⟩) ?_
 refine Br.mk (λh=>?_) (λh=>?_)
 ·have h:(!fP l1 l2 0 300||decide (20<l2-l1)||!fP u1 u2 0 3||decide (8<(n:Int)))=true:=h
  rw[aed (ev:=gm get) h]
  exact⟨.inl rfl,bU rfl rfl rfl Q1⟩
 have h:(!fP l1 l2 0 300||decide (20<l2-l1)||!fP u1 u2 0 3||decide (8<(n:Int)))=false:=h
 obtain⟨h8,hW⟩:=aee (ev:=gm get) h
 rw[hW]
 refine cm (g.ok _ _ _) 1 (λx:{i:Nat // i≤n∧∀j,j<i→fW (gm get j)=true}=>⟨[(1,⟨[],.sp 1 0⟩),(3,⟨[],.si .i64 (x.1:Int)⟩)],[],(1,.cells 45 [.si .i64 l1,.si .i64 l2,.si .i64 u1,.si .i64 u2,.sl 0])::AE n (gm get),2,[]⟩) (λx=>n-x.1) hG ⟨0,Nat.zero_le _,λj hj=>absurd hj (Nat.not_lt_zero _)⟩ (λj=>j) ?_ ?_
 ·refine⟨?_,?_,rfl,rfl,rfl,rfl,trivial⟩<;>exact Q4
 rintro⟨i,hi,cq⟩
 have hi:i≤n:=hi
 refine Br.mk (λh=>?_) (λh=>?_)
 ·have h:(i:Int)<(n:Int):=of_decide_eq_true h
  refine aa.mk (show(0:Int)≤(i:Int)∧(i:Int)<(n:Int) from⟨by omega,h⟩) ?_
  refine Br.mk (λh2=>?_) (λh2=>?_)
  ·have h2:(!fW (gm get i))=true:=h2
   have h2:fW (gm get i)=false:=by simpa using h2
   rw[xD (i:=i) (n:=n) (f:=λj=>fW (gm get j)) (by omega) h2]
   exact⟨.inl rfl,bU rfl rfl rfl Q1⟩
  have h2:(!fW (gm get i))=false:=h2
  have h2:fW (gm get i)=true:=by simpa using h2
  refine aa.mk (show ae .i64 ((i:Int)+1) from⟨by omega,by omega⟩) ⟨⟨i+1,by omega,λj hj=>by
   rcases Nat.lt_succ_iff_lt_or_eq.1 hj with hj|rfl
   ·exact cq j hj
   ·exact h2⟩,(λj=>j),?_,by show n-(i+1)<n-i;omega⟩
  refine⟨?_,?_,rfl,rfl,rfl,rfl,trivial⟩<;>exact Q4
 ·have h:¬(i:Int)<(n:Int):=of_decide_eq_false h
  obtain rfl:i=n:=by omega
  rw[xE (n:=i) (f:=λj=>fW (gm get j)) cq]
  exact⟨.inl rfl,bU rfl rfl rfl Q1⟩
theorem g5 {l:List (Nat × Ct)}(g:Good P T l):Good P T ((10,c5)::l):=g.add (k5 g) DK (aw Tryz.func10 (c:=code Tryz.f10) rfl (by decide))
def jZ (w:Wd)(id:Nat):SV:=.agg [.si .i64 w.l1,.si .i64 w.l2,.si .i64 w.u1,.si .i64 w.u2,.sl id]
def fN (w:Wd):List (Nat × HB):=[(0,.ax 2 gF),(1,.ro 4 w.n (mO w))]
def Cw (w:Wd)(em:List (SV × SV)):List (Nat × HB):=[(0,.ax 2 gF),(1,.ro 4 w.n (mO w)),(2,.vec 77 4 w.n (mO w)),(3,.mp em),(4,.cells 94 [.si .i64 w.l1,.si .i64 w.l2,.si .i64 w.u1,.si .i64 w.u2,.sl 2,.sm 3])]
theorem vu:Body P 31:=aw Tryz.func31 (c:=code Tryz.f31) rfl (by decide)
section
variable {w:Wd}{Rv:SV→List (Nat × HB)→Nat→Prop}{Rp:List PanicEntry→List (Nat × HB)→Nat→Prop}
theorem xf (hw:eb w=true)(aY:Rv (.sp 4 0) (Cw w []) 5):bG P 31 [jZ w 1,.si .i64 0,.sb true] (fN w) 2 Rv Rp:=by
 have g:=Ix (OO (Xl ah))
 obtain⟨h1,h2,h3,h4⟩:=lf hw
 refine eI (ι:=Unit) g.ok Tryz.func31 (c:=code Tryz.f31) rfl (Nat.le_of_ble_eq_true rfl) (λ_=>.sp 4 0) (λ_=>Cw w []) 5 (λG hG=>?_) (λ_=>aY)
 refine aa.mk (λ_=>show ae .i64 (w.l2-w.l1) from⟨by omega,by omega⟩) ?_
 refine aa.mk (λ_=>show w.n≤8∧r_ w.n (mO w)∧∀i,i<w.n→fW (w.ev i)=true from⟨h3,H_ _ _,h4⟩) ?_
 have hq:(fP w.l1 w.l2 0 300&&decide (w.l2-w.l1≤20)&&fP w.u1 w.u2 0 3&&decide ((w.n:Int)≤8) && !false)=true:=by
  simp only[fP,Bool.and_eq_true,decide_eq_true_eq]
  refine⟨⟨⟨⟨⟨⟨?_,?_⟩,?_⟩,?_⟩,⟨?_,?_⟩,?_⟩,?_⟩,rfl⟩<;>omega
 refine Br.mk (λh=>?_) (λh=>?_)
 ·exfalso
  have h:(!(fP w.l1 w.l2 0 300&&decide (w.l2-w.l1≤20)&&fP w.u1 w.u2 0 3&&decide ((w.n:Int)≤8) && !false))=true:=h
  rw[hq] at h;cases h
 refine Br.mk (λh=>by cases h) (λ_=>?_)
 refine Br.mk (λh=>by cases h) (λ_=>?_)
 refine oY w.n (g.ok _ _ _) aj rfl rfl rfl rfl rfl rfl rfl rfl rfl rfl (by decide) (by omega) rfl rfl ?_
 refine Ea 3 1 w.n w.n _ (mO w) (mO w) (g.ok _ _ _) aj rfl rfl rfl rfl rfl rfl rfl rfl rfl rfl rfl rfl rfl rfl rfl (by decide) (λi hi=>by rw[if_pos hi]) ?_
 refine sL (g.ok _ _ _) aj rfl rfl rfl rfl rfl ?_
 refine⟨(),(λj=>match j with|2=>3|3=>4|4=>5|j=>j),?_,?_,rfl,rfl,rfl,rfl⟩<;>exact Q4
end
theorem b6:Body P 61:=aw Tryz.func61 (c:=code Tryz.f61) rfl (by decide)
def Ge (w:Wd)(m:Nat):SV:=.bn [.agg (bg (if cH w then aF w (bj w) (m+1) else(0,0))),.si .i64 (if cH w then 0 else 10)]
section
variable {w:Wd}{Rv:SV→List (Nat × HB)→Nat→Prop}{Rp:List PanicEntry→List (Nat × HB)→Nat→Prop}
theorem s6 (hw:eb w=true){m:Nat}(hm:m<w.n)(aY:Rv (Ge w m) (fN w) 2):bG P 61 [jZ w 1,.si .i64 (m:Int)] (fN w) 2 Rv Rp:=by
 have g:=A0 ah
 obtain⟨h1,h2,h3,h4⟩:=lf hw
 refine Ad (ι:=Unit) (κ:=Empty) (λ_=>Ge w m) (λ_=>fN w) 2 (λ_=>iX 10) (λx=>fN w) 2 (Hz g.ok vp Tryz.func61 (c:=code Tryz.f61) rfl (Nat.le_of_ble_eq_true rfl) (λG hG=>?_)) (λ_=>aY) (λx=>x.elim)
 refine AK (g.ok _ _ _) rfl aj rfl rfl rfl rfl ?_
 have dD:(decide ((0:Int)≤(m:Int))&&decide ((m:Int)≤(w.n:Int)-1))=true:=by
  rw[decide_eq_true (by omega),decide_eq_true (by omega)];rfl
 refine(show aX _ _ _ _ from ?_)
 refine MA bP ?_
 refine oP 1 (g.ok _ _ _) rfl rfl rfl rfl rfl rfl rfl (by kernel_rfl) (by kernel_rfl) (by kernel_rfl) ?_
 refine oP 2 (g.ok _ _ _) rfl rfl rfl rfl rfl rfl rfl (by kernel_rfl) (by kernel_rfl) (by kernel_rfl) ?_
 refine oP 9 (g.ok _ _ _) rfl rfl rfl rfl rfl rfl rfl (by kernel_rfl) (by kernel_rfl) (by kernel_rfl) ?_
 refine oP 10 (g.ok _ _ _) rfl rfl rfl rfl rfl rfl rfl (by kernel_rfl) (by kernel_rfl) (by kernel_rfl) (aa.mk (show ae .i64 ((m:Int)+1) from⟨by omega,by omega⟩) ?_)
 refine du [0,3] (g.ok _ _ _) (by kernel_rfl) (by decide) ⟨?_,?_,trivial⟩
 ·refine du [3] (g.ok _ _ _) (by kernel_rfl) (by decide) ⟨?_,trivial⟩
  refine du [4] (g.ok _ _ _) (by kernel_rfl) (by decide) ⟨?_,trivial⟩
  refine oP 5 (g.ok _ _ _) rfl rfl rfl rfl rfl rfl rfl (by kernel_rfl) (by kernel_rfl) (by kernel_rfl) (aa.mk (show ae .i64 ((w.n:Int)-1) from⟨by omega,by omega⟩) ?_)
  refine du [6] (g.ok _ _ _) (by kernel_rfl) (by decide) ⟨?_,trivial⟩
  refine du [7] (g.ok _ _ _) (by kernel_rfl) (by decide) ⟨?_,trivial⟩
  refine av (g.ok _ _ _) nV rfl rfl rfl rfl ⟨vu,?_⟩
  refine aO [jZ w 1,.si .i64 0,.sb true] (fN w) 2 (λj=>j) (by repeat' (first|exact trivial|exact rfl|exact dD|refine And.intro ?_ ?_)) rfl Q4 rfl rfl ?_
  refine xf hw ⟨rfl,Q1,Q0,?_⟩
  refine du [8] (g.ok _ _ _) (by kernel_rfl) (by decide) ⟨?_,trivial⟩
  refine av (g.ok _ _ _) nV rfl rfl rfl rfl ⟨tV,?_⟩
  refine aO [.sp 3 0] (bp w (bK [])) 4 (λj=>match j with|1=>5|2=>6|3=>7|j=>j) Q2 rfl Q4 rfl rfl ?_
  refine vb hw (λq lv h=>by cases h) (λhc a9 bW=>⟨rfl,Q1,Q0,?_⟩) (λhc a9 bW=>⟨rfl,Q1,Q0,?_⟩)
  ·have fL:(aF w (bj w) (m+1)).1=(if cH w then aF w (bj w) (m+1) else(0,0)).1:=by rw[if_pos hc]
   have gS:(aF w (bj w) (m+1)).2=(if cH w then aF w (bj w) (m+1) else(0,0)).2:=by rw[if_pos hc]
   have jf:(0:Int)=(if cH w then 0 else 10):=by rw[if_pos hc]
   rcases(show m=0∨m=1∨m=2∨m=3∨m=4∨m=5∨m=6∨m=7 by omega) with rfl|rfl|rfl|rfl|rfl|rfl|rfl|rfl
   all_goals
    refine du [11] (g.ok _ _ _) (by kernel_rfl) (by decide) ⟨?_,trivial⟩
    refine aa.mk ⟨by decide,by decide⟩ ?_
    refine du [12] (g.ok _ _ _) (by kernel_rfl) (by decide) ⟨?_,trivial⟩
    refine du [13] (g.ok _ _ _) (by kernel_rfl) (by decide) ⟨?_,trivial⟩
    refine du [14] (g.ok _ _ _) (by kernel_rfl) (by decide) ⟨?_,trivial⟩
    refine vq (by kernel_rfl) ?_
    refine⟨(),(λj=>j),?_,?_,rfl,rfl,rfl,rfl⟩<;>repeat' (first|exact fL|exact gS|exact jf|exact trivial|exact rfl|exact List.Perm.refl _|(intro i hi;exact⟨rfl,rfl⟩)|(intro v m g h;exact h)|refine And.intro ?_ ?_)
  ·have fL:(0:Int)=(if cH w then aF w (bj w) (m+1) else(0,0)).1:=by rw[hc];rfl
   have gS:(0:Int)=(if cH w then aF w (bj w) (m+1) else(0,0)).2:=by rw[hc];rfl
   have jf:(10:Int)=(if cH w then 0 else 10):=by rw[hc];rfl
   refine⟨(),(λj=>j),?_,?_,rfl,rfl,rfl,rfl⟩<;>repeat' (first|exact fL|exact gS|exact jf|exact trivial|exact rfl|exact List.Perm.refl _|(intro i hi;exact⟨rfl,rfl⟩)|(intro v m g h;exact h)|refine And.intro ?_ ?_)
 ·refine du [0,4] (g.ok _ _ _) (by kernel_rfl) (by decide) ⟨?_,?_,trivial⟩
  ·refine du [4] (g.ok _ _ _) (by kernel_rfl) (by decide) ⟨?_,trivial⟩
   refine oP 5 (g.ok _ _ _) rfl rfl rfl rfl rfl rfl rfl (by kernel_rfl) (by kernel_rfl) (by kernel_rfl) (aa.mk (show ae .i64 ((w.n:Int)-1) from⟨by omega,by omega⟩) ?_)
   refine du [6] (g.ok _ _ _) (by kernel_rfl) (by decide) ⟨?_,trivial⟩
   refine du [7] (g.ok _ _ _) (by kernel_rfl) (by decide) ⟨?_,trivial⟩
   refine av (g.ok _ _ _) nV rfl rfl rfl rfl ⟨vu,?_⟩
   refine aO [jZ w 1,.si .i64 0,.sb true] (fN w) 2 (λj=>j) (by repeat' (first|exact trivial|exact rfl|exact dD|refine And.intro ?_ ?_)) rfl Q4 rfl rfl ?_
   refine xf hw ⟨rfl,Q1,Q0,?_⟩
   refine du [8] (g.ok _ _ _) (by kernel_rfl) (by decide) ⟨?_,trivial⟩
   refine av (g.ok _ _ _) nV rfl rfl rfl rfl ⟨tV,?_⟩
   refine aO [.sp 3 0] (bp w (bK [])) 4 (λj=>match j with|1=>5|2=>6|3=>7|j=>j) Q2 rfl Q4 rfl rfl ?_
   refine vb hw (λq lv h=>by cases h) (λhc a9 bW=>⟨rfl,Q1,Q0,?_⟩) (λhc a9 bW=>⟨rfl,Q1,Q0,?_⟩)
   ·have fL:(aF w (bj w) (m+1)).1=(if cH w then aF w (bj w) (m+1) else(0,0)).1:=by rw[if_pos hc]
    have gS:(aF w (bj w) (m+1)).2=(if cH w then aF w (bj w) (m+1) else(0,0)).2:=by rw[if_pos hc]
    have jf:(0:Int)=(if cH w then 0 else 10):=by rw[if_pos hc]
    rcases(show m=0∨m=1∨m=2∨m=3∨m=4∨m=5∨m=6∨m=7 by omega) with rfl|rfl|rfl|rfl|rfl|rfl|rfl|rfl
    all_goals
     refine du [11] (g.ok _ _ _) (by kernel_rfl) (by decide) ⟨?_,trivial⟩
     refine aa.mk ⟨by decide,by decide⟩ ?_
     refine du [12] (g.ok _ _ _) (by kernel_rfl) (by decide) ⟨?_,trivial⟩
     refine du [13] (g.ok _ _ _) (by kernel_rfl) (by decide) ⟨?_,trivial⟩
     refine du [14] (g.ok _ _ _) (by kernel_rfl) (by decide) ⟨?_,trivial⟩
     refine vq (by kernel_rfl) ?_
     refine⟨(),(λj=>j),?_,?_,rfl,rfl,rfl,rfl⟩<;>repeat' (first|exact fL|exact gS|exact jf|exact trivial|exact rfl|exact List.Perm.refl _|(intro i hi;exact⟨rfl,rfl⟩)|(intro v m g h;exact h)|refine And.intro ?_ ?_)
   ·have fL:(0:Int)=(if cH w then aF w (bj w) (m+1) else(0,0)).1:=by rw[hc];rfl
    have gS:(0:Int)=(if cH w then aF w (bj w) (m+1) else(0,0)).2:=by rw[hc];rfl
    have jf:(10:Int)=(if cH w then 0 else 10):=by rw[hc];rfl
    refine⟨(),(λj=>j),?_,?_,rfl,rfl,rfl,rfl⟩<;>repeat' (first|exact fL|exact gS|exact jf|exact trivial|exact rfl|exact List.Perm.refl _|(intro i hi;exact⟨rfl,rfl⟩)|(intro v m g h;exact h)|refine And.intro ?_ ?_)
  ·refine oP 5 (g.ok _ _ _) rfl rfl rfl rfl rfl rfl rfl (by kernel_rfl) (by kernel_rfl) (by kernel_rfl) (aa.mk (show ae .i64 ((w.n:Int)-1) from⟨by omega,by omega⟩) ?_)
   refine du [0,6] (g.ok _ _ _) (by kernel_rfl) (by decide) ⟨?_,?_,trivial⟩
   ·refine du [6] (g.ok _ _ _) (by kernel_rfl) (by decide) ⟨?_,trivial⟩
    refine du [7] (g.ok _ _ _) (by kernel_rfl) (by decide) ⟨?_,trivial⟩
    refine av (g.ok _ _ _) nV rfl rfl rfl rfl ⟨vu,?_⟩
    refine aO [jZ w 1,.si .i64 0,.sb true] (fN w) 2 (λj=>j) (by repeat' (first|exact trivial|exact rfl|exact dD|refine And.intro ?_ ?_)) rfl Q4 rfl rfl ?_
    refine xf hw ⟨rfl,Q1,Q0,?_⟩
    refine du [8] (g.ok _ _ _) (by kernel_rfl) (by decide) ⟨?_,trivial⟩
    refine av (g.ok _ _ _) nV rfl rfl rfl rfl ⟨tV,?_⟩
    refine aO [.sp 3 0] (bp w (bK [])) 4 (λj=>match j with|1=>5|2=>6|3=>7|j=>j) Q2 rfl Q4 rfl rfl ?_
    refine vb hw (λq lv h=>by cases h) (λhc a9 bW=>⟨rfl,Q1,Q0,?_⟩) (λhc a9 bW=>⟨rfl,Q1,Q0,?_⟩)
    ·have fL:(aF w (bj w) (m+1)).1=(if cH w then aF w (bj w) (m+1) else(0,0)).1:=by rw[if_pos hc]
     have gS:(aF w (bj w) (m+1)).2=(if cH w then aF w (bj w) (m+1) else(0,0)).2:=by rw[if_pos hc]
     have jf:(0:Int)=(if cH w then 0 else 10):=by rw[if_pos hc]
     rcases(show m=0∨m=1∨m=2∨m=3∨m=4∨m=5∨m=6∨m=7 by omega) with rfl|rfl|rfl|rfl|rfl|rfl|rfl|rfl
     all_goals
      refine du [11] (g.ok _ _ _) (by kernel_rfl) (by decide) ⟨?_,trivial⟩
      refine aa.mk ⟨by decide,by decide⟩ ?_
      refine du [12] (g.ok _ _ _) (by kernel_rfl) (by decide) ⟨?_,trivial⟩
      refine du [13] (g.ok _ _ _) (by kernel_rfl) (by decide) ⟨?_,trivial⟩
      refine du [14] (g.ok _ _ _) (by kernel_rfl) (by decide) ⟨?_,trivial⟩
      refine vq (by kernel_rfl) ?_
      refine⟨(),(λj=>j),?_,?_,rfl,rfl,rfl,rfl⟩<;>repeat' (first|exact fL|exact gS|exact jf|exact trivial|exact rfl|exact List.Perm.refl _|(intro i hi;exact⟨rfl,rfl⟩)|(intro v m g h;exact h)|refine And.intro ?_ ?_)
    ·have fL:(0:Int)=(if cH w then aF w (bj w) (m+1) else(0,0)).1:=by rw[hc];rfl
     have gS:(0:Int)=(if cH w then aF w (bj w) (m+1) else(0,0)).2:=by rw[hc];rfl
     have jf:(10:Int)=(if cH w then 0 else 10):=by rw[hc];rfl
     refine⟨(),(λj=>j),?_,?_,rfl,rfl,rfl,rfl⟩<;>repeat' (first|exact fL|exact gS|exact jf|exact trivial|exact rfl|exact List.Perm.refl _|(intro i hi;exact⟨rfl,rfl⟩)|(intro v m g h;exact h)|refine And.intro ?_ ?_)
   ·refine du [0] (g.ok _ _ _) (by kernel_rfl) (by decide) ⟨?_,trivial⟩
    refine du [7] (g.ok _ _ _) (by kernel_rfl) (by decide) ⟨?_,trivial⟩
    refine av (g.ok _ _ _) nV rfl rfl rfl rfl ⟨vu,?_⟩
    refine aO [jZ w 1,.si .i64 0,.sb true] (fN w) 2 (λj=>j) (by repeat' (first|exact trivial|exact rfl|exact dD|refine And.intro ?_ ?_)) rfl Q4 rfl rfl ?_
    refine xf hw ⟨rfl,Q1,Q0,?_⟩
    refine du [8] (g.ok _ _ _) (by kernel_rfl) (by decide) ⟨?_,trivial⟩
    refine av (g.ok _ _ _) nV rfl rfl rfl rfl ⟨tV,?_⟩
    refine aO [.sp 3 0] (bp w (bK [])) 4 (λj=>match j with|1=>5|2=>6|3=>7|j=>j) Q2 rfl Q4 rfl rfl ?_
    refine vb hw (λq lv h=>by cases h) (λhc a9 bW=>⟨rfl,Q1,Q0,?_⟩) (λhc a9 bW=>⟨rfl,Q1,Q0,?_⟩)
    ·have fL:(aF w (bj w) (m+1)).1=(if cH w then aF w (bj w) (m+1) else(0,0)).1:=by rw[if_pos hc]
     have gS:(aF w (bj w) (m+1)).2=(if cH w then aF w (bj w) (m+1) else(0,0)).2:=by rw[if_pos hc]
     have jf:(0:Int)=(if cH w then 0 else 10):=by rw[if_pos hc]
     rcases(show m=0∨m=1∨m=2∨m=3∨m=4∨m=5∨m=6∨m=7 by omega) with rfl|rfl|rfl|rfl|rfl|rfl|rfl|rfl
     all_goals
      refine du [11] (g.ok _ _ _) (by kernel_rfl) (by decide) ⟨?_,trivial⟩
      refine aa.mk ⟨by decide,by decide⟩ ?_
      refine du [12] (g.ok _ _ _) (by kernel_rfl) (by decide) ⟨?_,trivial⟩
      refine du [13] (g.ok _ _ _) (by kernel_rfl) (by decide) ⟨?_,trivial⟩
      refine du [14] (g.ok _ _ _) (by kernel_rfl) (by decide) ⟨?_,trivial⟩
      refine vq (by kernel_rfl) ?_
      refine⟨(),(λj=>j),?_,?_,rfl,rfl,rfl,rfl⟩<;>repeat' (first|exact fL|exact gS|exact jf|exact trivial|exact rfl|exact List.Perm.refl _|(intro i hi;exact⟨rfl,rfl⟩)|(intro v m g h;exact h)|refine And.intro ?_ ?_)
    ·have fL:(0:Int)=(if cH w then aF w (bj w) (m+1) else(0,0)).1:=by rw[hc];rfl
     have gS:(0:Int)=(if cH w then aF w (bj w) (m+1) else(0,0)).2:=by rw[hc];rfl
     have jf:(10:Int)=(if cH w then 0 else 10):=by rw[hc];rfl
     refine⟨(),(λj=>j),?_,?_,rfl,rfl,rfl,rfl⟩<;>repeat' (first|exact fL|exact gS|exact jf|exact trivial|exact rfl|exact List.Perm.refl _|(intro i hi;exact⟨rfl,rfl⟩)|(intro v m g h;exact h)|refine And.intro ?_ ?_)
end
theorem Ux:Body P 62:=aw Tryz.func62 (c:=code Tryz.f62) rfl (by decide)
def ky (w:Wd):Int:=(aF w (bj w) w.n).1
def Gf (w:Wd)(iU:Int):SV:=.bn [.si .i64 (if w.u2=0 then 100 else min 100 ((ky w-iU).tdiv w.u2)),.si .i64 0]
theorem S0 {a b:Int}(ha:0≤a)(hb:0≤b)(hm:a≤3000000):(-9223372036854775808≤a.tdiv b∧a.tdiv b≤9223372036854775807):=by
 have h1:=Int.tdiv_nonneg ha hb
 have h2:a.tdiv b≤a:=Int.tdiv_le_self b ha
 omega
theorem aaS (w:Wd)(q:Qn):aF w q w.n=gD w q w.n:=by
 unfold aF
 rw[if_pos (Nat.le_refl _),Nat.sub_self];rfl
section
variable {w:Wd}{Rv:SV→List (Nat × HB)→Nat→Prop}{Rp:List PanicEntry→List (Nat × HB)→Nat→Prop}
theorem qM (hw:eb w=true)(hc:cH w=true){iU:Int}(ly:-1000≤iU)(qv:iU≤1000)(hle:iU≤ky w)(aY:Rv (Gf w iU) (fN w) 2):bG P 62 [jZ w 1,.si .i64 iU] (fN w) 2 Rv Rp:=by
 have g:=Xj (Ix ah)
 obtain⟨h1,h2,h3,h4⟩:=lf hw
 have Jq:-1200000≤ky w∧ky w≤1200000:=by
  have:=(vZ hw (KZ hw) w.n (Nat.le_refl _)).1
  unfold ky;rw[aaS];omega
 refine Ad (ι:=Unit) (κ:=Empty) (λ_=>Gf w iU) (λ_=>fN w) 2 (λ_=>iX 10) (λx=>fN w) 2 (Hz g.ok vp Tryz.func62 (c:=code Tryz.f62) rfl (Nat.le_of_ble_eq_true rfl) (λG hG=>?_)) (λ_=>aY) (λx=>x.elim)
 refine AK (g.ok _ _ _) rfl aj rfl rfl rfl rfl ?_
 have dD:(decide ((-1000:Int)≤iU)&&decide (iU≤1000))=true:=by
  rw[decide_eq_true ly,decide_eq_true qv];rfl
 refine(show aX _ _ _ _ from ?_)
 refine lT bP ?_
 refine ef 1 (g.ok _ _ _) rfl rfl rfl rfl rfl rfl rfl (by kernel_rfl) (by kernel_rfl) (by kernel_rfl) ?_
 refine aJ [0,2] (g.ok _ _ _) (by kernel_rfl) (by decide) ⟨?_,?_,trivial⟩
 ·refine aJ [2] (g.ok _ _ _) (by kernel_rfl) (by decide) ⟨?_,trivial⟩
  refine aJ [3] (g.ok _ _ _) (by kernel_rfl) (by decide) ⟨?_,trivial⟩
  refine av (g.ok _ _ _) bm rfl rfl rfl rfl ⟨vu,?_⟩
  refine aO [jZ w 1,.si .i64 0,.sb true] (fN w) 2 (λj=>j) (by repeat' (first|exact trivial|exact rfl|exact dD|refine And.intro ?_ ?_)) rfl Q4 rfl rfl ?_
  refine xf hw ⟨rfl,Q1,Q0,?_⟩
  refine aJ [4] (g.ok _ _ _) (by kernel_rfl) (by decide) ⟨?_,trivial⟩
  refine av (g.ok _ _ _) bm rfl rfl rfl rfl ⟨MK,?_⟩
  refine aO [.sp 3 0] (bp w (bK [])) 4 (λj=>match j with|1=>4|2=>5|3=>6|j=>j) Q2 rfl Q4 rfl rfl ?_
  refine Sl hw (λq lv h=>by cases h) (λhc a9 bW=>⟨rfl,Q1,Q0,?_⟩) (λim _ _=>by rw[hc] at im;cases im)
  refine ef 5 (g.ok _ _ _) rfl rfl rfl rfl rfl rfl rfl (by kernel_rfl) (by kernel_rfl) (by kernel_rfl) ?_
  refine ef 6 (g.ok _ _ _) rfl rfl rfl rfl rfl rfl rfl (by kernel_rfl) (by kernel_rfl) (by kernel_rfl) ?_
  refine aJ [7] (g.ok _ _ _) (by kernel_rfl) (by decide) ⟨?_,trivial⟩
  refine j6 (by kernel_rfl) ?_
  refine Br.mk (λh=>?_) (λ_=>?_)
  ·exfalso
   have h:(!decide (iU≤ky w))=true:=h
   rw[decide_eq_true hle] at h;cases h
  refine Br.mk (λh=>?_) (λh=>?_)
  ·have h:w.u2=0:=of_decide_eq_true h
   have fL:(100:Int)=(if w.u2=0 then 100 else min 100 ((ky w-iU).tdiv w.u2)):=by rw[if_pos h]
   refine⟨(),(λj=>j),?_,?_,rfl,rfl,rfl,rfl⟩<;>repeat' (first|exact fL|exact trivial|exact rfl|exact List.Perm.refl _|(intro i hi;exact⟨rfl,rfl⟩)|(intro v m g h;exact h)|refine And.intro ?_ ?_)
  have h:¬w.u2=0:=of_decide_eq_false h
  refine aa.mk (show ae .i64 (ky w-iU) from⟨by omega,by omega⟩) ?_
  refine aa.mk ⟨h,(show ae .i64 ((ky w-iU).tdiv w.u2) from S0 (by omega) (by omega) (by omega))⟩ ?_
  have fL:min 100 ((ky w-iU).tdiv w.u2)=(if w.u2=0 then 100 else min 100 ((ky w-iU).tdiv w.u2)):=by rw[if_neg h]
  refine⟨(),(λj=>j),?_,?_,rfl,rfl,rfl,rfl⟩<;>repeat' (first|exact fL|exact trivial|exact rfl|exact List.Perm.refl _|(intro i hi;exact⟨rfl,rfl⟩)|(intro v m g h;exact h)|refine And.intro ?_ ?_)
 ·refine aJ [0] (g.ok _ _ _) (by kernel_rfl) (by decide) ⟨?_,trivial⟩
  refine aJ [3] (g.ok _ _ _) (by kernel_rfl) (by decide) ⟨?_,trivial⟩
  refine av (g.ok _ _ _) bm rfl rfl rfl rfl ⟨vu,?_⟩
  refine aO [jZ w 1,.si .i64 0,.sb true] (fN w) 2 (λj=>j) (by repeat' (first|exact trivial|exact rfl|exact dD|refine And.intro ?_ ?_)) rfl Q4 rfl rfl ?_
  refine xf hw ⟨rfl,Q1,Q0,?_⟩
  refine aJ [4] (g.ok _ _ _) (by kernel_rfl) (by decide) ⟨?_,trivial⟩
  refine av (g.ok _ _ _) bm rfl rfl rfl rfl ⟨MK,?_⟩
  refine aO [.sp 3 0] (bp w (bK [])) 4 (λj=>match j with|1=>4|2=>5|3=>6|j=>j) Q2 rfl Q4 rfl rfl ?_
  refine Sl hw (λq lv h=>by cases h) (λhc a9 bW=>⟨rfl,Q1,Q0,?_⟩) (λim _ _=>by rw[hc] at im;cases im)
  refine ef 5 (g.ok _ _ _) rfl rfl rfl rfl rfl rfl rfl (by kernel_rfl) (by kernel_rfl) (by kernel_rfl) ?_
  refine ef 6 (g.ok _ _ _) rfl rfl rfl rfl rfl rfl rfl (by kernel_rfl) (by kernel_rfl) (by kernel_rfl) ?_
  refine aJ [7] (g.ok _ _ _) (by kernel_rfl) (by decide) ⟨?_,trivial⟩
  refine j6 (by kernel_rfl) ?_
  refine Br.mk (λh=>?_) (λ_=>?_)
  ·exfalso
   have h:(!decide (iU≤ky w))=true:=h
   rw[decide_eq_true hle] at h;cases h
  refine Br.mk (λh=>?_) (λh=>?_)
  ·have h:w.u2=0:=of_decide_eq_true h
   have fL:(100:Int)=(if w.u2=0 then 100 else min 100 ((ky w-iU).tdiv w.u2)):=by rw[if_pos h]
   refine⟨(),(λj=>j),?_,?_,rfl,rfl,rfl,rfl⟩<;>repeat' (first|exact fL|exact trivial|exact rfl|exact List.Perm.refl _|(intro i hi;exact⟨rfl,rfl⟩)|(intro v m g h;exact h)|refine And.intro ?_ ?_)
  have h:¬w.u2=0:=of_decide_eq_false h
  refine aa.mk (show ae .i64 (ky w-iU) from⟨by omega,by omega⟩) ?_
  refine aa.mk ⟨h,(show ae .i64 ((ky w-iU).tdiv w.u2) from S0 (by omega) (by omega) (by omega))⟩ ?_
  have fL:min 100 ((ky w-iU).tdiv w.u2)=(if w.u2=0 then 100 else min 100 ((ky w-iU).tdiv w.u2)):=by rw[if_neg h]
  refine⟨(),(λj=>j),?_,?_,rfl,rfl,rfl,rfl⟩<;>repeat' (first|exact fL|exact trivial|exact rfl|exact List.Perm.refl _|(intro i hi;exact⟨rfl,rfl⟩)|(intro v m g h;exact h)|refine And.intro ?_ ?_)
end
end Go.X.Wr
namespace Go.X
open Go
section
variable {X:Cx}{ρ:Env}{w:World}
theorem Vu (hX:X.Ok)(hr:X.r=none){f:Nat}{fn:Func}{c:Code}(hf:X.P.funcs[f]?=some fn)(hb:fn.body=some c)(qx:fn.ntmps=X.nt)
  {args:List SV} {aM:List Value} {H:List (Nat × HB)} {nx:Nat} (hd:ai ρ args=some aM) (hlen:args.length≤X.nt) (hH:HM ρ (ab H) w)
  (hG:X.G=⟨w,Own ρ (ab H),ρ,Fz (ab H)⟩) (aU:∀j,nx≤j→ρ j=none) {Rv:SV→St→Prop} {Rp:List PanicEntry→St→Prop}
  (h:aX X c (start args H nx) (Fin X fn.results.toList Rv Rp)):Calls X.P f aM.toArray w (jL X Rv Rp):=by
 refine(callsIn_wide (n:=0)).1 ?_
 have hm:=zo (X:=X) hd hlen hH hG aU
 have hw:=h ρ _ w hm
 rw[hr] at hw
 refine callsIn_of_wp (F:=Fence.wide) hf hb trivial (wpIn_mono (by rw[qx];exact hw) ?_)
 rintro e a' w' ⟨x,af,ρ',rfl,an,hk⟩
 cases x with
 |normal =>
  simp only[Fin] at hk
  split at hk
  ·rename_i l e1 e2
   rw[gn] at hk
   obtain⟨u,h1,h2⟩:=qK hX an e1
   exact⟨pY (by rw[←e2];exact an.df),u,h1,.inl ⟨_,af,ρ',u,rfl,h2,an.mh,hk⟩⟩
  ·exact hk.elim
 |ret =>
  simp only[Fin] at hk
  split at hk
  ·rename_i l e1 e2
   rw[gn] at hk
   obtain⟨u,h1,h2⟩:=qK hX an e1
   exact⟨pY (by rw[←e2];exact an.df),u,h1,.inl ⟨_,af,ρ',u,rfl,h2,an.mh,hk⟩⟩
  ·exact hk.elim
 |panic ch =>
  simp only[Fin] at hk
  split at hk
  ·rename_i e2
   exact⟨pY (by rw[←e2];exact an.df),.inr ⟨ch,af,ρ',rfl,an.mh,hk⟩⟩
  ·exact hk.elim
 |exit n=>exact hk.elim
theorem Vp {P:Program}{T:cf}{C:Nat→Option Ct}(hX:∀G r nt,(⟨P,T,C,G,r,nt⟩:Cx).Ok){n:Nat}{fn:Func}{c:Code}(hf:P.funcs[n]?=some fn)(hb:fn.body=some c)
  {l:List SV} (hlen:l.length≤fn.ntmps) {H:List (Nat × HB)} {nx:Nat} {Rv:SV→List (Nat × HB)→Nat→Prop} {Rp:List PanicEntry→List (Nat × HB)→Nat→Prop}
  (h:∀G:cp,(∀j,nx≤j→G.ρ j=none)→aX ⟨P,T,C,G,none,fn.ntmps⟩ c (start l H nx) (Fin ⟨P,T,C,G,none,fn.ntmps⟩ fn.results.toList (λv st=>Rv v st.H st.nx) (λch st=>Rp ch st.H st.nx))) :
  bG P n l H nx Rv Rp:=by
 intro ρ w aM hm aU hd
 have gr:=Vu (X:=⟨P,T,C,⟨w,Own ρ (ab H),ρ,Fz (ab H)⟩,none,fn.ntmps⟩) (hX _ _ _) rfl hf hb rfl hd hlen hm rfl aU (h _ aU)
 refine gr.mono ?_
 rintro e w' (⟨v,st,ρ',u,rfl,hv,dc,hr⟩|⟨ch,st,ρ',rfl,dc,hr⟩)
 ·exact .inl ⟨v,st.H,st.nx,ρ',u,rfl,hv,dc.hm,dc.kp,dc.nx,hr⟩
 ·exact .inr ⟨ch,st.H,st.nx,ρ',rfl,dc.hm,dc.kp,dc.nx,hr⟩
end
end Go.X
namespace Go.X.Wr
open Go Go.Proofs Go.X
theorem XF {l:List (Nat × Ct)}(g:Good P T l):Good P T ((9,W.xT)::l):=g.add (W.Ka W.ah) (cZ _) (aw Tryz.func9 (c:=code Tryz.f9) rfl (by decide))
theorem Xd {l:List (Nat × Ct)}(g:Good P T l):Good P T ((63,W.qd)::l):=g.add (W.Fm W.ah) (cZ _) (aw Tryz.func63 (c:=code Tryz.f63) rfl (by decide))
def Wn (i:Nat):jm:=match i with
 |0=>⟨0,10,0,0⟩
 |_=>⟨1,0,85,95⟩
def w0:Wd:=⟨100,102,0,2,2,Wn⟩
theorem Tn:eb w0=true:=by decide +kernel
theorem Tk:cH w0=true:=by decide +kernel
theorem ad8:aF w0 (bj w0) 1=(85,95):=by decide +kernel
theorem Tm:ky w0=85:=by decide +kernel
theorem ad9:Ge w0 0=.bn [.agg [.si .i64 85,.si .i64 95],.si .i64 0]:=by
 unfold Ge
 rw[Tk,ad8];rfl
theorem ad_:Gf w0 81=.bn [.si .i64 2,.si .i64 0]:=by
 unfold Gf
 rw[Tm];rfl
section
variable {Rv:SV→List (Nat × HB)→Nat→Prop}{Rp:List PanicEntry→List (Nat × HB)→Nat→Prop}
theorem a6 (aY:Rv (.bn [.agg [.si .i64 85,.si .i64 95],.si .i64 0]) (fN w0) 2):bG P 61 [jZ w0 1,.si .i64 0] (fN w0) 2 Rv Rp :=
 s6 Tn (m:=0) (by decide) (by rw[ad9];exact aY)
theorem TV (aY:Rv (.bn [.si .i64 2,.si .i64 0]) (fN w0) 2):bG P 62 [jZ w0 1,.si .i64 81] (fN w0) 2 Rv Rp :=
 qM Tn Tk (by decide) (by decide) (by rw[Tm];decide) (by rw[ad_];exact aY)
theorem s4:bG P 25 [] [(0,.ax 2 gF)] 1 (λv _ _=>v=.sb true) (λ_ _ _=>False):=by
 have g:=XF (Xd ah)
 refine Vp g.ok Tryz.func25 (c:=code Tryz.f25) rfl (Nat.le_of_ble_eq_true rfl) (λG hG=>?_)
 refine fi (cW (g.ok _ _ _) _ _ _ ?_)
 refine(show aX _ _ _ _ from ?_)
 refine fi (cW (g.ok _ _ _) _ _ _ ?_)
 refine(show aX _ _ _ _ from ?_)
 refine kF (af:=⟨[(1,⟨[],.sp 2 0⟩)],[],[(0,.ax 2 gF),(1,.vec 77 4 2 (mO w0)),(2,.cells 45 [.si .i64 100,.si .i64 102,.si .i64 0,.si .i64 2,.sl 1])],3,[]⟩) 1 (λj=>j) hG (by
  refine⟨?_,?_,rfl,rfl,rfl,rfl,trivial⟩<;>repeat' (first|exact trivial|exact rfl|exact List.Perm.refl _|(intro i hi;rcases(show i=0∨i=1 by have:i<2:=hi;omega) with rfl|rfl<;>exact⟨rfl,rfl⟩)|(intro v m g h;exact h)|refine And.intro ?_ ?_)) ?_
 refine acX 1 2 45 77 4 2 (mO w0) _ [.si .i64 100,.si .i64 102,.si .i64 0,.si .i64 2,.sl 3] rfl rfl rfl ?_
 refine cW (g.ok _ _ _) _ _ _ ?_
 refine av (g.ok _ _ _) aj rfl rfl rfl rfl ⟨b6,?_⟩
 refine aO [jZ w0 1,.si .i64 0] (fN w0) 2 (λj=>match j with|1=>3|j=>j) Q2 rfl Q4 rfl rfl ?_
 refine a6 ⟨rfl,Q1,Q0,?_⟩
 refine av (g.ok _ _ _) aj rfl rfl rfl rfl ⟨Ux,?_⟩
 refine aO [jZ w0 1,.si .i64 81] (fN w0) 2 (λj=>match j with|1=>3|j=>j) Q2 rfl Q4 rfl rfl ?_
 refine TV ⟨rfl,Q1,Q0,?_⟩
 refine cU (g.ok _ _ _) bP [0,0,3,7,15,31,63,127,255,511,1023,2047,4095,8191,16383,32767,65535,131071,262143] [] 19 (by kernel_rfl) ?_
 exact rfl
end
def c4:Ct:=λfr args H=>match args with
 |[]=>(match H 0 with
  |some (.ax s C)=>some ⟨some (s=2∧C=gF),none,.sb true,[]⟩
  |_=>none)
 |_=>none
theorem DJ:cY c4:=by
 intro fr args H H' out hH h
 unfold c4 at h ⊢
 split at h
 ·split at h
  ·rename_i e1
   rw[hH _ _ e1]
   exact h
  ·cases h
 ·cases h
theorem k4:aP P 25 c4:=by
 refine x7 (T:=T) (C:=aC []) (nt:=41) λfr args H out h hp=>?_
 unfold c4 at h
 split at h
 case h_2=>cases h
 split at h
 case h_2=>cases h
 rename_i s C e1
 cases h
 obtain⟨rfl,rfl⟩:s=2∧C=gF:=hp
 refine⟨[(0,.ax 2 gF)],[],[(0,.ax 2 gF)],1,[],rfl,rfl,Nat.zero_le _,?_,rfl,rfl,fun ρ w aM hd hm aU=>?_⟩
 ·refine uq ?_ ?_ rfl
  ·exact⟨e1,trivial⟩
  ·exact⟨trivial,trivial⟩
 ·refine(s4 ρ w aM hm aU hd).mono ?_
  rintro e w' (⟨v,H',aA,ρ',u,rfl,h1,h2,h3,h4,rfl⟩|⟨_,_,_,_,_,_,_,_,hF⟩)
  ·exact .inl ⟨.sb true,⟨[],[],H',aA,[]⟩,ρ',u,rfl,h1,⟨h2,h3,h4⟩,.inl rfl,bU rfl rfl rfl ⟨trivial,trivial⟩⟩
  ·exact hF.elim
theorem g4 {l:List (Nat × Ct)}(g:Good P T l):Good P T ((25,c4)::l):=g.add k4 DJ (aw Tryz.func25 (c:=code Tryz.f25) rfl (by decide))
end Go.X.Wr
namespace Go.X.Lt
open Go Go.Proofs Go.X
open Go.X.Gr (aB az au bQ dj ca da hasB cD dW eA aE bZ iC bc bR code fq)
open Go.X.Wr (gF)
theorem FB {i:Nat}(h:i<4):i=0∨i=1∨i=2∨i=3:=by omega
theorem Ma:dp oI where
 nB:=by decide
 nO:=by decide
 g7:=by decide
 nP:=rfl
 gz:=by decide +kernel
 gb:=λb hb=>by rcases FB hb with rfl|rfl|rfl|rfl<;>decide +kernel
 bE:=λi hi=>by
  have hi:i<3:=hi
  rcases(show i=0∨i=1∨i=2 by omega) with rfl|rfl|rfl<;>decide
 od:=λi hi=>by
  have hi:i<2:=hi
  rcases(show i=0∨i=1 by omega) with rfl|rfl<;>decide
 has:=λb hb=>by rcases FB hb with rfl|rfl|rfl|rfl<;>decide +kernel
theorem VR:(jr oI).gx=2∧(jr oI).om=4∧(jr oI).o 0=1∧(jr oI).o 1=0∧(jr oI).o 2=-1∧(jr oI).o 3=-1:=by decide +kernel
theorem ad4:(fQ (ed oI) 4).1=55∧(fQ (ed oI) 4).2=65:=by decide +kernel
theorem Xi {l:List (Nat × Ct)}(g:Good P T l):Good P T ((25,Wr.c4)::l):=g.add Wr.k4 Wr.DJ (aw Tryz.func25 (c:=code Tryz.f25) rfl (by decide))
def Mn:Nat→Int
 |0=>1
 |1=>0
 |_=>-1
def c5:Ct:=λfr args H=>match args with
 |[]=>(match H 0 with
  |some (.ax s C)=>some ⟨some (s=2∧C=gF),none,.sb true,[]⟩
  |_=>none)
 |_=>none
theorem DK:cY c5:=by
 intro fr args H H' out hH h
 unfold c5 at h ⊢
 split at h
 ·split at h
  ·rename_i e1
   rw[hH _ _ e1]
   exact h
  ·cases h
 ·cases h
theorem k5:aP P 5 c5:=by
 have g:=ON (OJ (OK (g9 (Xh (Xi ah)))))
 refine bq (C:=aC _) g.ok Tryz.func5 (c:=code Tryz.f5) rfl λfr args H out h hp=>?_
 unfold c5 at h
 split at h
 case h_2=>cases h
 split at h
 case h_2=>cases h
 rename_i s C e1
 cases h
 obtain⟨rfl,rfl⟩:s=2∧C=gF:=hp
 refine⟨[(0,.ax 2 gF)],[],[(0,.ax 2 gF)],1,[],rfl,rfl,Nat.zero_le _,uq ⟨e1,trivial⟩ ⟨trivial,trivial⟩ rfl,rfl,rfl,λG hG=>?_⟩
 refine aa.mk ⟨lX oI,Ma⟩ ?_
 refine aa.mk ⟨lX oI,Ma⟩ ?_
 obtain⟨d1,d2,d3,d4,d5,d6⟩:=VR
 obtain⟨v1,v2⟩:=ad4
 refine(show aX _ _ _ _ from ?_)
 refine kF (af:=⟨[(1,⟨[],.si .i64 2⟩),(2,⟨[],.sl 1⟩),(3,⟨[],.si .i64 0⟩),(4,⟨[],.sp 2 0⟩),(5,⟨[],.si .i64 0⟩)],[],[(0,.ax 2 gF),(1,.vec 3 1 4 λi=>iC (Mn i)),(2,.cells 36 [.si .i64 55,.si .i64 65])],3,[]⟩) 1 (λj=>match j with|1=>5|2=>13|j=>j) hG ⟨AU,?_,rfl,rfl,rfl,rfl,trivial⟩ ?_
 ·refine⟨AU,⟨⟨⟨rfl,rfl,d2,λi hi=>?_⟩,rfl⟩,AU⟩⟩
  have hi:i<(jr oI).om:=hi
  rw[d2] at hi
  rcases FB hi with rfl|rfl|rfl|rfl
  ·exact⟨congrArg iC d3,rfl⟩
  ·exact⟨congrArg iC d4,rfl⟩
  ·exact⟨congrArg iC d5,rfl⟩
  ·exact⟨congrArg iC d6,rfl⟩
 refine cU (g.ok _ _ _) bP [0,1,3,7,7,31,63,127,255,511,1023,2047,4095,4095,16383,32767,65535,131071,262143,524287,1048575,2097151,4194303,8388607] [] 24 (by kernel_rfl) ?_
 refine aa.mk (bZ (show(vn 4 (λi=>iC (Mn i))∧4≤1000000)∧vn 4 (λi=>pT 1 (nY (i*1) [SV.si .i64 1,.si .i64 0,.si .i64 (-1),.si .i64 (-1)])) from⟨⟨λi hi=>rfl,by decide⟩,λi hi=>by rcases FB hi with rfl|rfl|rfl|rfl<;>rfl⟩)) ?_
 refine aa.mk (bZ (show 2=2∧gF=gF from⟨rfl,rfl⟩)) ?_
 exact⟨.inl rfl,bU rfl rfl rfl AU⟩
theorem g5 {l:List (Nat × Ct)}(g:Good P T l):Good P T ((5,c5)::l):=g.add k5 DK (aw Tryz.func5 (c:=code Tryz.f5) rfl (by decide))
end Go.X.Lt
namespace Go.X.Wr
open Go Go.Proofs Go.X
def iT (v:Int)(s:Sp):Prop:=s.1≤v∧v≤s.2
def eH:Ef→Int→Int→Prop
 |.tk s,v,v'=>∃t,s.1≤t∧t≤s.2∧v'=v-t
 |.rd s,v,v'=>iT v s∧v'=v
 |.no,v,v'=>v'=v
theorem UR {a b:Sp}{v:Int}(ha:iT v a)(hb:iT v b):iT v (gj a b):=by
 unfold iT at *
 unfold gj
 rw[if_pos (by omega)]
 exact⟨by show max a.1 b.1≤v;omega,by show v≤min a.2 b.2;omega⟩
theorem J4 {a b:Sp}{v:Int}(h:iT v (gj a b)):iT v a∧iT v b:=by
 unfold gj at h
 split at h
 ·have h1:max a.1 b.1≤v:=h.1
  have h2:v≤min a.2 b.2:=h.2
  unfold iT;omega
 ·have h1:(1048576:Int)≤v:=h.1
  have h2:v≤(-1048576:Int):=h.2
  omega
theorem TZ {e:Ef}{v v':Int}{k:Sp}(h:eH e v v')(hk:iT v k):iT v' (nH e k):=by
 cases e with
 |tk s =>
  obtain⟨t,h1,h2,rfl⟩:=h
  unfold iT at *
  exact⟨by show k.1-s.2≤v-t;omega,by show v-t≤k.2-s.1;omega⟩
 |rd s=>obtain⟨h1,rfl⟩:=h;exact UR hk h1
 |no=>obtain rfl:v'=v:=h;exact hk
def ow (m:Int)(s:Sp):Prop:=s.1≤s.2∨s.2+m<s.1
theorem MX (a b:Sp){m:Int}(hm:m≤2000000):ow m (gj a b):=by
 unfold gj ow
 split
 ·left;assumption
 ·right;show(-1048576:Int)+m<1048576;omega
def HU:Ef→Prop
 |.tk s=>s.1≤s.2
 |_=>True
theorem UL {e:Ef}{v m:Int}{B:Sp}(he:ri e)(hn:HU e)(hB:ow m B)(hm:1000≤m)(h:iT v (kN e B)):∃v',eH e v v'∧iT v' B:=by
 cases e with
 |tk s =>
  have h1:B.1+s.1≤v:=h.1
  have h2:v≤B.2+s.2:=h.2
  have hn:s.1≤s.2:=hn
  have g1:=he.1
  have g2:=he.2
  unfold ow at hB
  refine⟨max B.1 (v-s.2),⟨v-max B.1 (v-s.2),by omega,by omega,by omega⟩,?_⟩
  unfold iT;omega
 |rd s=>obtain⟨h1,h2⟩:=J4 h;exact⟨v,⟨h2,rfl⟩,h1⟩
 |no=>exact⟨v,rfl,h⟩
theorem NO {w:Wd}(hw:eb w=true)(q:Qn){i:Nat}(hi:i<w.n):HU (oX w q i):=by
 obtain⟨_,hu,hn,uz⟩:=lf hw
 have he:=H9 (uz i hi)
 unfold oX tz
 split
 ·show(w.ev i).gM*w.u1≤(w.ev i).gM*w.u2
  exact Int.mul_le_mul_of_nonneg_left hu.2.1 (by omega)
 ·split
  ·show(w.ev i).lo≤(w.ev i).hi;omega
  ·split<;>trivial
theorem T0 {e:Ef}(he:ri e)(hn:HU e){k:Sp}{m:Int}(hm:m≤2000000)(hk:ow m k):ow (m-60) (nH e k):=by
 cases e with
 |tk s =>
  have hn:s.1≤s.2:=hn
  have g1:=he.1
  have g2:=he.2
  unfold ow at *
  show k.1-s.2≤k.2-s.1∨k.2-s.1+(m-60)<k.1-s.2
  omega
 |rd s=>exact MX _ _ (by omega)
 |no=>unfold ow at *;show k.1≤k.2∨k.2+(m-60)<k.1;omega
theorem OH {w:Wd}(hw:eb w=true){q:Qn}(hq:q.lo≤q.hi):∀i,i≤w.n→ow (2000000-60*(i:Int)) (gD w q i)
 |0,_=>.inl hq
 |i+1,h=>by
  have h1:=T0 (vJ hw q (i:=i) (by omega)) (NO hw q (i:=i) (by omega)) (by omega) (OH hw hq i (by omega))
  have e:(2000000-60*(i:Int)-60)=2000000-60*((i+1:Nat):Int):=by omega
  rw[e] at h1
  exact h1
theorem UM {w:Wd}(hw:eb w=true){q:Qn}(hq:q.lo≤q.hi):∀k,ow 1000 (mG w q k)
 |0=>by
  have h:=OH hw hq w.n (Nat.le_refl _)
  have:=(lf hw).2.2.1
  unfold ow at h
  show ow 1000 (gD w q w.n)
  unfold ow;omega
 |k+1=>MX _ _ (by decide)
theorem To {w:Wd}(hw:eb w=true){q q':Qn}(hq:q.lo≤q.hi)(hr:q'.reads=q.reads):∀k v,k≤w.n→iT v (mG w q k)→iT v (gD w q' (w.n-k))→∃v',iT v' (gD w q' w.n)
 |0,v,_,_,h=>⟨v,h⟩
 |k+1,v,hk,h1,h2=>by
  have h3:iT v (kN (oX w q (w.n-(k+1))) (mG w q k)):=(J4 h1).2
  obtain⟨v',g1,g2⟩:=UL (vJ hw q (i:=w.n-(k+1)) (by omega)) (NO hw q (i:=w.n-(k+1)) (by omega)) (UM hw hq k) (by decide) h3
  refine To hw hq hr k v' (by omega) g2 ?_
  have e:w.n-k=w.n-(k+1)+1:=by omega
  rw[e]
  show iT v' (nH (oX w q' (w.n-(k+1))) (gD w q' (w.n-(k+1))))
  have ee:oX w q' (w.n-(k+1))=oX w q (w.n-(k+1)):=by unfold oX;rw[hr]
  rw[ee]
  exact TZ g1 h2
theorem aea {w:Wd}(hw:eb w=true)(hc:cH w=true):(gD w ⟨fx w w.n,(aF w (bj w) 0).1,(aF w (bj w) 0).1⟩ w.n).1≤(gD w ⟨fx w w.n,(aF w (bj w) 0).1,(aF w (bj w) 0).1⟩ w.n).2:=by
 have hc:(aF w (bj w) 0).1≤(aF w (bj w) 0).2:=of_decide_eq_true hc
 have e:aF w (bj w) 0=mG w (bj w) w.n:=by unfold aF;rw[if_pos (Nat.zero_le _),Nat.sub_zero]
 have hq:(bj w).lo≤(bj w).hi:=by have:=(lf hw).1;show w.l1≤w.l2;omega
 rw[e] at hc ⊢
 obtain⟨v',h1,h2⟩:=To hw (q:=bj w) (q':=⟨fx w w.n,(mG w (bj w) w.n).1,(mG w (bj w) w.n).1⟩) hq rfl w.n (mG w (bj w) w.n).1 (Nat.le_refl _) ⟨Int.le_refl _,hc⟩ (by rw[Nat.sub_self];exact⟨Int.le_refl _,Int.le_refl _⟩)
 omega
def eW (w:Wd):Nat→Sp
 |0=>(1073741824,-1073741824)
 |k+1=>(min (eW w k).1 ((aF w (bj w) 0).1+(k:Int)-(gD w ⟨fx w w.n,(aF w (bj w) 0).1+(k:Int),(aF w (bj w) 0).1+(k:Int)⟩ w.n).2),max (eW w k).2 ((aF w (bj w) 0).1+(k:Int)-(gD w ⟨fx w w.n,(aF w (bj w) 0).1+(k:Int),(aF w (bj w) 0).1+(k:Int)⟩ w.n).1))
theorem Q' {w:Wd}(hw:eb w=true)(hc:cH w=true):∀k,(eW w (k+1)).1≤(eW w (k+1)).2
 |0=>by
  have h:=aea hw hc
  unfold eW
  rw[show(aF w (bj w) 0).1+((0:Nat):Int)=(aF w (bj w) 0).1 by omega]
  show min _ _≤max _ _
  omega
 |k+1=>by
  have h:=Q' hw hc k
  rw[eW]
  show min (eW w (k+1)).1 _≤max (eW w (k+1)).2 _
  omega
def tZ (h l:Int)(s:Sp):Prop:=s.2≤h∧l≤s.1
theorem UQ {a b:Sp}{h l:Int}(ha:tZ h l a)(hh:-1048576≤h)(hl:l≤1048576):tZ h l (gj a b):=by
 unfold tZ at *
 unfold gj
 split
 ·exact⟨by show min a.2 b.2≤h;omega,by show l≤max a.1 b.1;omega⟩
 ·exact⟨hh,hl⟩
theorem TX {e:Ef}(he:ri e){k:Sp}{h l:Int}(hk:tZ h l k)(hh:-1048576≤h)(hl:l≤1048576):tZ h (l-60) (nH e k):=by
 cases e with
 |tk s =>
  have g1:=he.1
  have g2:=he.2
  unfold tZ at *
  exact⟨by show k.2-s.1≤h;omega,by show l-60≤k.1-s.2;omega⟩
 |rd s=>have:=UQ (b:=s) hk hh hl;exact⟨this.1,by have:=this.2;show l-60≤(gj k s).1;omega⟩
 |no=>unfold tZ at *;exact⟨hk.1,by show l-60≤k.1;omega⟩
theorem Iu {w:Wd}(hw:eb w=true){q:Qn}(h1:-1048576≤q.hi)(h2:q.lo≤1048576):∀i,i≤w.n→tZ q.hi (q.lo-60*(i:Int)) (gD w q i)
 |0,_=>⟨Int.le_refl _,by show q.lo-60*((0:Nat):Int)≤q.lo;omega⟩
 |i+1,h=>by
  have h3:=TX (vJ hw q (i:=i) (by omega)) (Iu hw h1 h2 i (by omega)) h1 (by omega)
  exact⟨h3.1,by have:=h3.2;show q.lo-60*((i+1:Nat):Int)≤(nH (oX w q i) (gD w q i)).1;omega⟩
end Go.X.Wr
namespace Go.X
open Go
theorem XU (ops:List Oper)(F:Nat→Option FE):guardOf ops F none=some []:=rfl
theorem eO {X:Cx}{ops:List Oper}{o:Oper}{st:St}{Fb:Prop}{K:St→Prop}{Kp:List PanicEntry→St→Prop}{pre:Prop}{v:SV}(hg:o.guard=none)(hp:eF st.gs X.nt o.dst=false)(hc:core X.T (findF st.F) [] (ab st.H) st.nx o.op=some ⟨some pre,v,.no⟩)(iS:pre)(h:xH .no st v o.dst K):Cy X ops o st Fb K Kp:=by
 unfold Cy
 rw[hg,hp,XU,hc]
 exact aa.mk iS h
end Go.X
namespace Go.X.Wr
open Go Go.Proofs Go.X
theorem Ky {w:Wd}(hw:eb w=true){a:Int}(ha:0≤a∧(aF w (bj w) 0).1=a)(hb:a≤300):∀k:Nat,(k:Int)≤1000→0≤(eW w k).1∧(eW w k).2≤480∧((eW w k).1≤1073741824∧-1073741824≤(eW w k).2)
 |0,_=>by show(0:Int)≤1073741824∧(-1073741824:Int)≤480∧((1073741824:Int)≤1073741824∧(-1073741824:Int)≤-1073741824);decide
 |k+1,h=>by
  have ih:=Ky hw ha hb k (by omega)
  have h1:=Iu hw (q:=⟨fx w w.n,a+(k:Int),a+(k:Int)⟩) (show(-1048576:Int)≤a+(k:Int) by omega) (show a+(k:Int)≤1048576 by omega) w.n (Nat.le_refl _)
  have h2:(gD w ⟨fx w w.n,a+(k:Int),a+(k:Int)⟩ w.n).2≤a+(k:Int):=h1.1
  have h3:a+(k:Int)-60*(w.n:Int)≤(gD w ⟨fx w w.n,a+(k:Int),a+(k:Int)⟩ w.n).1:=h1.2
  have hn:=(lf hw).2.2.1
  unfold eW
  rw[ha.2]
  show 0≤min _ _∧max _ _≤480∧(min _ _≤1073741824∧-1073741824≤max _ _)
  omega
theorem QT {w:Wd}(hw:eb w=true)(hc:cH w=true):0≤(aF w (bj w) 0).1∧(aF w (bj w) 0).1≤(aF w (bj w) 0).2∧(aF w (bj w) 0).2≤300:=by
 have hc:(aF w (bj w) 0).1≤(aF w (bj w) 0).2:=of_decide_eq_true hc
 have h1:=(lf hw).1
 have e:aF w (bj w) 0=mG w (bj w) w.n:=by unfold aF;rw[if_pos (Nat.zero_le _),Nat.sub_zero]
 rw[e] at hc ⊢
 have key:∀v,iT v (mG w (bj w) w.n)→w.l1≤v∧v≤w.l2:=λv hv=>by
  cases hn:w.n with
  |zero=>rw[hn] at hv;have hv:iT v (gD w (bj w) w.n):=hv;rw[hn] at hv;exact hv
  |succ k =>
   rw[hn] at hv
   have h2:=(J4 hv).1
   rw[hn,Nat.sub_self] at h2
   exact h2
 have k1:=key _ ⟨Int.le_refl _,hc⟩
 have k2:=key _ ⟨hc,Int.le_refl _⟩
 omega
def gw (w:Wd):Nat:=((aF w (bj w) 0).2-(aF w (bj w) 0).1+1).toNat
def zd (w:Wd):SV:=.bn [.agg (bg (if cH w then eW w (gw w) else(0,0))),.si .i64 (if cH w then 0 else 10)]
theorem aa0 {w:Wd}(hw:eb w=true)(hc:cH w=true):0≤(eW w (gw w)).1∧(eW w (gw w)).1≤(eW w (gw w)).2∧(eW w (gw w)).2≤480:=by
 have h0:=QT hw hc
 have hn:gw w=((aF w (bj w) 0).2-(aF w (bj w) 0).1).toNat+1:=by unfold gw;omega
 have h1:=Ky hw ⟨h0.1,rfl⟩ (by omega) (gw w) (by rw[hn];omega)
 have h2:=Q' hw hc ((aF w (bj w) 0).2-(aF w (bj w) 0).1).toNat
 rw[←hn] at h2
 omega
def loH (w:Wd)(es:List (Qn × (Nat→Sp)))(a b:Int)(o:Sp):List (Nat × HB):=[(0,.ax 2 gF),(1,.ro 4 w.n (mO w)),(2,.cells 36 [.si .i64 0,.si .i64 0]),(3,.cells 47 [.si .i64 0]),(4,.vec 77 4 w.n (mO w)),(5,.mp (bK es)),(6,.cells 94 [.si .i64 w.l1,.si .i64 w.l2,.si .i64 w.u1,.si .i64 w.u2,.sl 4,.sm 5]),(7,.cells 83 [.si .i64 a,.si .i64 b]),(8,.cells 83 (bg o))]
theorem MG:Body P 11:=aw Tryz.func11 (c:=code Tryz.f11) rfl (by decide)
section
variable {w:Wd}{Rv:SV→List (Nat × HB)→Nat→Prop}{Rp:List PanicEntry→List (Nat × HB)→Nat→Prop}
theorem Sk (hw:eb w=true)(aY:Rv (zd w) (fN w) 2):bG P 11 [jZ w 1] (fN w) 2 Rv Rp:=by
 have g:=ah
 obtain⟨h1,h2,h3,h4⟩:=lf hw
 refine Ad (ι:=Unit) (κ:=Empty) (λ_=>zd w) (λ_=>fN w) 2 (λ_=>iX 10) (λx=>fN w) 2 (Hz g.ok vp Tryz.func11 (c:=code Tryz.f11) rfl (Nat.le_of_ble_eq_true rfl) (λG hG=>?_)) (λ_=>aY) (λx=>x.elim)
 refine AK (g.ok _ _ _) rfl aj rfl rfl rfl rfl ?_
 refine av (g.ok _ _ _) aj rfl rfl rfl rfl ⟨vu,?_⟩
 refine aO [jZ w 1,.si .i64 0,.sb true] (fN w) 2 (λj=>j) AU rfl AU rfl rfl ?_
 refine xf hw ⟨rfl,AU,AU,?_⟩
 refine av (g.ok _ _ _) aj rfl rfl rfl rfl ⟨tV,?_⟩
 refine aO [.sp 3 0] (bp w (bK [])) 4 (λj=>match j with|1=>5|2=>6|3=>7|j=>j) AU rfl AU rfl rfl ?_
 refine vb hw (λq lv h=>by cases h) (λhc es hk=>⟨rfl,AU,AU,?_⟩) (λhc es hk=>⟨rfl,AU,AU,?_⟩)
 case refine_2 =>
  have e1:(0:Int)=(if cH w then eW w (gw w) else(0,0)).1:=by rw[hc];rfl
  have e2:(0:Int)=(if cH w then eW w (gw w) else(0,0)).2:=by rw[hc];rfl
  have e3:(10:Int)=(if cH w then 0 else 10):=by rw[hc];rfl
  exact⟨(),(λj=>j),AU,AU,rfl,rfl,rfl,rfl⟩
 have h0:=QT hw hc
 refine aa.mk ⟨by decide,by decide⟩ ?_
 obtain⟨a,ha⟩:∃a,(aF w (bj w) 0).1=a:=⟨_,rfl⟩
 obtain⟨b,hb⟩:∃b,(aF w (bj w) 0).2=b:=⟨_,rfl⟩
 have Bu:gw w=(b-a+1).toNat:=by unfold gw;rw[ha,hb]
 rw[ha,hb] at h0
 have e0:(aF w (bj w) 0).1=a+((0:Nat):Int):=by rw[ha];omega
 have hN:w.n=0∨w.n=1∨w.n=2∨w.n=3∨w.n=4∨w.n=5∨w.n=6∨w.n=7∨w.n=8:=by omega
 refine cm (g.ok _ _ _) 2 (λz:{z:Nat × List (Qn × (Nat→Sp)) // z.1≤gw w∧dV w z.2}=>⟨[(2,⟨[],.sp 2 0⟩),(3,⟨[],.sp 3 0⟩),(4,⟨[],.sp 6 0⟩),(5,⟨[],.sp 7 0⟩),(6,⟨[],.sp 8 0⟩),(7,⟨[],.si .i64 (a+(z.1.1:Int))⟩)],[],loH w z.1.2 a b (eW w z.1.1),9,[(30,[.sp 3 0])]⟩) (λz=>gw w-z.1.1) hG ⟨(0,es),Nat.zero_le _,hk⟩ (λj=>match j with|2=>3|3=>4|4=>5|5=>6|6=>7|7=>8|8=>9|j=>j) ⟨AU,AU,rfl,rfl,rfl,rfl,AU⟩ ?_
 rintro⟨⟨k,dq⟩,hi,c9⟩
 have hi:k≤gw w:=hi
 have c9:dV w dq:=c9
 have Jq:=Ky hw ⟨h0.1,ha⟩ (by omega) k (by omega)
 refine Br.mk (λh=>?_) (λh=>?_)
 ·have h:a+(k:Int)≤b:=of_decide_eq_true h
  have Bd:=Iu hw (q:=⟨fx w w.n,a+(k:Int),a+(k:Int)⟩) (show(-1048576:Int)≤a+(k:Int) by omega) (show a+(k:Int)≤1048576 by omega) w.n (Nat.le_refl _)
  have jT:(gD w ⟨fx w w.n,a+(k:Int),a+(k:Int)⟩ w.n).2≤a+(k:Int):=Bd.1
  have EF:a+(k:Int)-60*(w.n:Int)≤(gD w ⟨fx w w.n,a+(k:Int),a+(k:Int)⟩ w.n).1:=Bd.2
  have PF:kc 0 (a+(k:Int),a+(k:Int)):=⟨⟨by show -1100000-0≤a+(k:Int);omega,by show a+(k:Int)≤1100000+0;omega⟩,by show -1100000-0≤a+(k:Int);omega,by show a+(k:Int)≤1100000+0;omega⟩
  have pq:=(vZ hw (q:=⟨fx w w.n,a+(k:Int),a+(k:Int)⟩) PF w.n (Nat.le_refl _))
  obtain⟨q,hq⟩:∃q:Qn,q=⟨fx w w.n,a+(k:Int),a+(k:Int)⟩:=⟨_,rfl⟩
  have eR:(fx w w.n:Int)=(q.reads:Int):=by rw[hq]
  have eq1:a+(k:Int)=q.lo:=by rw[hq]
  have eq2:a+(k:Int)=q.hi:=by rw[hq]
  have el:aF w q w.n=gD w q w.n:=by unfold aF;rw[if_pos (Nat.le_refl _),Nat.sub_self];rfl
  rw[←hq] at jT EF pq
  rw[←el] at jT EF pq
  unfold kc at pq
  have aeN:min (eW w k).1 (a+(k:Int)-(aF w q w.n).2)=(eW w (k+1)).1:=by rw[el,hq,eW,ha]
  have aeO:max (eW w k).2 (a+(k:Int)-(aF w q w.n).1)=(eW w (k+1)).2:=by rw[el,hq,eW,ha]
  have en:a+(k:Int)+1=a+((k+1:Nat):Int):=by omega
  have gI:q.reads<256:=by rw[hq];exact K2 h3
  have gH:kc 0 (q.lo,q.hi):=by rw[hq];exact PF
  have dL:∀q:Qn,(match hU true 2 (((w.n:Nat):Int).toNat*2) (uQ (aF w q)) with
    |some s=>some (⟨some (0≤(w.n:Int)∧(w.n:Int)<((9:Nat):Int)),s,.no⟩:Out)
    |none=>none)=some ⟨some (0≤(w.n:Int)∧(w.n:Int)<((9:Nat):Int)),.agg (bg (aF w q w.n)),.no⟩:=λq=>by
   generalize aF w q=lv
   rcases hN with e|e|e|e|e|e|e|e|e<;>rw[e]<;>rfl
  refine(show aX _ _ _ _ from ?_)
  refine lT Go.X.Wr.bP ?_
  refine aT 0 (g.ok _ _ _) ?_
  refine aT 1 (g.ok _ _ _) ?_
  refine aT 3 (g.ok _ _ _) ?_
  refine aT 4 (g.ok _ _ _) ?_
  refine aT 5 (g.ok _ _ _) ?_
  refine aT 6 (g.ok _ _ _) ?_
  refine aT 9 (g.ok _ _ _) ?_
  refine aT 10 (g.ok _ _ _) ?_
  refine aT 11 (g.ok _ _ _) ?_
  refine aT 12 (g.ok _ _ _) ?_
  refine aS [2,13,16] (g.ok _ _ _) ⟨?_,?_,?_,trivial⟩
  refine av (g.ok _ _ _) bm rfl rfl rfl rfl ⟨qa,?_⟩
  refine aO [.sp 3 0] (bp w (bK dq)) 4 (λj=>match j with|1=>4|2=>5|3=>6|j=>j) AU rfl AU rfl rfl ?_
  refine qN hw ⟨rfl,AU,AU,?_⟩
  refine aT 7 (g.ok _ _ _) ?_
  refine aS [8,13,16] (g.ok _ _ _) ⟨?_,?_,?_,trivial⟩
  refine av (g.ok _ _ _) bm rfl rfl rfl rfl ⟨fK,?_⟩
  refine aO [.sp 3 0,dP q] (bp w (bK dq)) 4 (λj=>match j with|1=>4|2=>5|3=>6|j=>j) AU rfl AU rfl rfl ?_
  refine ga hw gH gI c9 λeJ bA=>⟨rfl,AU,AU,?_⟩
  refine aS [13,16] (g.ok _ _ _) ⟨?_,?_,trivial⟩
  refine aS [14,16] (g.ok _ _ _) ⟨?_,?_,trivial⟩
  refine aS [15,16] (g.ok _ _ _) ⟨?_,?_,trivial⟩
  refine eO (pre:=0≤(w.n:Int)∧(w.n:Int)<((9:Nat):Int)) (v:=.agg (bg (aF w q w.n))) rfl rfl (by exact dL q) ⟨by omega,by omega⟩ ?_
  refine aS [16] (g.ok _ _ _) ⟨?_,trivial⟩
  rotate_left 1
  refine aS [15] (g.ok _ _ _) ⟨?_,trivial⟩
  refine eO (pre:=0≤(w.n:Int)∧(w.n:Int)<((9:Nat):Int)) (v:=.agg (bg (aF w q w.n))) rfl rfl (by exact dL q) ⟨by omega,by omega⟩ ?_
  rotate_left 1
  refine aS [14] (g.ok _ _ _) ⟨?_,trivial⟩
  refine aS [15] (g.ok _ _ _) ⟨?_,trivial⟩
  refine eO (pre:=0≤(w.n:Int)∧(w.n:Int)<((9:Nat):Int)) (v:=.agg (bg (aF w q w.n))) rfl rfl (by exact dL q) ⟨by omega,by omega⟩ ?_
  rotate_left 1
  refine aS [13] (g.ok _ _ _) ⟨?_,trivial⟩
  refine aS [14] (g.ok _ _ _) ⟨?_,trivial⟩
  refine aS [15] (g.ok _ _ _) ⟨?_,trivial⟩
  refine eO (pre:=0≤(w.n:Int)∧(w.n:Int)<((9:Nat):Int)) (v:=.agg (bg (aF w q w.n))) rfl rfl (by exact dL q) ⟨by omega,by omega⟩ ?_
  rotate_left 1
  refine aS [8,14,16] (g.ok _ _ _) ⟨?_,?_,?_,trivial⟩
  refine av (g.ok _ _ _) bm rfl rfl rfl rfl ⟨fK,?_⟩
  refine aO [.sp 3 0,dP q] (bp w (bK dq)) 4 (λj=>match j with|1=>4|2=>5|3=>6|j=>j) AU rfl AU rfl rfl ?_
  refine ga hw gH gI c9 λeJ bA=>⟨rfl,AU,AU,?_⟩
  refine aS [14,16] (g.ok _ _ _) ⟨?_,?_,trivial⟩
  refine aS [15,16] (g.ok _ _ _) ⟨?_,?_,trivial⟩
  refine eO (pre:=0≤(w.n:Int)∧(w.n:Int)<((9:Nat):Int)) (v:=.agg (bg (aF w q w.n))) rfl rfl (by exact dL q) ⟨by omega,by omega⟩ ?_
  refine aS [16] (g.ok _ _ _) ⟨?_,trivial⟩
  rotate_left 1
  refine aS [15] (g.ok _ _ _) ⟨?_,trivial⟩
  refine eO (pre:=0≤(w.n:Int)∧(w.n:Int)<((9:Nat):Int)) (v:=.agg (bg (aF w q w.n))) rfl rfl (by exact dL q) ⟨by omega,by omega⟩ ?_
  rotate_left 1
  refine aS [14] (g.ok _ _ _) ⟨?_,trivial⟩
  refine aS [15] (g.ok _ _ _) ⟨?_,trivial⟩
  refine eO (pre:=0≤(w.n:Int)∧(w.n:Int)<((9:Nat):Int)) (v:=.agg (bg (aF w q w.n))) rfl rfl (by exact dL q) ⟨by omega,by omega⟩ ?_
  rotate_left 1
  refine aS [8,16] (g.ok _ _ _) ⟨?_,?_,trivial⟩
  refine av (g.ok _ _ _) bm rfl rfl rfl rfl ⟨fK,?_⟩
  refine aO [.sp 3 0,dP q] (bp w (bK dq)) 4 (λj=>match j with|1=>4|2=>5|3=>6|j=>j) AU rfl AU rfl rfl ?_
  refine ga hw gH gI c9 λeJ bA=>⟨rfl,AU,AU,?_⟩
  refine aS [15,16] (g.ok _ _ _) ⟨?_,?_,trivial⟩
  refine eO (pre:=0≤(w.n:Int)∧(w.n:Int)<((9:Nat):Int)) (v:=.agg (bg (aF w q w.n))) rfl rfl (by exact dL q) ⟨by omega,by omega⟩ ?_
  refine aS [16] (g.ok _ _ _) ⟨?_,trivial⟩
  rotate_left 1
  refine aS [15] (g.ok _ _ _) ⟨?_,trivial⟩
  refine eO (pre:=0≤(w.n:Int)∧(w.n:Int)<((9:Nat):Int)) (v:=.agg (bg (aF w q w.n))) rfl rfl (by exact dL q) ⟨by omega,by omega⟩ ?_
  rotate_left 1
  refine aS [8] (g.ok _ _ _) ⟨?_,trivial⟩
  refine av (g.ok _ _ _) bm rfl rfl rfl rfl ⟨fK,?_⟩
  refine aO [.sp 3 0,dP q] (bp w (bK dq)) 4 (λj=>match j with|1=>4|2=>5|3=>6|j=>j) AU rfl AU rfl rfl ?_
  refine ga hw gH gI c9 λeJ bA=>⟨rfl,AU,AU,?_⟩
  refine aS [15] (g.ok _ _ _) ⟨?_,trivial⟩
  refine eO (pre:=0≤(w.n:Int)∧(w.n:Int)<((9:Nat):Int)) (v:=.agg (bg (aF w q w.n))) rfl rfl (by exact dL q) ⟨by omega,by omega⟩ ?_
  rotate_left 1
  refine aS [8,14] (g.ok _ _ _) ⟨?_,?_,trivial⟩
  refine av (g.ok _ _ _) bm rfl rfl rfl rfl ⟨fK,?_⟩
  refine aO [.sp 3 0,dP q] (bp w (bK dq)) 4 (λj=>match j with|1=>4|2=>5|3=>6|j=>j) AU rfl AU rfl rfl ?_
  refine ga hw gH gI c9 λeJ bA=>⟨rfl,AU,AU,?_⟩
  refine aS [14] (g.ok _ _ _) ⟨?_,trivial⟩
  refine aS [15] (g.ok _ _ _) ⟨?_,trivial⟩
  refine eO (pre:=0≤(w.n:Int)∧(w.n:Int)<((9:Nat):Int)) (v:=.agg (bg (aF w q w.n))) rfl rfl (by exact dL q) ⟨by omega,by omega⟩ ?_
  rotate_left 1
  refine aS [8] (g.ok _ _ _) ⟨?_,trivial⟩
  refine av (g.ok _ _ _) bm rfl rfl rfl rfl ⟨fK,?_⟩
  refine aO [.sp 3 0,dP q] (bp w (bK dq)) 4 (λj=>match j with|1=>4|2=>5|3=>6|j=>j) AU rfl AU rfl rfl ?_
  refine ga hw gH gI c9 λeJ bA=>⟨rfl,AU,AU,?_⟩
  refine aS [15] (g.ok _ _ _) ⟨?_,trivial⟩
  refine eO (pre:=0≤(w.n:Int)∧(w.n:Int)<((9:Nat):Int)) (v:=.agg (bg (aF w q w.n))) rfl rfl (by exact dL q) ⟨by omega,by omega⟩ ?_
  rotate_left 1
  refine aS [8,13] (g.ok _ _ _) ⟨?_,?_,trivial⟩
  refine av (g.ok _ _ _) bm rfl rfl rfl rfl ⟨fK,?_⟩
  refine aO [.sp 3 0,dP q] (bp w (bK dq)) 4 (λj=>match j with|1=>4|2=>5|3=>6|j=>j) AU rfl AU rfl rfl ?_
  refine ga hw gH gI c9 λeJ bA=>⟨rfl,AU,AU,?_⟩
  refine aS [13] (g.ok _ _ _) ⟨?_,trivial⟩
  refine aS [14] (g.ok _ _ _) ⟨?_,trivial⟩
  refine aS [15] (g.ok _ _ _) ⟨?_,trivial⟩
  refine eO (pre:=0≤(w.n:Int)∧(w.n:Int)<((9:Nat):Int)) (v:=.agg (bg (aF w q w.n))) rfl rfl (by exact dL q) ⟨by omega,by omega⟩ ?_
  rotate_left 1
  refine aS [8,14] (g.ok _ _ _) ⟨?_,?_,trivial⟩
  refine av (g.ok _ _ _) bm rfl rfl rfl rfl ⟨fK,?_⟩
  refine aO [.sp 3 0,dP q] (bp w (bK dq)) 4 (λj=>match j with|1=>4|2=>5|3=>6|j=>j) AU rfl AU rfl rfl ?_
  refine ga hw gH gI c9 λeJ bA=>⟨rfl,AU,AU,?_⟩
  refine aS [14] (g.ok _ _ _) ⟨?_,trivial⟩
  refine aS [15] (g.ok _ _ _) ⟨?_,trivial⟩
  refine eO (pre:=0≤(w.n:Int)∧(w.n:Int)<((9:Nat):Int)) (v:=.agg (bg (aF w q w.n))) rfl rfl (by exact dL q) ⟨by omega,by omega⟩ ?_
  rotate_left 1
  refine aS [8] (g.ok _ _ _) ⟨?_,trivial⟩
  refine av (g.ok _ _ _) bm rfl rfl rfl rfl ⟨fK,?_⟩
  refine aO [.sp 3 0,dP q] (bp w (bK dq)) 4 (λj=>match j with|1=>4|2=>5|3=>6|j=>j) AU rfl AU rfl rfl ?_
  refine ga hw gH gI c9 λeJ bA=>⟨rfl,AU,AU,?_⟩
  refine aS [15] (g.ok _ _ _) ⟨?_,trivial⟩
  refine eO (pre:=0≤(w.n:Int)∧(w.n:Int)<((9:Nat):Int)) (v:=.agg (bg (aF w q w.n))) rfl rfl (by exact dL q) ⟨by omega,by omega⟩ ?_
  rotate_left 1
  refine aS [2,14,16] (g.ok _ _ _) ⟨?_,?_,?_,trivial⟩
  refine av (g.ok _ _ _) bm rfl rfl rfl rfl ⟨qa,?_⟩
  refine aO [.sp 3 0] (bp w (bK dq)) 4 (λj=>match j with|1=>4|2=>5|3=>6|j=>j) AU rfl AU rfl rfl ?_
  refine qN hw ⟨rfl,AU,AU,?_⟩
  refine aT 7 (g.ok _ _ _) ?_
  refine aS [8,14,16] (g.ok _ _ _) ⟨?_,?_,?_,trivial⟩
  refine av (g.ok _ _ _) bm rfl rfl rfl rfl ⟨fK,?_⟩
  refine aO [.sp 3 0,dP q] (bp w (bK dq)) 4 (λj=>match j with|1=>4|2=>5|3=>6|j=>j) AU rfl AU rfl rfl ?_
  refine ga hw gH gI c9 λeJ bA=>⟨rfl,AU,AU,?_⟩
  refine aS [14,16] (g.ok _ _ _) ⟨?_,?_,trivial⟩
  refine aS [15,16] (g.ok _ _ _) ⟨?_,?_,trivial⟩
  refine eO (pre:=0≤(w.n:Int)∧(w.n:Int)<((9:Nat):Int)) (v:=.agg (bg (aF w q w.n))) rfl rfl (by exact dL q) ⟨by omega,by omega⟩ ?_
  refine aS [16] (g.ok _ _ _) ⟨?_,trivial⟩
  rotate_left 1
  refine aS [15] (g.ok _ _ _) ⟨?_,trivial⟩
  refine eO (pre:=0≤(w.n:Int)∧(w.n:Int)<((9:Nat):Int)) (v:=.agg (bg (aF w q w.n))) rfl rfl (by exact dL q) ⟨by omega,by omega⟩ ?_
  rotate_left 1
  refine aS [14] (g.ok _ _ _) ⟨?_,trivial⟩
  refine aS [15] (g.ok _ _ _) ⟨?_,trivial⟩
  refine eO (pre:=0≤(w.n:Int)∧(w.n:Int)<((9:Nat):Int)) (v:=.agg (bg (aF w q w.n))) rfl rfl (by exact dL q) ⟨by omega,by omega⟩ ?_
  rotate_left 1
  refine aS [8,16] (g.ok _ _ _) ⟨?_,?_,trivial⟩
  refine av (g.ok _ _ _) bm rfl rfl rfl rfl ⟨fK,?_⟩
  refine aO [.sp 3 0,dP q] (bp w (bK dq)) 4 (λj=>match j with|1=>4|2=>5|3=>6|j=>j) AU rfl AU rfl rfl ?_
  refine ga hw gH gI c9 λeJ bA=>⟨rfl,AU,AU,?_⟩
  refine aS [15,16] (g.ok _ _ _) ⟨?_,?_,trivial⟩
  refine eO (pre:=0≤(w.n:Int)∧(w.n:Int)<((9:Nat):Int)) (v:=.agg (bg (aF w q w.n))) rfl rfl (by exact dL q) ⟨by omega,by omega⟩ ?_
  refine aS [16] (g.ok _ _ _) ⟨?_,trivial⟩
  rotate_left 1
  refine aS [15] (g.ok _ _ _) ⟨?_,trivial⟩
  refine eO (pre:=0≤(w.n:Int)∧(w.n:Int)<((9:Nat):Int)) (v:=.agg (bg (aF w q w.n))) rfl rfl (by exact dL q) ⟨by omega,by omega⟩ ?_
  rotate_left 1
  refine aS [8] (g.ok _ _ _) ⟨?_,trivial⟩
  refine av (g.ok _ _ _) bm rfl rfl rfl rfl ⟨fK,?_⟩
  refine aO [.sp 3 0,dP q] (bp w (bK dq)) 4 (λj=>match j with|1=>4|2=>5|3=>6|j=>j) AU rfl AU rfl rfl ?_
  refine ga hw gH gI c9 λeJ bA=>⟨rfl,AU,AU,?_⟩
  refine aS [15] (g.ok _ _ _) ⟨?_,trivial⟩
  refine eO (pre:=0≤(w.n:Int)∧(w.n:Int)<((9:Nat):Int)) (v:=.agg (bg (aF w q w.n))) rfl rfl (by exact dL q) ⟨by omega,by omega⟩ ?_
  rotate_left 1
  refine aS [8,14] (g.ok _ _ _) ⟨?_,?_,trivial⟩
  refine av (g.ok _ _ _) bm rfl rfl rfl rfl ⟨fK,?_⟩
  refine aO [.sp 3 0,dP q] (bp w (bK dq)) 4 (λj=>match j with|1=>4|2=>5|3=>6|j=>j) AU rfl AU rfl rfl ?_
  refine ga hw gH gI c9 λeJ bA=>⟨rfl,AU,AU,?_⟩
  refine aS [14] (g.ok _ _ _) ⟨?_,trivial⟩
  refine aS [15] (g.ok _ _ _) ⟨?_,trivial⟩
  refine eO (pre:=0≤(w.n:Int)∧(w.n:Int)<((9:Nat):Int)) (v:=.agg (bg (aF w q w.n))) rfl rfl (by exact dL q) ⟨by omega,by omega⟩ ?_
  rotate_left 1
  refine aS [8] (g.ok _ _ _) ⟨?_,trivial⟩
  refine av (g.ok _ _ _) bm rfl rfl rfl rfl ⟨fK,?_⟩
  refine aO [.sp 3 0,dP q] (bp w (bK dq)) 4 (λj=>match j with|1=>4|2=>5|3=>6|j=>j) AU rfl AU rfl rfl ?_
  refine ga hw gH gI c9 λeJ bA=>⟨rfl,AU,AU,?_⟩
  refine aS [15] (g.ok _ _ _) ⟨?_,trivial⟩
  refine eO (pre:=0≤(w.n:Int)∧(w.n:Int)<((9:Nat):Int)) (v:=.agg (bg (aF w q w.n))) rfl rfl (by exact dL q) ⟨by omega,by omega⟩ ?_
  rotate_left 1
  refine aS [2,16] (g.ok _ _ _) ⟨?_,?_,trivial⟩
  refine av (g.ok _ _ _) bm rfl rfl rfl rfl ⟨qa,?_⟩
  refine aO [.sp 3 0] (bp w (bK dq)) 4 (λj=>match j with|1=>4|2=>5|3=>6|j=>j) AU rfl AU rfl rfl ?_
  refine qN hw ⟨rfl,AU,AU,?_⟩
  refine aT 7 (g.ok _ _ _) ?_
  refine aS [8,16] (g.ok _ _ _) ⟨?_,?_,trivial⟩
  refine av (g.ok _ _ _) bm rfl rfl rfl rfl ⟨fK,?_⟩
  refine aO [.sp 3 0,dP q] (bp w (bK dq)) 4 (λj=>match j with|1=>4|2=>5|3=>6|j=>j) AU rfl AU rfl rfl ?_
  refine ga hw gH gI c9 λeJ bA=>⟨rfl,AU,AU,?_⟩
  refine aS [15,16] (g.ok _ _ _) ⟨?_,?_,trivial⟩
  refine eO (pre:=0≤(w.n:Int)∧(w.n:Int)<((9:Nat):Int)) (v:=.agg (bg (aF w q w.n))) rfl rfl (by exact dL q) ⟨by omega,by omega⟩ ?_
  refine aS [16] (g.ok _ _ _) ⟨?_,trivial⟩
  rotate_left 1
  refine aS [15] (g.ok _ _ _) ⟨?_,trivial⟩
  refine eO (pre:=0≤(w.n:Int)∧(w.n:Int)<((9:Nat):Int)) (v:=.agg (bg (aF w q w.n))) rfl rfl (by exact dL q) ⟨by omega,by omega⟩ ?_
  rotate_left 1
  refine aS [8] (g.ok _ _ _) ⟨?_,trivial⟩
  refine av (g.ok _ _ _) bm rfl rfl rfl rfl ⟨fK,?_⟩
  refine aO [.sp 3 0,dP q] (bp w (bK dq)) 4 (λj=>match j with|1=>4|2=>5|3=>6|j=>j) AU rfl AU rfl rfl ?_
  refine ga hw gH gI c9 λeJ bA=>⟨rfl,AU,AU,?_⟩
  refine aS [15] (g.ok _ _ _) ⟨?_,trivial⟩
  refine eO (pre:=0≤(w.n:Int)∧(w.n:Int)<((9:Nat):Int)) (v:=.agg (bg (aF w q w.n))) rfl rfl (by exact dL q) ⟨by omega,by omega⟩ ?_
  rotate_left 1
  refine aS [2] (g.ok _ _ _) ⟨?_,trivial⟩
  refine av (g.ok _ _ _) bm rfl rfl rfl rfl ⟨qa,?_⟩
  refine aO [.sp 3 0] (bp w (bK dq)) 4 (λj=>match j with|1=>4|2=>5|3=>6|j=>j) AU rfl AU rfl rfl ?_
  refine qN hw ⟨rfl,AU,AU,?_⟩
  refine aT 7 (g.ok _ _ _) ?_
  refine aS [8] (g.ok _ _ _) ⟨?_,trivial⟩
  refine av (g.ok _ _ _) bm rfl rfl rfl rfl ⟨fK,?_⟩
  refine aO [.sp 3 0,dP q] (bp w (bK dq)) 4 (λj=>match j with|1=>4|2=>5|3=>6|j=>j) AU rfl AU rfl rfl ?_
  refine ga hw gH gI c9 λeJ bA=>⟨rfl,AU,AU,?_⟩
  refine aS [15] (g.ok _ _ _) ⟨?_,trivial⟩
  refine eO (pre:=0≤(w.n:Int)∧(w.n:Int)<((9:Nat):Int)) (v:=.agg (bg (aF w q w.n))) rfl rfl (by exact dL q) ⟨by omega,by omega⟩ ?_
  rotate_left 1
  refine aS [2,14] (g.ok _ _ _) ⟨?_,?_,trivial⟩
  refine av (g.ok _ _ _) bm rfl rfl rfl rfl ⟨qa,?_⟩
  refine aO [.sp 3 0] (bp w (bK dq)) 4 (λj=>match j with|1=>4|2=>5|3=>6|j=>j) AU rfl AU rfl rfl ?_
  refine qN hw ⟨rfl,AU,AU,?_⟩
  refine aT 7 (g.ok _ _ _) ?_
  refine aS [8,14] (g.ok _ _ _) ⟨?_,?_,trivial⟩
  refine av (g.ok _ _ _) bm rfl rfl rfl rfl ⟨fK,?_⟩
  refine aO [.sp 3 0,dP q] (bp w (bK dq)) 4 (λj=>match j with|1=>4|2=>5|3=>6|j=>j) AU rfl AU rfl rfl ?_
  refine ga hw gH gI c9 λeJ bA=>⟨rfl,AU,AU,?_⟩
  refine aS [14] (g.ok _ _ _) ⟨?_,trivial⟩
  refine aS [15] (g.ok _ _ _) ⟨?_,trivial⟩
  refine eO (pre:=0≤(w.n:Int)∧(w.n:Int)<((9:Nat):Int)) (v:=.agg (bg (aF w q w.n))) rfl rfl (by exact dL q) ⟨by omega,by omega⟩ ?_
  rotate_left 1
  refine aS [8] (g.ok _ _ _) ⟨?_,trivial⟩
  refine av (g.ok _ _ _) bm rfl rfl rfl rfl ⟨fK,?_⟩
  refine aO [.sp 3 0,dP q] (bp w (bK dq)) 4 (λj=>match j with|1=>4|2=>5|3=>6|j=>j) AU rfl AU rfl rfl ?_
  refine ga hw gH gI c9 λeJ bA=>⟨rfl,AU,AU,?_⟩
  refine aS [15] (g.ok _ _ _) ⟨?_,trivial⟩
  refine eO (pre:=0≤(w.n:Int)∧(w.n:Int)<((9:Nat):Int)) (v:=.agg (bg (aF w q w.n))) rfl rfl (by exact dL q) ⟨by omega,by omega⟩ ?_
  rotate_left 1
  refine aS [2] (g.ok _ _ _) ⟨?_,trivial⟩
  refine av (g.ok _ _ _) bm rfl rfl rfl rfl ⟨qa,?_⟩
  refine aO [.sp 3 0] (bp w (bK dq)) 4 (λj=>match j with|1=>4|2=>5|3=>6|j=>j) AU rfl AU rfl rfl ?_
  refine qN hw ⟨rfl,AU,AU,?_⟩
  refine aT 7 (g.ok _ _ _) ?_
  refine aS [8] (g.ok _ _ _) ⟨?_,trivial⟩
  refine av (g.ok _ _ _) bm rfl rfl rfl rfl ⟨fK,?_⟩
  refine aO [.sp 3 0,dP q] (bp w (bK dq)) 4 (λj=>match j with|1=>4|2=>5|3=>6|j=>j) AU rfl AU rfl rfl ?_
  refine ga hw gH gI c9 λeJ bA=>⟨rfl,AU,AU,?_⟩
  refine aS [15] (g.ok _ _ _) ⟨?_,trivial⟩
  refine eO (pre:=0≤(w.n:Int)∧(w.n:Int)<((9:Nat):Int)) (v:=.agg (bg (aF w q w.n))) rfl rfl (by exact dL q) ⟨by omega,by omega⟩ ?_
  rotate_left 1
  refine aS [2,13] (g.ok _ _ _) ⟨?_,?_,trivial⟩
  refine av (g.ok _ _ _) bm rfl rfl rfl rfl ⟨qa,?_⟩
  refine aO [.sp 3 0] (bp w (bK dq)) 4 (λj=>match j with|1=>4|2=>5|3=>6|j=>j) AU rfl AU rfl rfl ?_
  refine qN hw ⟨rfl,AU,AU,?_⟩
  refine aT 7 (g.ok _ _ _) ?_
  refine aS [8,13] (g.ok _ _ _) ⟨?_,?_,trivial⟩
  refine av (g.ok _ _ _) bm rfl rfl rfl rfl ⟨fK,?_⟩
  refine aO [.sp 3 0,dP q] (bp w (bK dq)) 4 (λj=>match j with|1=>4|2=>5|3=>6|j=>j) AU rfl AU rfl rfl ?_
  refine ga hw gH gI c9 λeJ bA=>⟨rfl,AU,AU,?_⟩
  refine aS [13] (g.ok _ _ _) ⟨?_,trivial⟩
  refine aS [14] (g.ok _ _ _) ⟨?_,trivial⟩
  refine aS [15] (g.ok _ _ _) ⟨?_,trivial⟩
  refine eO (pre:=0≤(w.n:Int)∧(w.n:Int)<((9:Nat):Int)) (v:=.agg (bg (aF w q w.n))) rfl rfl (by exact dL q) ⟨by omega,by omega⟩ ?_
  rotate_left 1
  refine aS [8,14] (g.ok _ _ _) ⟨?_,?_,trivial⟩
  refine av (g.ok _ _ _) bm rfl rfl rfl rfl ⟨fK,?_⟩
  refine aO [.sp 3 0,dP q] (bp w (bK dq)) 4 (λj=>match j with|1=>4|2=>5|3=>6|j=>j) AU rfl AU rfl rfl ?_
  refine ga hw gH gI c9 λeJ bA=>⟨rfl,AU,AU,?_⟩
  refine aS [14] (g.ok _ _ _) ⟨?_,trivial⟩
  refine aS [15] (g.ok _ _ _) ⟨?_,trivial⟩
  refine eO (pre:=0≤(w.n:Int)∧(w.n:Int)<((9:Nat):Int)) (v:=.agg (bg (aF w q w.n))) rfl rfl (by exact dL q) ⟨by omega,by omega⟩ ?_
  rotate_left 1
  refine aS [8] (g.ok _ _ _) ⟨?_,trivial⟩
  refine av (g.ok _ _ _) bm rfl rfl rfl rfl ⟨fK,?_⟩
  refine aO [.sp 3 0,dP q] (bp w (bK dq)) 4 (λj=>match j with|1=>4|2=>5|3=>6|j=>j) AU rfl AU rfl rfl ?_
  refine ga hw gH gI c9 λeJ bA=>⟨rfl,AU,AU,?_⟩
  refine aS [15] (g.ok _ _ _) ⟨?_,trivial⟩
  refine eO (pre:=0≤(w.n:Int)∧(w.n:Int)<((9:Nat):Int)) (v:=.agg (bg (aF w q w.n))) rfl rfl (by exact dL q) ⟨by omega,by omega⟩ ?_
  rotate_left 1
  refine aS [2,14] (g.ok _ _ _) ⟨?_,?_,trivial⟩
  refine av (g.ok _ _ _) bm rfl rfl rfl rfl ⟨qa,?_⟩
  refine aO [.sp 3 0] (bp w (bK dq)) 4 (λj=>match j with|1=>4|2=>5|3=>6|j=>j) AU rfl AU rfl rfl ?_
  refine qN hw ⟨rfl,AU,AU,?_⟩
  refine aT 7 (g.ok _ _ _) ?_
  refine aS [8,14] (g.ok _ _ _) ⟨?_,?_,trivial⟩
  refine av (g.ok _ _ _) bm rfl rfl rfl rfl ⟨fK,?_⟩
  refine aO [.sp 3 0,dP q] (bp w (bK dq)) 4 (λj=>match j with|1=>4|2=>5|3=>6|j=>j) AU rfl AU rfl rfl ?_
  refine ga hw gH gI c9 λeJ bA=>⟨rfl,AU,AU,?_⟩
  refine aS [14] (g.ok _ _ _) ⟨?_,trivial⟩
  refine aS [15] (g.ok _ _ _) ⟨?_,trivial⟩
  refine eO (pre:=0≤(w.n:Int)∧(w.n:Int)<((9:Nat):Int)) (v:=.agg (bg (aF w q w.n))) rfl rfl (by exact dL q) ⟨by omega,by omega⟩ ?_
  rotate_left 1
  refine aS [8] (g.ok _ _ _) ⟨?_,trivial⟩
  refine av (g.ok _ _ _) bm rfl rfl rfl rfl ⟨fK,?_⟩
  refine aO [.sp 3 0,dP q] (bp w (bK dq)) 4 (λj=>match j with|1=>4|2=>5|3=>6|j=>j) AU rfl AU rfl rfl ?_
  refine ga hw gH gI c9 λeJ bA=>⟨rfl,AU,AU,?_⟩
  refine aS [15] (g.ok _ _ _) ⟨?_,trivial⟩
  refine eO (pre:=0≤(w.n:Int)∧(w.n:Int)<((9:Nat):Int)) (v:=.agg (bg (aF w q w.n))) rfl rfl (by exact dL q) ⟨by omega,by omega⟩ ?_
  rotate_left 1
  refine aS [2] (g.ok _ _ _) ⟨?_,trivial⟩
  refine av (g.ok _ _ _) bm rfl rfl rfl rfl ⟨qa,?_⟩
  refine aO [.sp 3 0] (bp w (bK dq)) 4 (λj=>match j with|1=>4|2=>5|3=>6|j=>j) AU rfl AU rfl rfl ?_
  refine qN hw ⟨rfl,AU,AU,?_⟩
  refine aT 7 (g.ok _ _ _) ?_
  refine aS [8] (g.ok _ _ _) ⟨?_,trivial⟩
  refine av (g.ok _ _ _) bm rfl rfl rfl rfl ⟨fK,?_⟩
  refine aO [.sp 3 0,dP q] (bp w (bK dq)) 4 (λj=>match j with|1=>4|2=>5|3=>6|j=>j) AU rfl AU rfl rfl ?_
  refine ga hw gH gI c9 λeJ bA=>⟨rfl,AU,AU,?_⟩
  refine aS [15] (g.ok _ _ _) ⟨?_,trivial⟩
  refine eO (pre:=0≤(w.n:Int)∧(w.n:Int)<((9:Nat):Int)) (v:=.agg (bg (aF w q w.n))) rfl rfl (by exact dL q) ⟨by omega,by omega⟩ ?_
  rotate_left 1
  all_goals
   refine aS [17] (g.ok _ _ _) ⟨?_,trivial⟩
   refine j6 (by kernel_rfl) ?_
   refine aa.mk (show ae .i64 (a+(k:Int)-(aF w q w.n).2) from⟨by omega,by omega⟩) (aa.mk (show ae .i64 (a+(k:Int)-(aF w q w.n).1) from⟨by omega,by omega⟩) ?_)
   refine aa.mk (show ae .i64 (a+(k:Int)+1) from⟨by omega,by omega⟩) ⟨⟨(k+1,eJ),by show k+1≤gw w;rw[Bu];omega,bA⟩,(λj=>j),⟨AU,AU,rfl,rfl,rfl,rfl,AU⟩,by show gw w-(k+1)<gw w-k;rw[Bu];omega⟩
 ·have h:¬a+(k:Int)≤b:=of_decide_eq_false h
  obtain rfl:k=gw w:=by rw[Bu] at hi ⊢;omega
  have e1:(eW w (gw w)).1=(if cH w then eW w (gw w) else(0,0)).1:=by rw[if_pos hc]
  have e2:(eW w (gw w)).2=(if cH w then eW w (gw w) else(0,0)).2:=by rw[if_pos hc]
  have e3:(0:Int)=(if cH w then 0 else 10):=by rw[if_pos hc]
  exact⟨(),(λj=>j),AU,AU,rfl,rfl,rfl,rfl⟩
end
end Go.X.Wr
namespace Go.X.Gr
open Go Go.Proofs Go.X
def oQ (g:aB)(q n:Int):aB:=if q=0 then{ g with l0:=n,h0:=n } else if q=1 then{ g with l1:=n,h1:=n } else if q=2 then{ g with l2:=n,h2:=n } else if q=3 then{ g with l3:=n,h3:=n } else{ g with l4:=n,h4:=n }
def jU (g:aB)(q:Int):Int:=if q=0 then g.l0 else if q=1 then g.l1 else if q=2 then g.l2 else if q=3 then g.l3 else g.l4
def rA (g:aB)(q:Int):Int:=if q=0 then g.h0 else if q=1 then g.h1 else if q=2 then g.h2 else if q=3 then g.h3 else g.h4
theorem yY {g:aB}{q n:Int}(hq:0≤q∧q<5)(hn:jU g q≤n∧n≤rA g q){b:B5}:fR (oQ g q n) b↔fR g b∧il (cE q) b=n:=by
 obtain⟨a0,a1,a2,a3,a4⟩:=b
 rcases(show q=0∨q=1∨q=2∨q=3∨q=4 by omega) with rfl|rfl|rfl|rfl|rfl
 all_goals
  simp only[il,cE,oQ,jU,rA,if_true,if_false,show ¬(1:Int)=0 by decide,show ¬(2:Int)=0 by decide,show ¬(2:Int)=1 by decide,show ¬(3:Int)=0 by decide,show ¬(3:Int)=1 by decide,show ¬(3:Int)=2 by decide,show ¬(4:Int)=0 by decide,show ¬(4:Int)=1 by decide,show ¬(4:Int)=2 by decide,show ¬(4:Int)=3 by decide] at hn ⊢
  constructor
  ·rintro⟨r0,r1,r2,r3,r4,tE,tF,tG,tI,qM,tK,tL,tJ⟩
   simp only at r0 r1 r2 r3 r4 tE tF tG tI qM tK tL tJ
   refine⟨⟨?_,?_,?_,?_,?_,tE,tF,tG,tI,qM,tK,tL,tJ⟩,by omega⟩<;>(simp only;omega)
  ·rintro⟨⟨r0,r1,r2,r3,r4,tE,tF,tG,tI,qM,tK,tL,tJ⟩,e⟩
   simp only at r0 r1 r2 r3 r4 tE tF tG tI qM tK tL tJ
   refine⟨?_,?_,?_,?_,?_,tE,tF,tG,tI,qM,tK,tL,tJ⟩<;>(simp only;omega)
theorem Cu {g:aB}{q:Int}(hq:0≤q∧q<5){b:B5}(h:fR g b):jU g q≤il (cE q) b∧il (cE q) b≤rA g q:=by
 obtain⟨a0,a1,a2,a3,a4⟩:=b
 obtain⟨r0,r1,r2,r3,r4,-,-,-,-,-,-,-,-⟩:=h
 simp only at r0 r1 r2 r3 r4
 rcases(show q=0∨q=1∨q=2∨q=3∨q=4 by omega) with rfl|rfl|rfl|rfl|rfl
 all_goals
  simp only[il,cE,jU,rA,if_true,if_false,show ¬(1:Int)=0 by decide,show ¬(2:Int)=0 by decide,show ¬(2:Int)=1 by decide,show ¬(3:Int)=0 by decide,show ¬(3:Int)=1 by decide,show ¬(3:Int)=2 by decide,show ¬(4:Int)=0 by decide,show ¬(4:Int)=1 by decide,show ¬(4:Int)=2 by decide,show ¬(4:Int)=3 by decide]
  omega
theorem A5 {g:aB}{L:List (Int × Int)}(h:da g L=true){q n:Int}(hq:0≤q∧q<5)(hn:jU g q≤n∧n≤rA g q):da (oQ g q n) L=true:=by
 simp only[da,kh,aE,dw,cb,Bool.and_eq_true,decide_eq_true_eq] at h ⊢
 rcases(show q=0∨q=1∨q=2∨q=3∨q=4 by omega) with rfl|rfl|rfl|rfl|rfl
 all_goals
  simp only[oQ,jU,rA,if_true,if_false,show ¬(1:Int)=0 by decide,show ¬(2:Int)=0 by decide,show ¬(2:Int)=1 by decide,show ¬(3:Int)=0 by decide,show ¬(3:Int)=1 by decide,show ¬(3:Int)=2 by decide,show ¬(4:Int)=0 by decide,show ¬(4:Int)=1 by decide,show ¬(4:Int)=2 by decide,show ¬(4:Int)=3 by decide] at hn ⊢
  refine⟨h.1,h.2.1,?_⟩
  omega
end Go.X.Gr
namespace Go.X.Lt
open Go Go.Proofs Go.X
open Go.X.Gr (aB az au bQ dj ca da hasB cD dW eA aE bZ iC bc bR code fq fR B5 wq tx kz cC SE o5)
theorem J3 {n lo hi:Int}:aE n lo hi=true↔lo≤n∧n≤hi:=by
 unfold aE;simp only[Bool.and_eq_true,decide_eq_true_eq]
theorem aa2 {x:Lo}(h:ov x=true)(hh:∀b,b<x.nB→hasB (gP x b)=true):dp x:=by
 unfold ov uv at h
 simp only[Bool.and_eq_true,Bool.not_eq_true',Bool.or_eq_false_iff,decide_eq_false_iff_not,Bool.not_eq_false',decide_eq_true_eq,List.all_eq_true,List.mem_range] at h
 obtain⟨⟨⟨⟨h1,h2⟩,h3⟩,h4⟩,h5,h6,h7,h8⟩:=h
 refine⟨by omega,by omega,J3.1 h3,by omega,h5,h6,λi hi=>?_,λi hi=>?_,hh⟩
 ·have:=h7 i hi
  unfold pB at this
  simp only[Bool.and_eq_true,Bool.not_eq_true',Bool.and_eq_false_iff,decide_eq_false_iff_not,J3] at this
  refine⟨this.1,λh0=>?_⟩
  rcases this.2 with h9|h9
  ·exact absurd h0 h9
  ·omega
 ·have:=h8 i hi
  unfold oB at this
  simp only[Bool.and_eq_true,J3] at this
  omega
theorem RV {x:Lo}(hx:dp x){i j:Nat}(Jm:i≤j)(hj:j<x.nP):x.bE j≤x.bE i:=by
 induction j with
 |zero =>
  have:i=0:=by omega
  subst this;exact Int.le_refl _
 |succ k ih =>
  rcases Nat.lt_or_ge i (k+1) with h|h
  ·have h1:=ih (by omega) (by omega)
   have h2:=(hx.bE (k+1) hj).2 (by omega)
   rw[Nat.add_sub_cancel] at h2
   omega
  ·have:i=k+1:=by omega
   subst this;exact Int.le_refl _
theorem Gy {x:Lo}{b n:Nat}:ea x b n=true↔∀t,fR (gP x b) t→cC (dW (LL x)) (tx kz t)≤n:=by
 unfold ea
 rw[decide_eq_true_eq]
 exact SE
theorem Sy {x:Lo}{b n:Nat}(hn:n<x.nL)(h:ea x b n=true):gy x b≤n:=by
 unfold gy
 exact Nat.le_of_not_lt λaG=>by
  have:=List.not_of_lt_findIdx (p:=ea x b) (xs:=List.range x.nL) (i:=n) aG
  simp at this
  rw[h] at this;cases this
theorem Sz {x:Lo}{b:Nat}(h:gy x b<x.nL):ea x b (gy x b)=true:=by
 have:=List.findIdx_getElem (p:=ea x b) (xs:=List.range x.nL) (w:=by simpa [gy] using h)
 simpa [gy] using this
theorem abu {L:List (Int × Int)}{f:Int × Int}{s:Nat}(hs:s<L.length)(h:cC (dW L) f≤s):cC L f≤s:=by
 unfold cC dW at *
 rw[List.findIdx_append] at h
 split at h
 ·exact h
 ·rename_i h1
  omega
theorem abv {x:Lo}{b:Nat}{t:B5}(ht:fR (gP x b) t)(h:gy x b<x.nL):cC (LL x) (o5 t)≤gy x b:=by
 rw[Gr.WJ]
 exact abu (by rw[Dd];exact h) (Gy.1 (Sz h) t ht)
theorem Tx {x:Lo}{S:Nat}{c:Int}(hc:c≤100):∀n,(∀j,j<n→S.testBit j=true→c≤nr x j)→c≤(fb x S n).1
 |0,_=>hc
 |n+1,h=>by
  have ih:=Tx hc n (λj hj=>h j (by omega))
  unfold fb
  split
  ·rename_i hb
   have:=h n (by omega) hb
   show c≤min (fb x S n).1 (nr x n)
   omega
  ·exact ih
theorem aeu {x:Lo}(hx:dp x){b s:Nat}(hb:b<x.nB)(hs:s<x.nL)(h:ea x b s=true):x.bE s≤(ed x b).1:=by
 have hP:=hx.nP
 refine Tx (hx.bE s (by omega)).1.2 _ λj hj pg=>?_
 obtain⟨t,ht,he⟩:=Gr.Ld.1 pg
 have:=Gy.1 h t ht
 have Bp:j≤s:=by omega
 unfold nr
 rw[if_pos (by omega)]
 exact RV hx Bp (by omega)
def y6 (x:Lo)(b:Nat)(o:Int):Prop:=o=-1∨(0≤o∧o<(x.nO:Int)∧ea x b (x.od o.toNat).1.toNat=true)
def mJ (o:Nat→Int):Nat→Nat
 |0=>0
 |n+1=>mJ o n+if 0≤o n then 1 else 0
theorem Ns {f g:Nat→Int}:∀n,(∀j,j<n→f j=g j)→mJ f n=mJ g n
 |0,_=>rfl
 |n+1,h=>by unfold mJ;rw[Ns n λj hj=>h j (by omega),h n (by omega)]
structure Full (x:Lo) (d:Ds):Prop where
 om:d.om=x.nB
 o:∀b,b<x.nB→y6 x b (d.o b)
 gx:d.gx=(mJ d.o x.nB:Int)
def zD (x:Lo)(d:Ds):Prop:=d.gx=-1∨Full x d
theorem zD.set {x:Lo}{d:Ds}(h:zD x d)(ls:Nat→Int):zD x { d with ls:=ls }:=h.imp id λf=>⟨f.om,f.o,f.gx⟩
structure Md (x:Lo) (b bS:Nat) (ls:Nat→Int):Prop where
 o:∀j,j<b→y6 x j (ls j)
 cQ:mJ ls b=bS
structure Mc (x:Lo) (b bS:Nat) (d r:Ds):Prop where
 gE:zD x r
 ls:∀j,j<b→r.ls j=d.ls j
 up:d.gx≤r.gx
theorem KM {x:Lo}:∀(k b bS:Nat) (g:Nat→Nat) (d:Ds),b+k=x.nB→zD x d→Md x b bS d.ls→Mc x b bS d (fJ x k b bS g d)∧(bS:Int)≤(fJ x k b bS g d).gx
 |0,b,bS,g,d,hb,hg,hp=>by
  unfold fJ
  split
  ·rename_i h
   exact⟨⟨hg,λj _=>rfl,Int.le_refl _⟩,h⟩
  ·rename_i h
   have hb:b=x.nB:=by omega
   subst hb
   exact⟨⟨.inr ⟨rfl,hp.o,by show(bS:Int)=(mJ d.ls x.nB:Int);rw[hp.cQ]⟩,λj _=>rfl,by show d.gx≤(bS:Int);omega⟩,Int.le_refl _⟩
 |k+1,b,bS,g,d,hb,hg,hp=>by
  unfold fJ
  split
  ·rename_i h
   exact⟨⟨hg,λj _=>rfl,Int.le_refl _⟩,by omega⟩
  ·have rD:∀(ls:Nat→Int) (v:Int),(∀j,j<b→ls j=d.ls j)→y6 x b v→Md x (b+1) (bS+if 0≤v then 1 else 0) (dY ls b v):=λls v hl hv=>by
    constructor
    ·intro j hj
     unfold dY
     split
     ·rename_i e;subst e;exact hv
     ·rw[hl j (by omega)];exact hp.o j (by omega)
    ·have e:mJ (dY ls b v) b=bS:=by
      rw[←hp.cQ]
      refine Ns b λj hj=>?_
      unfold dY
      rw[if_neg (by omega),hl j hj]
     unfold mJ
     rw[e]
     unfold dY
     rw[if_pos rfl]
   have h0:=KM (x:=x) k (b+1) bS g { d with ls:=dY d.ls b (-1) } (by omega) (hg.set _) (by
    have:=rD d.ls (-1) (λj _=>rfl) (.inl rfl)
    simpa using this)
   obtain⟨D0,Ew⟩:∃D0,fJ x k (b+1) bS g { d with ls:=dY d.ls b (-1) }=D0:=⟨_,rfl⟩
   rw[Ew] at h0 ⊢
   have YU:∀j,j<b→D0.ls j=d.ls j:=λj hj=>by
    have:=h0.1.ls j (by omega)
    rw[this];show dY d.ls b (-1) j=d.ls j;unfold dY;rw[if_neg (by omega)]
   have step:∀n,n≤x.nO→Mc x b bS d (lF (λo e=>if(decide ((g o:Int)=(x.od o).2)||!ea x b (x.od o).1.toNat)=true then e else fJ x k (b+1) (bS+1) (fO g o) { e with ls:=dY e.ls b o }) n D0)∧(bS:Int)≤(lF (λo e=>if(decide ((g o:Int)=(x.od o).2)||!ea x b (x.od o).1.toNat)=true then e else fJ x k (b+1) (bS+1) (fO g o) { e with ls:=dY e.ls b o }) n D0).gx:=by
    intro n
    induction n with
    |zero=>intro _;exact⟨⟨h0.1.gE,YU,h0.1.up⟩,h0.2⟩
    |succ n ih =>
     intro hn
     obtain⟨i1,i2⟩:=ih (by omega)
     unfold lF
     obtain⟨E,hE⟩:∃E,lF (λo e=>if(decide ((g o:Int)=(x.od o).2)||!ea x b (x.od o).1.toNat)=true then e else fJ x k (b+1) (bS+1) (fO g o) { e with ls:=dY e.ls b o }) n D0=E:=⟨_,rfl⟩
     rw[hE] at i1 i2 ⊢
     split
     ·exact⟨i1,i2⟩
     ·rename_i hc
      have ZH:ea x b (x.od n).1.toNat=true:=by
       cases h:ea x b (x.od n).1.toNat with
       |true=>rfl
       |false=>rw[h] at hc;simp at hc
      have ap:y6 x b (n:Int):=.inr ⟨by omega,by omega,by rw[Int.toNat_natCast];exact ZH⟩
      have h1:=KM (x:=x) k (b+1) (bS+1) (fO g n) { E with ls:=dY E.ls b n } (by omega) (i1.gE.set _) (by
       have:=rD E.ls (n:Int) i1.ls ap
       rw[if_pos (by omega)] at this
       exact this)
      refine⟨⟨h1.1.gE,λj hj=>?_,Int.le_trans i1.up h1.1.up⟩,by have:=h1.2;omega⟩
      have:=h1.1.ls j (by omega)
      rw[this]
      show dY E.ls b n j=d.ls j
      unfold dY
      rw[if_neg (by omega)]
      exact i1.ls j hj
   exact step x.nO (Nat.le_refl _)
theorem VU (x:Lo):Full x (jr x):=by
 have h:=KM (x:=x) x.nB 0 0 (λ_=>0) ⟨-1,0,λ_=>0,λ_=>0⟩ (by omega) (.inl rfl) ⟨λj hj=>absurd hj (Nat.not_lt_zero _),rfl⟩
 have h2:(0:Int)≤(jr x).gx:=h.2
 rcases h.1.gE with h3|h3
 ·have h3:(jr x).gx=-1:=h3
  omega
 ·exact h3
end Go.X.Lt
namespace Go.X
open Go
section
variable {X:Cx}{st:St}{K:Ex→St→Prop}
def GV {ι:Type}(n0:Nat)(S:ι→St)(K:Ex→St→Prop):Ex→St→Prop:=λe s=>match e with
 |.normal=>∃i σ,tU n0 σ s (S i)
 |e=>K e s
theorem Lc {x y:Code}{ι:Type}(n0:Nat)(S:ι→St)(hn:∀j,n0≤j→X.G.ρ j=none)(h:aX X x st (GV n0 S K))(hk:∀i,aX X y (S i) K):aX X (.seq x y) st K:=by
 refine fi fun ρ a w hm=>?_
 refine wpIn_mono (h ρ a w hm) ?_
 rintro e a' w' ⟨x',af,ρ',rfl,an,bW⟩
 cases x' with
 |normal =>
  obtain⟨i,σ,hw⟩:=bW
  exact⟨.normal,af,ρ',rfl,an,kF n0 σ hn hw (hk i)⟩
 |ret=>exact⟨.ret,af,ρ',rfl,an,bW⟩
 |exit n=>exact⟨.exit n,af,ρ',rfl,an,bW⟩
 |panic ch=>exact⟨.panic ch,af,ρ',rfl,an,bW⟩
end
end Go.X
namespace Go.X.Tl
open Go Go.Proofs Go.X Go.X.Lt
open Go.X.Gr (aB az au bQ dj ca da hasB cD dW eA aE bZ iC bc bR code fq En eD a_ eg B5 oG js jF)
open Go.X.Wr (gF iW Wd kR jm eb cH jZ fN mO)
open Go.X.W (ll dA CO Dz CN zO)
structure Wb where
 l1:Int
 l2:Int
 u1:Int
 u2:Int
 n:Nat
 ev:Nat→jm
 v:Value
def C3 (x:Wb):List SV:=[.si .i64 x.l1,.si .i64 x.l2,.si .i64 x.u1,.si .i64 x.u2,.sv x.v]
def wbS (x:Wb)(id:Nat):List SV:=[.si .i64 x.l1,.si .i64 x.l2,.si .i64 x.u1,.si .i64 x.u2,.sl id]
def vN (ev:Nat→jm)(j:Nat):List SV:=kR (ev j)
def LR (N:Nat)(g:Nat→Wb):Value→Nat→(Nat→List SV)→Prop:=λv n get=>∃i,i<N∧v=(g i).v∧n=(g i).n∧get=vN (g i).ev
structure Tp where
 x0:Lo
 nW:Nat
 g:Nat→Wb
 m:Nat
 o:Nat→Int
 pt:Int
def m6 (x:Wb):Wd:=⟨x.l1,x.l2,x.u1,x.u2,x.n,x.ev⟩
structure zH (p:Tp):Prop where
 m:p.m≤maxLen
 o:∀i,i<p.m→0≤p.o i∧p.o i<65536
 pt:0≤p.pt∧p.pt<256
 told:∀i,i<p.nW→uM (p.g i).v (p.g i).n
theorem aal {v:Value}{n:Nat}(h:uM v n){C:Value→Nat→(Nat→List SV)→Prop}{get:Nat→List SV}(hC:C v n get):S1 C v n get:=by
 rcases h with h|⟨ad,c,rfl⟩
 ·exact .inl h
 ·exact .inr ⟨ad,c,rfl,hC⟩
theorem aec (p:Tp){i:Nat}(hi:i<p.nW):LR p.nW p.g (p.g i).v (p.g i).n (vN (p.g i).ev):=⟨i,hi,rfl,rfl,rfl⟩
theorem W7 {l:List (Nat × Ct)}(g:Good P T l):Good P T ((10,Wr.c5)::l):=g.add (Wr.k5 Wr.ah) (by first|exact Wr.DK|exact cZ _) (aw Tryz.func10 (c:=code Tryz.f10) rfl (by decide))
noncomputable abbrev L3:List (Nat × Ct):=[(4,c4),(5,c5),(8,c8),(9,W.xT),(10,Wr.c5),(12,xR),(13,xS),(14,qd),(15,mI),(16,Gr.nQ),(17,Gr.nR),(18,Hh),(19,rb)]
theorem O2:Good P T L3:=g4 (g5 (g8 (g9 (W7 (OJ (OK (OL (AZ (O4 (XK (Xf (A0 ah))))))))))))
noncomputable abbrev X3 (G:cp):Cx:=⟨P,T,aC L3,G,none,Tryz.f3.ntmps⟩
theorem cd (G:cp):(X3 G).Ok:=O2.ok _ _ _
def bs (p:Tp):List (Nat × HB):=[(0,.ax 2 gF),(1,.ro 2 p.x0.nL λi=>az (p.x0.li i)),(2,.ro 10 p.x0.nB λi=>dG (p.x0.bl i)),(3,.ro 1 p.x0.nP λi=>iC (p.x0.bE i)),(4,.ro 2 p.x0.nO λi=>az (p.x0.od i)),
 (5,.ro 5 p.nW λi=>C3 (p.g i)),(6,.ro 1 p.m λi=>[.si .u16 (p.o i)]),(7,.ax 4 (LR p.nW p.g))]
def A3 (p:Tp):List SV:=[.agg (e_ 1 2 3 4 p.x0),.sl 5,.sl 6,.si .u8 p.pt]
theorem NJ {p:Tp}(hp:zH p){c lo hi:Int}(h:lo≤hi)(hc:0≤c):lo≤ll p.m p.o c lo hi∧ll p.m p.o c lo hi≤hi:=by
 unfold ll
 split
 ·omega
 ·have hm:0≤(c+1).tmod (p.m:Int):=Int.tmod_nonneg _ (by omega)
  have hl:=Int.tmod_lt_of_pos (c+1) (show(0:Int)<(p.m:Int) by omega)
  have ho:=hp.o ((c+1).tmod (p.m:Int)).toNat (by omega)
  have h1:0≤p.o ((c+1).tmod (p.m:Int)).toNat+71*(c+1):=by omega
  have h2:=Int.tmod_nonneg (hi-lo+1) h1
  have h3:=Int.tmod_lt_of_pos (p.o ((c+1).tmod (p.m:Int)).toNat+71*(c+1)) (show 0<hi-lo+1 by omega)
  omega
def Ir:SV:=.fn (.func 26) [] [.sp 9 0,.sp 10 0]
def V6 (p:Tp)(c:Int)(H:List (Nat × HB)):List (Nat × HB):=(6,.ro 1 p.m λi=>[.si .u16 (p.o i)])::(9,.cells 3 [.si .i64 (c+1)])::(10,.cells 29 [.sl 6])::H
theorem M8 {p:Tp}(hp:zH p){c lo hi:Int}{H:List (Nat × HB)}{nx:Nat}{Rv:SV→List (Nat × HB)→Nat→Prop}{Rp:List PanicEntry→List (Nat × HB)→Nat→Prop}
  (h1:ab H 6=some (.ro 1 p.m λi=>[.si .u16 (p.o i)])) (h6:ab H 9=some (.cells 3 [.si .i64 c])) (h5:ab H 10=some (.cells 29 [.sl 6])) (hc:0≤c∧c≤100000) (hl:-1000000≤lo∧lo≤hi∧hi≤1000000)
  (aY:Rv (.si .i64 (ll p.m p.o c lo hi)) (V6 p c H) nx):bG P 26 [.agg [.si .i64 lo,.si .i64 hi],.sp 9 0,.sp 10 0] H nx Rv Rp:=by
 refine aO [.agg [.si .i64 lo,.si .i64 hi],.sp 1 0,.sp 2 0] (dA p.m p.o c) 3 (λj=>match j with|0=>6|1=>9|_=>10) AU rfl ?_ rfl rfl ?_
 ·refine⟨?_,?_,?_,trivial⟩
  ·show(match ab H 6 with|some hc=>g_ _ 3 hc _∧_|_=>False)
   rw[h1]
   exact⟨⟨rfl,rfl,λi hi=>⟨rfl,rfl⟩⟩,rfl⟩
  ·show(match ab H 9 with|some hc=>g_ _ 3 hc _∧_|_=>False)
   rw[h6]
   exact⟨⟨rfl,⟨⟨rfl,rfl⟩,trivial⟩,rfl⟩,rfl⟩
  ·show(match ab H 10 with|some hc=>g_ _ 3 hc _∧_|_=>False)
   rw[h5]
   exact⟨⟨rfl,⟨rfl,trivial⟩,rfl⟩,rfl⟩
 ·exact CO hp.m hp.o hc hl ⟨rfl,AU,AU,by rw[mP,D_,fw];exact aY⟩
structure Zb where
 i:Nat
 xs:Nat→aB
 TL:List Gr.En
 c:Int
def fZ (p:Tp)(i:Nat):List (Nat × FE):=[(1,⟨[],.sl 5⟩),(3,⟨[],.si .u8 p.pt⟩),(4,⟨[],.sp 8 0⟩),(9,⟨[],Ir⟩),(10,⟨[],.sp 11 0⟩),(11,⟨[],.sl 14⟩),(78,⟨[],.sl 2⟩),(79,⟨[],.si .i64 (p.x0.nB:Int)⟩),(80,⟨[],.si .i64 (i:Int)⟩)]
def hZ (p:Tp)(z:Zb):List (Nat × HB):=(8,.cells 27 (e_ 1 2 3 4 p.x0))::(9,.cells 3 [.si .i64 z.c])::(10,.cells 29 [.sl 6])::(11,.cells 27 (e_ 1 12 3 4 p.x0))::(12,.vec 37 10 z.i λj=>dG (z.xs j))::(13,.ax 1 (js z.TL))::(14,.vec 24 1 z.i (oG z.TL))::bs p
theorem R1 {g:aB}{L:List (Int × Int)}(h:da g L=true):((-20≤g.l0∧g.l0≤g.h0∧g.h0≤20∧g.h0-g.l0≤6)∧(-20≤g.l1∧g.l1≤g.h1∧g.h1≤20∧g.h1-g.l1≤6)∧(-20≤g.l2∧g.l2≤g.h2∧g.h2≤20∧g.h2-g.l2≤6)∧(-20≤g.l3∧g.l3≤g.h3∧g.h3≤20∧g.h3-g.l3≤6)∧(-20≤g.l4∧g.l4≤g.h4∧g.h4≤20∧g.h4-g.l4≤6))∧0≤g.st∧g.st≤10:=by
 simp only[da,Gr.kh,aE,Gr.dw,Gr.cb,Bool.and_eq_true,decide_eq_true_eq] at h
 omega
def wF (p:Tp)(i:Nat)(g:aB)(k:Nat)(w:Int):List (Nat × FE):=(12,⟨[],.si .i64 (i:Int)⟩)::(13,⟨[],.si .i64 w⟩)::(87,⟨[],.agg (dG g)⟩)::(88,⟨[],.si .i64 (k:Int)⟩)::fZ p i
section
variable {G:cp}{p:Tp}{z:Zb}{K:Ex→St→Prop}
theorem Co {w d:Int}{k:Nat}(hw:0≤w∧w≤7 ^ k)(hd:1≤d∧d≤7):0≤w*d∧w*d≤7 ^ (k+1):=by
 refine⟨Int.mul_nonneg hw.1 (by omega),?_⟩
 have h1:w*d≤7 ^ k*7:=Int.mul_le_mul hw.2 hd.2 (by omega) (Int.le_trans hw.1 hw.2)
 rwa [Int.pow_succ]
theorem aeb (hG:∀j,8≤j→G.ρ j=none){g:aB}(hg:(-20≤g.l0∧g.l0≤g.h0∧g.h0≤20∧g.h0-g.l0≤6)∧(-20≤g.l1∧g.l1≤g.h1∧g.h1≤20∧g.h1-g.l1≤6)∧(-20≤g.l2∧g.l2≤g.h2∧g.h2≤20∧g.h2-g.l2≤6)∧(-20≤g.l3∧g.l3≤g.h3∧g.h3≤20∧g.h3-g.l3≤6)∧(-20≤g.l4∧g.l4≤g.h4∧g.h4≤20∧g.h4-g.l4≤6))
  (hK:∀w,K (.exit 2) ⟨(89,⟨[],.sb false⟩)::wF p z.i g 5 w,[],hZ p z,15,[]⟩) :
  aX (X3 G) (iW 2 (code Tryz.f3)) ⟨wF p z.i g 0 1,[],hZ p z,15,[]⟩ K:=by
 refine cm (cd G) 8 (λy:{y:Nat × Int // y.1≤5∧0≤y.2∧y.2≤7 ^ y.1}=>⟨wF p z.i g y.1.1 y.1.2,[],hZ p z,15,[]⟩) (λy=>5-y.1.1) hG ⟨(0,1),by decide,by decide,by decide⟩ (λj=>j) ⟨AU,AU,rfl,rfl,rfl,rfl,trivial⟩ ?_
 rintro⟨⟨k,w⟩,hk,hw⟩
 have hk:k≤5:=hk
 have hw:0≤w∧w≤7 ^ k:=hw
 rcases(show k=0∨k=1∨k=2∨k=3∨k=4∨k=5 by omega) with rfl|rfl|rfl|rfl|rfl|rfl
 case inr.inr.inr.inr.inr =>
  refine Br.mk (λh=>(by cases h)) (λ_=>?_)
  exact hK w
 case inl =>
  have h7:=Co hw (show 1≤g.h0-g.l0+1∧g.h0-g.l0+1≤7 by omega)
  refine Br.mk (λ_=>?_) (λh=>(by cases h))
  refine aa.mk (show(0:Int)≤((0:Nat):Int)∧((0:Nat):Int)<5 by decide) ?_
  refine aa.mk (show ae .i64 (g.h0-g.l0) from⟨by omega,by omega⟩) (aa.mk (show ae .i64 (g.h0-g.l0+1) from⟨by omega,by omega⟩) (aa.mk (show ae .i64 (w*(g.h0-g.l0+1)) from⟨by omega,by omega⟩) ?_))
  exact aa.mk (show ae .i64 (((0:Nat):Int)+1) by decide) ⟨⟨(1,w*(g.h0-g.l0+1)),(show 1≤5 by decide),h7⟩,(λj=>j),⟨AU,AU,rfl,rfl,rfl,rfl,trivial⟩,(show 5-1<5-0 by decide)⟩
 case inr.inl =>
  have h7:=Co hw (show 1≤g.h1-g.l1+1∧g.h1-g.l1+1≤7 by omega)
  refine Br.mk (λ_=>?_) (λh=>(by cases h))
  refine aa.mk (show(0:Int)≤((1:Nat):Int)∧((1:Nat):Int)<5 by decide) ?_
  refine aa.mk (show ae .i64 (g.h1-g.l1) from⟨by omega,by omega⟩) (aa.mk (show ae .i64 (g.h1-g.l1+1) from⟨by omega,by omega⟩) (aa.mk (show ae .i64 (w*(g.h1-g.l1+1)) from⟨by omega,by omega⟩) ?_))
  exact aa.mk (show ae .i64 (((1:Nat):Int)+1) by decide) ⟨⟨(2,w*(g.h1-g.l1+1)),(show 2≤5 by decide),h7⟩,(λj=>j),⟨AU,AU,rfl,rfl,rfl,rfl,trivial⟩,(show 5-2<5-1 by decide)⟩
 case inr.inr.inl =>
  have h7:=Co hw (show 1≤g.h2-g.l2+1∧g.h2-g.l2+1≤7 by omega)
  refine Br.mk (λ_=>?_) (λh=>(by cases h))
  refine aa.mk (show(0:Int)≤((2:Nat):Int)∧((2:Nat):Int)<5 by decide) ?_
  refine aa.mk (show ae .i64 (g.h2-g.l2) from⟨by omega,by omega⟩) (aa.mk (show ae .i64 (g.h2-g.l2+1) from⟨by omega,by omega⟩) (aa.mk (show ae .i64 (w*(g.h2-g.l2+1)) from⟨by omega,by omega⟩) ?_))
  exact aa.mk (show ae .i64 (((2:Nat):Int)+1) by decide) ⟨⟨(3,w*(g.h2-g.l2+1)),(show 3≤5 by decide),h7⟩,(λj=>j),⟨AU,AU,rfl,rfl,rfl,rfl,trivial⟩,(show 5-3<5-2 by decide)⟩
 case inr.inr.inr.inl =>
  have h7:=Co hw (show 1≤g.h3-g.l3+1∧g.h3-g.l3+1≤7 by omega)
  refine Br.mk (λ_=>?_) (λh=>(by cases h))
  refine aa.mk (show(0:Int)≤((3:Nat):Int)∧((3:Nat):Int)<5 by decide) ?_
  refine aa.mk (show ae .i64 (g.h3-g.l3) from⟨by omega,by omega⟩) (aa.mk (show ae .i64 (g.h3-g.l3+1) from⟨by omega,by omega⟩) (aa.mk (show ae .i64 (w*(g.h3-g.l3+1)) from⟨by omega,by omega⟩) ?_))
  exact aa.mk (show ae .i64 (((3:Nat):Int)+1) by decide) ⟨⟨(4,w*(g.h3-g.l3+1)),(show 4≤5 by decide),h7⟩,(λj=>j),⟨AU,AU,rfl,rfl,rfl,rfl,trivial⟩,(show 5-4<5-3 by decide)⟩
 case inr.inr.inr.inr.inl =>
  have h7:=Co hw (show 1≤g.h4-g.l4+1∧g.h4-g.l4+1≤7 by omega)
  refine Br.mk (λ_=>?_) (λh=>(by cases h))
  refine aa.mk (show(0:Int)≤((4:Nat):Int)∧((4:Nat):Int)<5 by decide) ?_
  refine aa.mk (show ae .i64 (g.h4-g.l4) from⟨by omega,by omega⟩) (aa.mk (show ae .i64 (g.h4-g.l4+1) from⟨by omega,by omega⟩) (aa.mk (show ae .i64 (w*(g.h4-g.l4+1)) from⟨by omega,by omega⟩) ?_))
  exact aa.mk (show ae .i64 (((4:Nat):Int)+1) by decide) ⟨⟨(5,w*(g.h4-g.l4+1)),(show 5≤5 by decide),h7⟩,(λj=>j),⟨AU,AU,rfl,rfl,rfl,rfl,trivial⟩,(show 5-5<5-4 by decide)⟩
end
end Go.X.Tl
