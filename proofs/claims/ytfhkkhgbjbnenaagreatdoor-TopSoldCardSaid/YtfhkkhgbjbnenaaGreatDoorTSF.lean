/- Grade: the document's Grade; Grade: Truths and told of the document. -/
import Derived.Test.YtfhkkhgbjbnenaaGreatDoorTSE
import Derived.Test.YtfhkkhgbjbnenaaGreatDoorTSD

set_option linter.unusedVariables false
set_option linter.unusedSimpArgs false
set_option linter.unusedSectionVars false
set_option maxRecDepth 100000
set_option maxHeartbeats 4000000

namespace Go.X.Gr
open Go Go.Proofs Go.X
theorem aaU {x y a b:Int}(ha:0≤a)(hb:0≤b):((!aE x 0 20||!aE y 0 20)||(decide (x<a)||decide (y<b))) = !(aE x a 20&&aE y b 20):=by
 unfold aE
 by_cases h1:0≤x<;>by_cases h2:x≤20<;>by_cases h3:0≤y<;>by_cases h4:y≤20<;>by_cases h5:a≤x<;>by_cases h6:b≤y<;>first|omega|(simp only[h1,h2,h3,h4,h5,h6,decide_true,decide_false,Bool.and_true,Bool.and_false,Bool.or_true,Bool.or_false,Bool.not_true,Bool.not_false,Bool.true_and,Bool.false_and,Bool.true_or,Bool.false_or,show decide (x<a) = !decide (a≤x) from by by_cases h:a≤x<;>simp[h]<;>omega,show decide (y<b) = !decide (b≤y) from by by_cases h:b≤y<;>simp[h]<;>omega])
def zY:Ct:=λfr args H=>match args with
 |[.agg l]=>pa H l λi1 g n get=>some ⟨some (bQ n get∧n≤1000000),none,.sb (da g (ca n get)),[]⟩
 |_=>none
theorem U8:cY zY:=by
 intro fr args H H' out hH h
 unfold zY at h ⊢
 split at h
 ·exact wc hH h
 ·cases h
theorem k40 {l:List (Nat × Ct)}(g0:Good P T l):aP P 21 zY:=by
 have g:=OT ah
 refine bq (C:=aC _) g.ok Tryz.func21 (c:=code Tryz.f21) rfl λfr args H out h hp=>?_
 unfold zY at h
 split at h
 case h_2=>cases h
 rename_i l
 obtain⟨i1,p,n,get,rfl,e1,h⟩:=we h
 cases h
 obtain⟨hs,hn⟩:bQ n get∧n≤1000000:=hp
 have hh:Hand H [(i1,.ro 2 n λi=>az (au get i))]:=kU e1 (λi=>rfl) (λi hi=>(hs i hi).symm)
 refine⟨[(i1,.ro 2 n λi=>az (au get i))],[.agg (bR 0 p)],[(0,.ro 2 n λi=>az (au get i))],1,[],rfl,rfl,Nat.le_of_ble_eq_true rfl,hh,rfl,rfl,λG hG=>?_⟩
 have hE:da p (ca n get)=(kh n p.st&&(nj (0,0) ((List.range n).map (au get))&&dw p 5)):=by
  unfold da ca
  rw[List.length_map,List.length_range]
 generalize da p (ca n get)=E at hE ⊢
 generalize au get=L at hE ⊢
 refine Br.mk (λh=>?_) (λh=>?_)
 ·have h:(!aE n 1 4||!aE p.st 0 10)=true:=h
  have h:kh n p.st=false:=by
   rw[kh]
   cases h1:aE n 1 4<;>cases h2:aE p.st 0 10<;>simp_all
  rw[h] at hE
  have hE:E=false:=hE
  subst hE
  exact⟨.inl rfl,bU rfl rfl rfl Q1⟩
 have h:(!aE n 1 4||!aE p.st 0 10)=false:=h
 have h:kh n p.st=true:=by
  rw[kh]
  cases h1:aE n 1 4<;>cases h2:aE p.st 0 10<;>simp_all
 rw[h,Bool.true_and] at hE
 have Y3:n≤4:=by
  simp only[kh,aE,Bool.and_eq_true,decide_eq_true_eq] at h
  omega
 obtain⟨V,hV⟩:∃V,nj (0,0) ((List.range n).map L)=V:=⟨_,rfl⟩
 rw[hV] at hE
 have I6:∀i,i<n→(List.range' i (n-i)).map L=L i::(List.range' (i+1) (n-(i+1))).map L:=λi hi=>by
  rw[show n-i=(n-(i+1))+1 by omega,List.range'_succ,List.map_cons]
 refine cm (g.ok _ _ _) 1 (λx:{i:Nat // i≤n∧nj (m_ L i) ((List.range' i (n-i)).map L)=V∧0≤(m_ L i).1∧0≤(m_ L i).2}=>⟨[(1,⟨[],.sp 1 0⟩),(3,⟨[],.si .i64 x.1⟩)],[],
  [(1,.cells 40 (bR 0 p)),(0,.ro 2 n λi=>az (L i))],2,[]⟩) (λx=>n-x.1) hG ⟨0,Nat.zero_le _,by rw[←hV,List.range_eq_range'];rfl,Int.le_refl _,Int.le_refl _⟩ (λj=>j) ?_ ?_
 ·refine⟨?_,?_,rfl,rfl,rfl,rfl,trivial⟩<;>exact Q1
 rintro⟨i,hi,hv,py,gV⟩
 refine Br.mk (λh1=>?_) (λh1=>?_)
 ·have h1:(i:Int)<(n:Int):=of_decide_eq_true h1
  rw[I6 i (by omega)] at hv
  have bad:∀v:Bool,v=(!rH (m_ L i) (L i))→(v=true→E=false)∧(v=false→nj (m_ L (i+1)) ((List.range' (i+1) (n-(i+1))).map L)=V∧0≤(L i).1∧0≤(L i).2):=by
   intro v ZV
   rw[ZV]
   refine⟨λh2=>?_,λh2=>?_⟩
   ·have h2:rH (m_ L i) (L i)=false:=by simpa using h2
    rw[nj,h2] at hv
    rw[hE,←hv]
    rfl
   ·have h2:rH (m_ L i) (L i)=true:=by simpa using h2
    rw[nj,h2,Bool.true_and] at hv
    refine⟨hv,?_⟩
    simp only[rH,aE,Bool.and_eq_true,decide_eq_true_eq] at h2
    omega
  rcases Nat.eq_zero_or_pos i with rfl|cR
  ·show exec _ _ ⟨[(22,⟨[],_⟩),(21,⟨[],_⟩),(20,⟨[],_⟩),(19,⟨[],_⟩),(18,⟨[],_⟩),(1,⟨[],.sp 1 0⟩),(3,⟨[],.si .i64 0⟩)],[],[(1,.cells 40 (bR 0 p)),(0,.ro 2 n λi=>az (L i))],2,[]⟩ _
   refine aa.mk (show(0:Int)≤0∧0<(n:Int) from⟨by omega,by omega⟩) ?_
   refine cU (g.ok _ _ _) bP [0,1,3,7,15,31,63,127,255,511,1023,2047,4095,8191,16383,32767,16383,81919,16383,278527,999423,2047999,4145151,8388607,16777215,33554431,67108863,33554431,167772159,33554431,570425343,2046820351,4194303999,8489271295,17179869183,34359738367,68719476735,137438953471] [] 37 (by kernel_rfl) ?_
   refine aa.mk (bZ (show ae .i64 (0-1) from⟨by omega,by omega⟩)) ?_
   refine aa.mk (λh3=>(by have h3:decide ((0:Int)>0)=true:=h3;cases h3)) ?_
   refine aa.mk (bZ (show ae .i64 (0-1) from⟨by omega,by omega⟩)) ?_
   refine aa.mk (λ_ h3=>(by have h3:decide ((0:Int)>0)=true:=h3;cases h3)) ?_
   have hb:=bad ((!aE (L 0).1 0 20||!aE (L 0).2 0 20)||false) (by simp only[rH,m_,Bool.or_false,Bool.not_and])
   refine Br.mk (λh2=>?_) (λh2=>?_)
   ·rw[hb.1 h2]
    exact⟨.inl rfl,bU rfl rfl rfl Q1⟩
   ·obtain⟨q1,q2,q3⟩:=hb.2 h2
    refine aa.mk (show ae .i64 (0+1) from⟨by omega,by omega⟩) ⟨⟨0+1,by omega,q1,q2,q3⟩,(λj=>j),?_,by show n-(0+1)<n-0;omega⟩
    refine⟨?_,?_,rfl,rfl,rfl,rfl,trivial⟩<;>exact Q1
  obtain⟨k,rfl⟩:∃k,i=k+1:=⟨i-1,by omega⟩
  ·show exec _ _ ⟨[(22,⟨[],_⟩),(21,⟨[],_⟩),(20,⟨[],_⟩),(19,⟨[],_⟩),(18,⟨[],_⟩),(1,⟨[],.sp 1 0⟩),(3,⟨[],.si .i64 ((k+1:Nat):Int)⟩)],[],[(1,.cells 40 (bR 0 p)),(0,.ro 2 n λi=>az (L i))],2,[]⟩ _
   refine aa.mk (show(0:Int)≤((k+1:Nat):Int)∧((k+1:Nat):Int)<(n:Int) from⟨by omega,by omega⟩) ?_
   refine cU (g.ok _ _ _) bP [0,1,3,7,15,31,63,127,255,511,1023,2047,4095,8191,16383,32767,16383,81919,16383,278527,999423,2047999,4145151,8388607,16777215,33554431,67108863,33554431,167772159,33554431,570425343,2046820351,4194303999,8489271295,17179869183,34359738367,68719476735,137438953471] [] 37 (by kernel_rfl) ?_
   refine aa.mk (bZ (show ae .i64 (((k+1:Nat):Int)-1) from⟨by omega,by omega⟩)) ?_
   refine aa.mk (bZ (show 0≤((k+1:Nat):Int)-1∧((k+1:Nat):Int)-1<(n:Int) from⟨by omega,by omega⟩)) ?_
   refine aa.mk (bZ (show ae .i64 (((k+1:Nat):Int)-1) from⟨by omega,by omega⟩)) ?_
   refine aa.mk (bZ (show 0≤((k+1:Nat):Int)-1∧((k+1:Nat):Int)-1<(n:Int) from⟨by omega,by omega⟩)) ?_
   have hb:=bad ((!aE (L (k+1)).1 0 20||!aE (L (k+1)).2 0 20)||(decide (((k+1:Nat):Int)>0)&&(decide ((L (k+1)).1<(L (((k+1:Nat):Int)-1).toNat).1)||decide ((L (k+1)).2<(L (((k+1:Nat):Int)-1).toNat).2)))) (by
    have e1:(((k+1:Nat):Int)-1).toNat=k:=by omega
    have py:0≤(L k).1:=py
    have gV:0≤(L k).2:=gV
    rw[e1,show decide (((k+1:Nat):Int)>0)=true from decide_eq_true (by omega),Bool.true_and]
    exact aaU py gV)
   refine Br.mk (λh2=>?_) (λh2=>?_)
   ·rw[hb.1 h2]
    exact⟨.inl rfl,bU rfl rfl rfl Q1⟩
   ·obtain⟨q1,q2,q3⟩:=hb.2 h2
    refine aa.mk (show ae .i64 (((k+1:Nat):Int)+1) from⟨by omega,by omega⟩) ⟨⟨k+1+1,by omega,q1,q2,q3⟩,(λj=>j),?_,by show n-(k+1+1)<n-(k+1);omega⟩
    refine⟨?_,?_,rfl,rfl,rfl,rfl,trivial⟩<;>exact Q1
 have h1:¬(i:Int)<(n:Int):=of_decide_eq_false h1
 obtain rfl:i=n:=by omega
 rw[show i-i=0 by omega] at hv
 have hv:true=V:=hv
 subst hv
 rw[Bool.true_and] at hE
 refine cm (g.ok _ _ _) 1 (λx:{j:Nat // j≤5∧dw p j=true}=>⟨[(1,⟨[],.sp 1 0⟩),(5,⟨[],.si .i64 x.1⟩)],[],
  [(1,.cells 40 (bR 0 p)),(0,.ro 2 i λi=>az (L i))],2,[]⟩) (λx=>5-x.1) hG ⟨0,Nat.zero_le _,rfl⟩ (λj=>j) ?_ ?_
 ·refine⟨?_,?_,rfl,rfl,rfl,rfl,trivial⟩<;>exact Q1
 rintro⟨j,hj,lC⟩
 rcases(show j=0∨j=1∨j=2∨j=3∨j=4∨j=5 by omega) with rfl|rfl|rfl|rfl|rfl|rfl
 ·show exec _ _ ⟨[(1,⟨[],.sp 1 0⟩),(5,⟨[],.si .i64 0⟩)],[],[(1,.cells 40 (bR 0 p)),(0,.ro 2 i λi=>az (L i))],2,[]⟩ _
  refine Br.mk (λ_=>?_) (λh=>by cases h)
  refine aa.mk (cS 0 5 rfl) ?_
  refine aa.mk (λh2=>?_) ?_
  ·have h2:((decide (p.l0 < -20)||decide (p.l0>p.h0))||decide (p.h0>20))=false:=h2
   simp only[Bool.or_eq_false_iff,decide_eq_false_iff_not] at h2
   show _≤p.h0-p.l0∧p.h0-p.l0≤_
   omega
  have k9:(((decide (p.l0 < -20)||decide (p.l0>p.h0))||decide (p.h0>20))||decide (p.h0-p.l0>6)) = !cb p.l0 p.h0:=by
   unfold cb
   rw[Bool.eq_iff_iff]
   by_cases q1:-20≤p.l0<;>by_cases q2:p.l0≤p.h0<;>by_cases q3:p.h0≤20<;>by_cases q4:p.h0-p.l0≤6<;>simp[q1,q2,q3,q4]<;>omega
  refine Br.mk (λh2=>?_) (λh2=>?_)
  ·have h2:(((decide (p.l0 < -20)||decide (p.l0>p.h0))||decide (p.h0>20))||decide (p.h0-p.l0>6))=true:=h2
   rw[k9] at h2
   have h2:cb p.l0 p.h0=false:=by simpa using h2
   have h3:dw p 5=false:=by simp[dw,h2]
   rw[h3] at hE
   rw[hE]
   exact⟨.inl rfl,bU rfl rfl rfl Q1⟩
  ·have h2:(((decide (p.l0 < -20)||decide (p.l0>p.h0))||decide (p.h0>20))||decide (p.h0-p.l0>6))=false:=h2
   rw[k9] at h2
   have h2:cb p.l0 p.h0=true:=by simpa using h2
   refine aa.mk (dS 0 rfl) ⟨⟨1,by omega,h2⟩,(λj=>j),?_,by show 5-1<5-0;omega⟩
   refine⟨?_,?_,rfl,rfl,rfl,rfl,trivial⟩<;>exact Q1
 ·show exec _ _ ⟨[(1,⟨[],.sp 1 0⟩),(5,⟨[],.si .i64 1⟩)],[],[(1,.cells 40 (bR 0 p)),(0,.ro 2 i λi=>az (L i))],2,[]⟩ _
  refine Br.mk (λ_=>?_) (λh=>by cases h)
  refine aa.mk (cS 1 5 rfl) ?_
  refine aa.mk (λh2=>?_) ?_
  ·have h2:((decide (p.l1 < -20)||decide (p.l1>p.h1))||decide (p.h1>20))=false:=h2
   simp only[Bool.or_eq_false_iff,decide_eq_false_iff_not] at h2
   show _≤p.h1-p.l1∧p.h1-p.l1≤_
   omega
  have k9:(((decide (p.l1 < -20)||decide (p.l1>p.h1))||decide (p.h1>20))||decide (p.h1-p.l1>6)) = !cb p.l1 p.h1:=by
   unfold cb
   rw[Bool.eq_iff_iff]
   by_cases q1:-20≤p.l1<;>by_cases q2:p.l1≤p.h1<;>by_cases q3:p.h1≤20<;>by_cases q4:p.h1-p.l1≤6<;>simp[q1,q2,q3,q4]<;>omega
  refine Br.mk (λh2=>?_) (λh2=>?_)
  ·have h2:(((decide (p.l1 < -20)||decide (p.l1>p.h1))||decide (p.h1>20))||decide (p.h1-p.l1>6))=true:=h2
   rw[k9] at h2
   have h2:cb p.l1 p.h1=false:=by simpa using h2
   have h3:dw p 5=false:=by simp[dw,h2]
   rw[h3] at hE
   rw[hE]
   exact⟨.inl rfl,bU rfl rfl rfl Q1⟩
  ·have h2:(((decide (p.l1 < -20)||decide (p.l1>p.h1))||decide (p.h1>20))||decide (p.h1-p.l1>6))=false:=h2
   rw[k9] at h2
   have h2:cb p.l1 p.h1=true:=by simpa using h2
   refine aa.mk (dS 1 rfl) ⟨⟨2,by omega,(show(dw p 1&&cb p.l1 p.h1)=true from by rw[show dw p 1=true from lC,h2];rfl)⟩,(λj=>j),?_,by show 5-2<5-1;omega⟩
   refine⟨?_,?_,rfl,rfl,rfl,rfl,trivial⟩<;>exact Q1
 ·show exec _ _ ⟨[(1,⟨[],.sp 1 0⟩),(5,⟨[],.si .i64 2⟩)],[],[(1,.cells 40 (bR 0 p)),(0,.ro 2 i λi=>az (L i))],2,[]⟩ _
  refine Br.mk (λ_=>?_) (λh=>by cases h)
  refine aa.mk (cS 2 5 rfl) ?_
  refine aa.mk (λh2=>?_) ?_
  ·have h2:((decide (p.l2 < -20)||decide (p.l2>p.h2))||decide (p.h2>20))=false:=h2
   simp only[Bool.or_eq_false_iff,decide_eq_false_iff_not] at h2
   show _≤p.h2-p.l2∧p.h2-p.l2≤_
   omega
  have k9:(((decide (p.l2 < -20)||decide (p.l2>p.h2))||decide (p.h2>20))||decide (p.h2-p.l2>6)) = !cb p.l2 p.h2:=by
   unfold cb
   rw[Bool.eq_iff_iff]
   by_cases q1:-20≤p.l2<;>by_cases q2:p.l2≤p.h2<;>by_cases q3:p.h2≤20<;>by_cases q4:p.h2-p.l2≤6<;>simp[q1,q2,q3,q4]<;>omega
  refine Br.mk (λh2=>?_) (λh2=>?_)
  ·have h2:(((decide (p.l2 < -20)||decide (p.l2>p.h2))||decide (p.h2>20))||decide (p.h2-p.l2>6))=true:=h2
   rw[k9] at h2
   have h2:cb p.l2 p.h2=false:=by simpa using h2
   have h3:dw p 5=false:=by simp[dw,h2]
   rw[h3] at hE
   rw[hE]
   exact⟨.inl rfl,bU rfl rfl rfl Q1⟩
  ·have h2:(((decide (p.l2 < -20)||decide (p.l2>p.h2))||decide (p.h2>20))||decide (p.h2-p.l2>6))=false:=h2
   rw[k9] at h2
   have h2:cb p.l2 p.h2=true:=by simpa using h2
   refine aa.mk (dS 2 rfl) ⟨⟨3,by omega,(show(dw p 2&&cb p.l2 p.h2)=true from by rw[show dw p 2=true from lC,h2];rfl)⟩,(λj=>j),?_,by show 5-3<5-2;omega⟩
   refine⟨?_,?_,rfl,rfl,rfl,rfl,trivial⟩<;>exact Q1
 ·show exec _ _ ⟨[(1,⟨[],.sp 1 0⟩),(5,⟨[],.si .i64 3⟩)],[],[(1,.cells 40 (bR 0 p)),(0,.ro 2 i λi=>az (L i))],2,[]⟩ _
  refine Br.mk (λ_=>?_) (λh=>by cases h)
  refine aa.mk (cS 3 5 rfl) ?_
  refine aa.mk (λh2=>?_) ?_
  ·have h2:((decide (p.l3 < -20)||decide (p.l3>p.h3))||decide (p.h3>20))=false:=h2
   simp only[Bool.or_eq_false_iff,decide_eq_false_iff_not] at h2
   show _≤p.h3-p.l3∧p.h3-p.l3≤_
   omega
  have k9:(((decide (p.l3 < -20)||decide (p.l3>p.h3))||decide (p.h3>20))||decide (p.h3-p.l3>6)) = !cb p.l3 p.h3:=by
   unfold cb
   rw[Bool.eq_iff_iff]
   by_cases q1:-20≤p.l3<;>by_cases q2:p.l3≤p.h3<;>by_cases q3:p.h3≤20<;>by_cases q4:p.h3-p.l3≤6<;>simp[q1,q2,q3,q4]<;>omega
  refine Br.mk (λh2=>?_) (λh2=>?_)
  ·have h2:(((decide (p.l3 < -20)||decide (p.l3>p.h3))||decide (p.h3>20))||decide (p.h3-p.l3>6))=true:=h2
   rw[k9] at h2
   have h2:cb p.l3 p.h3=false:=by simpa using h2
   have h3:dw p 5=false:=by simp[dw,h2]
   rw[h3] at hE
   rw[hE]
   exact⟨.inl rfl,bU rfl rfl rfl Q1⟩
  ·have h2:(((decide (p.l3 < -20)||decide (p.l3>p.h3))||decide (p.h3>20))||decide (p.h3-p.l3>6))=false:=h2
   rw[k9] at h2
   have h2:cb p.l3 p.h3=true:=by simpa using h2
   refine aa.mk (dS 3 rfl) ⟨⟨4,by omega,(show(dw p 3&&cb p.l3 p.h3)=true from by rw[show dw p 3=true from lC,h2];rfl)⟩,(λj=>j),?_,by show 5-4<5-3;omega⟩
   refine⟨?_,?_,rfl,rfl,rfl,rfl,trivial⟩<;>exact Q1
 ·show exec _ _ ⟨[(1,⟨[],.sp 1 0⟩),(5,⟨[],.si .i64 4⟩)],[],[(1,.cells 40 (bR 0 p)),(0,.ro 2 i λi=>az (L i))],2,[]⟩ _
  refine Br.mk (λ_=>?_) (λh=>by cases h)
  refine aa.mk (cS 4 5 rfl) ?_
  refine aa.mk (λh2=>?_) ?_
  ·have h2:((decide (p.l4 < -20)||decide (p.l4>p.h4))||decide (p.h4>20))=false:=h2
   simp only[Bool.or_eq_false_iff,decide_eq_false_iff_not] at h2
   show _≤p.h4-p.l4∧p.h4-p.l4≤_
   omega
  have k9:(((decide (p.l4 < -20)||decide (p.l4>p.h4))||decide (p.h4>20))||decide (p.h4-p.l4>6)) = !cb p.l4 p.h4:=by
   unfold cb
   rw[Bool.eq_iff_iff]
   by_cases q1:-20≤p.l4<;>by_cases q2:p.l4≤p.h4<;>by_cases q3:p.h4≤20<;>by_cases q4:p.h4-p.l4≤6<;>simp[q1,q2,q3,q4]<;>omega
  refine Br.mk (λh2=>?_) (λh2=>?_)
  ·have h2:(((decide (p.l4 < -20)||decide (p.l4>p.h4))||decide (p.h4>20))||decide (p.h4-p.l4>6))=true:=h2
   rw[k9] at h2
   have h2:cb p.l4 p.h4=false:=by simpa using h2
   have h3:dw p 5=false:=by simp[dw,h2]
   rw[h3] at hE
   rw[hE]
   exact⟨.inl rfl,bU rfl rfl rfl Q1⟩
  ·have h2:(((decide (p.l4 < -20)||decide (p.l4>p.h4))||decide (p.h4>20))||decide (p.h4-p.l4>6))=false:=h2
   rw[k9] at h2
   have h2:cb p.l4 p.h4=true:=by simpa using h2
   refine aa.mk (dS 4 rfl) ⟨⟨5,by omega,(show(dw p 4&&cb p.l4 p.h4)=true from by rw[show dw p 4=true from lC,h2];rfl)⟩,(λj=>j),?_,by show 5-5<5-4;omega⟩
   refine⟨?_,?_,rfl,rfl,rfl,rfl,trivial⟩<;>exact Q1
 refine Br.mk (λh=>by cases h) (λ_=>?_)
 have lC:dw p 5=true:=lC
 rw[lC] at hE
 rw[hE]
 exact⟨.inl rfl,bU rfl rfl rfl Q1⟩
theorem A6 {g:aB}{L:List (Int × Int)}(h:da g L=true):eo g∧1≤L.length∧L.length≤4:=by
 simp only[da,kh,aE,dw,cb,Bool.and_eq_true,decide_eq_true_eq] at h
 unfold eo
 omega
theorem AA {g:aB}{L:List (Int × Int)}{is:Bool}(h:ft g L is=0):da g L=true∧is=true:=by
 unfold ft at h
 split at h
 ·rename_i h1
  split at h
  ·rename_i h2;exact⟨h1,h2⟩
  ·cases h
 ·cases h
def sH (F:Int→Int→Int→Int→Int→Int)(g:aB)(L:List (Int × Int))(is:Bool):Int:=if ft g L is=0 then(if xN (ia F g)=true then 0 else 10) else ft g L is
def u7 (F:Int→Int→Int→Int→Int→Int)(g:aB)(L:List (Int × Int))(is:Bool):Int × Int:=if ft g L is=0 then zw (ia F g) else(0,0)
def mI:Ct:=λfr args H=>match args with
 |[.agg l,.si .i64 q]=>pa H l λi1 g n get=>some ⟨some (bQ n get∧n≤1000000),none,.bn [.agg [.si .i64 (u7 (cE q) g (ca n get) (aE q 0 4)).1,.si .i64 (u7 (cE q) g (ca n get) (aE q 0 4)).2],.si .i64 (sH (cE q) g (ca n get) (aE q 0 4))],[]⟩
 |_=>none
theorem DH:cY mI:=by
 intro fr args H H' out hH h
 unfold mI at h ⊢
 split at h
 ·exact wc hH h
 ·cases h
theorem yM {l:List (Nat × Ct)}(g0:Good P T l):aP P 76 mI:=by
 have g:=A1 (Xq (Xp ah))
 refine sD (C:=aC _) g.ok G6 Tryz.func76 (c:=code Tryz.f76) rfl λfr args H out h hp=>?_
 unfold mI at h
 split at h
 case h_2=>cases h
 rename_i l q
 obtain⟨i1,p,n,get,rfl,e1,h⟩:=we h
 cases h
 obtain⟨hs,hn⟩:bQ n get∧n≤1000000:=hp
 have hh:Hand H [(i1,.ro 2 n λi=>az (au get i))]:=kU e1 (λi=>rfl) (λi hi=>(hs i hi).symm)
 refine⟨[(i1,.ro 2 n λi=>az (au get i))],[.agg (bR 0 p),.si .i64 q],[(0,.ro 2 n λi=>az (au get i))],1,[],rfl,rfl,Nat.le_of_ble_eq_true rfl,hh,rfl,rfl,λG hG=>?_⟩
 unfold ca
 refine sK 105 4 (g.ok _ _ _) rfl aj rfl rfl rfl rfl rfl rfl rfl ?_
 refine cU (g.ok _ _ _) bP [0,0,2,7,0,31,63,127] [(6,3),(7,4)] 8 (by kernel_rfl) ?_
 refine aa.mk ⟨dj _ _,hn⟩ ?_
 refine Br.mk (λh=>?_) (λh=>?_)
 ·have h:(!decide (ft p ((List.range n).map (au get)) (aE q 0 4)=0))=true:=h
  have h:¬ft p ((List.range n).map (au get)) (aE q 0 4)=0:=by simpa using h
  refine⟨.inl rfl,bU ⟨⟨⟨rfl,?_⟩,⟨rfl,?_⟩,trivial⟩,⟨rfl,?_⟩,trivial⟩ rfl rfl Q1⟩
  ·show(0:Int)=(u7 (cE q) p ((List.range n).map (au get)) (aE q 0 4)).1
   rw[u7,if_neg h]
  ·show(0:Int)=(u7 (cE q) p ((List.range n).map (au get)) (aE q 0 4)).2
   rw[u7,if_neg h]
  ·show ft p ((List.range n).map (au get)) (aE q 0 4)=sH (cE q) p ((List.range n).map (au get)) (aE q 0 4)
   rw[sH,if_neg h]
 have h:(!decide (ft p ((List.range n).map (au get)) (aE q 0 4)=0))=false:=h
 have h:ft p ((List.range n).map (au get)) (aE q 0 4)=0:=by simpa using h
 have hb:=(A6 (AA h).1).1
 have hq:0≤q∧q<5:=by
  have:=(AA h).2
  simp only[aE,Bool.and_eq_true,decide_eq_true_eq] at this
  omega
 have hr:u7 (cE q) p ((List.range n).map (au get)) (aE q 0 4)=zw (ia (cE q) p):=by rw[u7,if_pos h]
 have he:sH (cE q) p ((List.range n).map (au get)) (aE q 0 4)=if xN (ia (cE q) p)=true then 0 else 10:=by rw[sH,if_pos h]
 rw[hr,he]
 refine aa.mk ⟨⟨dj _ _,dj _ _,hb⟩,hq⟩ ?_
 refine Br.mk (λh2=>?_) (λh2=>?_)
 ·have h2:(!xN (ia (cE q) p))=true:=h2
  cases hS:ia (cE q) p with
  |none=>exact⟨.inl rfl,bU ⟨⟨⟨rfl,rfl⟩,⟨rfl,rfl⟩,trivial⟩,⟨rfl,rfl⟩,trivial⟩ rfl rfl Q1⟩
  |some x=>rw[hS] at h2;cases h2
 ·have h2:(!xN (ia (cE q) p))=false:=h2
  cases hS:ia (cE q) p with
  |none=>rw[hS] at h2;cases h2
  |some x=>exact⟨.inl rfl,bU ⟨⟨⟨rfl,rfl⟩,⟨rfl,rfl⟩,trivial⟩,⟨rfl,rfl⟩,trivial⟩ rfl rfl Q1⟩
theorem AZ {l:List (Nat × Ct)}(g:Good P T l):Good P T ((76,mI)::l):=g.add (yM g) DH (aw Tryz.func76 (c:=code Tryz.f76) rfl (by decide))
theorem abx {a0 a1 a2 a3 a4:Int}(h0:aD a0)(h1:aD a1)(h2:aD a2)(h3:aD a3)(h4:aD a4):pM a0 a1 a2 a3 a4≤40∧pU a0 a1 a2 a3 a4≤40:=by
 unfold aD at *
 unfold pM pU zr f_
 omega
theorem AW {γ α:Type}{f:γ→α→γ × Bool}{I:γ→Prop}{l:List α}(h:∀c x,x∈l→I c→I (f c x).1):∀{c:γ},I c→I (dH f c l).1:=by
 induction l with
 |nil=>intro c hc;exact hc
 |cons x r ih =>
  intro c hc
  have h1:=h c x List.mem_cons_self hc
  cases e:(f c x).2 with
  |true=>rw[n6 e];exact ih (λc y hy=>h c y (List.mem_cons_of_mem _ hy)) h1
  |false=>rw[n7 e];exact h1
theorem mA {lo hi k:Int}:k∈cx lo hi↔lo≤k∧k≤hi:=by
 have key:∀(n:Nat) (lo k:Int),k∈xq n lo↔lo≤k∧k<lo+n:=by
  intro n
  induction n with
  |zero=>intro lo k;simp[xq]
  |succ n ih=>intro lo k;simp only[xq,List.mem_cons,ih];omega
 unfold cx
 rw[key]
 omega
theorem abz {γ:Type}{f:γ→Int→Int→Int→Int→Int→γ × Bool}{g:aB}{I:γ→Prop}(hg:eo g)(h:∀c a0 a1 a2 a3 a4,aD a0→aD a1→aD a2→aD a3→aD a4→I c→I (f c a0 a1 a2 a3 a4).1){c:γ}(hc:I c):I (nq f g c).1:=by
 unfold eo at hg
 refine AW (λc a0 m0 hc=>?_) hc
 have r0:=mA.1 (List.mem_filter.1 m0).1
 refine AW (λc a1 m1 hc=>?_) hc
 have r1:=mA.1 (List.mem_filter.1 m1).1
 refine AW (λc a2 m2 hc=>?_) hc
 have r2:=mA.1 (List.mem_filter.1 m2).1
 refine AW (λc a3 m3 hc=>?_) hc
 have r3:=mA.1 (List.mem_filter.1 m3).1
 refine AW (λc a4 m4 hc=>?_) hc
 have r4:=mA.1 (List.mem_filter.1 m4).1
 exact h c a0 a1 a2 a3 a4 ⟨by omega,by omega⟩ ⟨by omega,by omega⟩ ⟨by omega,by omega⟩ ⟨by omega,by omega⟩ ⟨by omega,by omega⟩ hc
theorem adZ {κ ν:Type} [DecidableEq κ]{m:List (κ × ν)}{k:κ}{v:ν}{p:κ × ν}(h:p∈bN m k v):p∈m∨p.1=k:=by
 induction m with
 |nil=>simp[bN] at h;right;rw[h]
 |cons q r ih =>
  unfold bN at h
  split at h
  ·rename_i e
   rcases List.mem_cons.1 h with rfl|h
   ·right;first|exact e|exact e.symm|rfl
   ·left;exact List.mem_cons_of_mem _ h
  ·rcases List.mem_cons.1 h with rfl|h
   ·left;exact List.mem_cons_self
   ·rcases ih h with h|h
    ·left;exact List.mem_cons_of_mem _ h
    ·right;exact h
theorem Ih {g:aB}(hg:eo g):∀p∈rk kz g,p.1.1≤40∧p.1.2≤40:=by
 refine abz (I:=λc:List (Fc × Bool)=>∀p∈c,p.1.1≤40∧p.1.2≤40) hg (λc a0 a1 a2 a3 a4 h0 h1 h2 h3 h4 hc p hp=>?_) (λp hp=>by cases hp)
 rcases adZ hp with hp|hp
 ·exact hc p hp
 ·rw[hp];exact abx h0 h1 h2 h3 h4
def dW (L:List (Int × Int)):List (Int × Int):=L++[(40,40)]
theorem Fy (n:Nat)(l:Nat→Int × Int):(List.range (n+1)).map (jh n l)=dW ((List.range n).map l):=by
 rw[List.range_succ,List.map_append,dW]
 congr 1
 ·refine List.map_congr_left λi hi=>?_
  rw[jh,if_pos (List.mem_range.1 hi)]
 ·simp[jh]
theorem KK {L:List (Int × Int)}{f:Fc}(h:f.1≤40∧f.2≤40):cC (dW L) f<L.length+1:=by
 have:cC (dW L) f<(dW L).length:=by
  refine List.findIdx_lt_length_of_exists ⟨(40,40),by simp[dW],?_⟩
  simp[lG,wT,h]
 simpa [dW] using this
def gl (g:aB)(L:List (Int × Int))(is:Bool):Int:=if ft g L is=0 then(if hasB g=true then 0 else 10) else ft g L is
def rW (g:aB)(L:List (Int × Int))(is:Bool):Nat:=if gl g L is=0 then cD (dW L) g else 0
theorem Le {g:aB}{L:List (Int × Int)}(hg:eo g)(hL:L.length≤4):cD (dW L) g<32:=by
 have:cD (dW L) g<2 ^ 5:=O5 λf hf=>by
  obtain⟨p,hp,rfl⟩:=List.mem_map.1 hf
  have:=KK (L:=L) (Ih hg p hp)
  omega
 simpa using this
def ud:Ct:=λfr args H=>match args with
 |[.agg l]=>pa H l λi1 g n get=>some ⟨some (bQ n get∧n≤1000000),none,.bn [.si .i64 (rW g (ca n get) true:Nat),.si .i64 (gl g (ca n get) true)],[]⟩
 |_=>none
theorem U4:cY ud:=by
 intro fr args H H' out hH h
 unfold ud at h ⊢
 split at h
 ·exact wc hH h
 ·cases h
theorem Kc {l:List (Nat × Ct)}(g0:Good P T l):aP P 80 ud:=by
 have g:=A1 (OP (OQ ah))
 refine sD (C:=aC _) g.ok Ub Tryz.func80 (c:=code Tryz.f80) rfl λfr args H out h hp=>?_
 unfold ud at h
 split at h
 case h_2=>cases h
 rename_i l
 obtain⟨i1,p,n,get,rfl,e1,h⟩:=we h
 cases h
 obtain⟨hs,hn⟩:bQ n get∧n≤1000000:=hp
 have hh:Hand H [(i1,.ro 2 n λi=>az (au get i))]:=kU e1 (λi=>rfl) (λi hi=>(hs i hi).symm)
 refine⟨[(i1,.ro 2 n λi=>az (au get i))],[.agg (bR 0 p)],[(0,.ro 2 n λi=>az (au get i))],1,[],rfl,rfl,Nat.le_of_ble_eq_true rfl,hh,rfl,rfl,λG hG=>?_⟩
 unfold ca
 refine sK 109 2 (g.ok _ _ _) rfl aj rfl rfl rfl rfl rfl rfl rfl ?_
 refine aa.mk ⟨dj _ _,hn⟩ ?_
 refine Br.mk (λh=>?_) (λh=>?_)
 ·have h:(!decide (ft p ((List.range n).map (au get)) true=0))=true:=h
  have h:¬ft p ((List.range n).map (au get)) true=0:=by simpa using h
  have he:gl p ((List.range n).map (au get)) true=ft p ((List.range n).map (au get)) true:=by rw[gl,if_neg h]
  refine⟨.inl rfl,bU ⟨⟨rfl,?_⟩,⟨rfl,he.symm⟩,trivial⟩ rfl rfl Q1⟩
  show(0:Int)=((rW p ((List.range n).map (au get)) true:Nat):Int)
  rw[rW,he,if_neg h]
  rfl
 have h:(!decide (ft p ((List.range n).map (au get)) true=0))=false:=h
 have h:ft p ((List.range n).map (au get)) true=0:=by simpa using h
 obtain⟨hb,ly,qv⟩:=A6 (AA h).1
 have he:gl p ((List.range n).map (au get)) true=if hasB p=true then 0 else 10:=by rw[gl,if_pos h]
 refine aa.mk ⟨dj _ _,dj _ _,hb⟩ ?_
 refine Br.mk (λh2=>?_) (λh2=>?_)
 ·have h2:(!hasB p)=true:=h2
  have h2:hasB p=false:=by simpa using h2
  have he:gl p ((List.range n).map (au get)) true=10:=by rw[he,h2];rfl
  refine⟨.inl rfl,bU ⟨⟨rfl,?_⟩,⟨rfl,he.symm⟩,trivial⟩ rfl rfl Q1⟩
  show(0:Int)=((rW p ((List.range n).map (au get)) true:Nat):Int)
  rw[rW,he]
  rfl
 ·have h2:(!hasB p)=false:=h2
  have h2:hasB p=true:=by simpa using h2
  have he:gl p ((List.range n).map (au get)) true=0:=by rw[he,h2];rfl
  have hlen:((List.range n).map (au get)).length=n:=by simp
  have rD:=Le hb (L:=(List.range n).map (au get)) qv
  have hq:cD ((List.range (n+1)).map (jh n (au get))) p=cD (dW ((List.range n).map (au get))) p:=by rw[Fy]
  refine aa.mk ⟨dj _ _,dj _ _,hb,by omega,λq Zq=>?_⟩ ?_
  ·show cC ((List.range (n+1)).map (jh n (au get))) q.1<n+1
   rw[Fy]
   have:=KK (L:=(List.range n).map (au get)) (Ih hb q Zq)
   omega
  refine aa.mk (show ae .i64 ((cD ((List.range (n+1)).map (jh n (au get))) p:Nat):Int) from by rw[hq];exact⟨by show(-9223372036854775808:Int)≤_;omega,by show _≤(9223372036854775807:Int);omega⟩) ?_
  refine⟨.inl rfl,bU ⟨⟨rfl,?_⟩,⟨rfl,he.symm⟩,trivial⟩ rfl rfl Q1⟩
  show((cD ((List.range (n+1)).map (jh n (au get))) p:Nat):Int)=((rW p ((List.range n).map (au get)) true:Nat):Int)
  rw[rW,he,if_pos rfl,hq]
def eA (q:Int):Nat:=2*2 ^ q.toNat-1
def vd (s u:Nat):Int:=if s-(s &&& u)=0 then 2 else if s &&& u=0 then 0 else 1
def qB (L:List (Int × Int))(q:Int):Bool:=aE q 0 ((L.length:Int)-1)
def qJ (g:aB)(L:List (Int × Int))(q:Int):Int:=if gl g L (qB L q)=0 then vd (cD (dW L) g) (eA q) else 0
def nQ:Ct:=λfr args H=>match args with
 |[.agg l,.si .i64 q]=>pa H l λi1 g n get=>some ⟨some (bQ n get∧n≤1000000),none,.bn [.si .i64 (qJ g (ca n get) q),.si .i64 (gl g (ca n get) (qB (ca n get) q))],[]⟩
 |_=>none
theorem DI:cY nQ:=by
 intro fr args H H' out hH h
 unfold nQ at h ⊢
 split at h
 ·exact wc hH h
 ·cases h
theorem Fo {l:List (Nat × Ct)}(g0:Good P T l):aP P 16 nQ:=by
 have g:=A1 (OP (OQ (Xz ah)))
 refine sD (C:=aC _) g.ok Uc Tryz.func16 (c:=code Tryz.f16) rfl λfr args H out h hp=>?_
 unfold nQ at h
 split at h
 case h_2=>cases h
 rename_i l q
 obtain⟨i1,p,n,get,rfl,e1,h⟩:=we h
 cases h
 obtain⟨hs,hn⟩:bQ n get∧n≤1000000:=hp
 have hh:Hand H [(i1,.ro 2 n λi=>az (au get i))]:=kU e1 (λi=>rfl) (λi hi=>(hs i hi).symm)
 refine⟨[(i1,.ro 2 n λi=>az (au get i))],[.agg (bR 0 p),.si .i64 q],[(0,.ro 2 n λi=>az (au get i))],1,[],rfl,rfl,Nat.le_of_ble_eq_true rfl,hh,rfl,rfl,λG hG=>?_⟩
 have hlen:(ca n get).length=n:=by simp[ca]
 have qt:qB (ca n get) q=aE q 0 ((n:Int)-1):=by rw[qB,hlen]
 rw[qt]
 have th:qJ p (ca n get) q=if gl p (ca n get) (aE q 0 ((n:Int)-1))=0 then vd (cD (dW (ca n get)) p) (eA q) else 0:=by rw[qJ,qt]
 generalize qJ p (ca n get) q=U at th ⊢
 generalize hL:ca n get=L at *
 have pe:(List.range n).map (au get)=L:=hL
 refine sK 48 2 (g.ok _ _ _) rfl aj rfl rfl rfl rfl rfl rfl rfl ?_
 refine cU (g.ok _ _ _) bP [0,0,0,6,15,31,63,127] [] 8 (by kernel_rfl) ?_
 refine aa.mk ⟨dj _ _,hn⟩ (aa.mk ⟨dj _ _,hn⟩ ?_)
 refine Br.mk (λh=>?_) (λh=>?_)
 ·have h:(!decide (ft p ((List.range n).map (au get)) (aE q 0 ((n:Int)-1))=0))=true:=h
  rw[pe] at h
  have h:¬ft p L (aE q 0 ((n:Int)-1))=0:=by simpa using h
  have he:gl p L (aE q 0 ((n:Int)-1))=ft p L (aE q 0 ((n:Int)-1)):=by rw[gl,if_neg h]
  refine⟨.inl rfl,bU ⟨⟨rfl,?_⟩,⟨rfl,?_⟩,trivial⟩ rfl rfl Q1⟩
  ·show(0:Int)=U
   rw[th,he,if_neg h]
  ·show ft p ((List.range n).map (au get)) (aE q 0 ((n:Int)-1))=gl p L (aE q 0 ((n:Int)-1))
   rw[pe,he]
 have h:(!decide (ft p ((List.range n).map (au get)) (aE q 0 ((n:Int)-1))=0))=false:=h
 rw[pe] at h
 have h:ft p L (aE q 0 ((n:Int)-1))=0:=by simpa using h
 obtain⟨hb,ly,qv⟩:=A6 (AA h).1
 have hq:0≤q∧q<4:=by
  have:=(AA h).2
  simp only[aE,Bool.and_eq_true,decide_eq_true_eq] at this
  omega
 refine aa.mk ⟨dj _ _,dj _ _,hb⟩ ?_
 refine Br.mk (λh2=>?_) (λh2=>?_)
 ·have h2:(!hasB p)=true:=h2
  have h2:hasB p=false:=by simpa using h2
  have he:gl p L (aE q 0 ((n:Int)-1))=10:=by rw[gl,if_pos h,h2];rfl
  refine⟨.inl rfl,bU ⟨⟨rfl,?_⟩,⟨rfl,he.symm⟩,trivial⟩ rfl rfl Q1⟩
  show(0:Int)=U
  rw[th,he]
  rfl
 have h2:(!hasB p)=false:=h2
 have h2:hasB p=true:=by simpa using h2
 have he:gl p L (aE q 0 ((n:Int)-1))=0:=by rw[gl,if_pos h,h2];rfl
 rw[he] at th ⊢
 rw[if_pos rfl] at th
 have rD:=Le hb (L:=L) qv
 refine aa.mk ⟨dj _ _,dj _ _,hb,by omega,λx ZY=>?_⟩ ?_
 ·show cC ((List.range (n+1)).map (jh n (au get))) x.1<n+1
  rw[Fy,pe]
  have:=KK (L:=L) (Ih hb x ZY)
  omega
 have hS:cD (ca (n+1) λi=>az (jh n (au get) i)) p=cD (dW L) p:=by
  show cD ((List.range (n+1)).map (jh n (au get))) p=_
  rw[Fy,pe]
 obtain⟨S,mV⟩:∃S,cD (dW L) p=S:=⟨_,rfl⟩
 rw[mV] at rD th hS
 obtain⟨k,rfl⟩:∃k:Nat,q=(k:Int):=⟨q.toNat,by omega⟩
 have hk4:k<4:=by omega
 have IJ:(2:Int)*2 ^ ((k:Int)).toNat=((2*2 ^ k:Nat):Int):=by
  rw[Int.toNat_natCast];push_cast;rfl
 have XX:2 ^ k≤8:=by
  have:2 ^ k≤2 ^ 3:=Nat.pow_le_pow_right (by decide) (by omega)
  simpa using this
 have h2q:0<2 ^ k:=Nat.pow_pos (by decide)
 refine aa.mk (show(0:Int)≤(k:Int)∧((k:Int)).toNat≤64∧ae .u64 (2*2 ^ ((k:Int)).toNat) from by
  rw[IJ,Int.toNat_natCast]
  exact⟨by omega,by omega,by show(0:Int)≤_;omega,by show _≤(18446744073709551615:Int);omega⟩) ?_
 refine aa.mk (show ae .u64 (2*2 ^ ((k:Int)).toNat-1) from by
  rw[IJ]
  exact⟨by show(0:Int)≤_;omega,by show _≤(18446744073709551615:Int);omega⟩) ?_
 have hu:((2:Int)*2 ^ ((k:Int)).toNat-1)=((eA (k:Int):Nat):Int):=by
  rw[IJ,eA,Int.toNat_natCast];omega
 have ae0:eA (k:Int)≤15:=by rw[eA,Int.toNat_natCast];omega
 have Be:(0:Int)≤((cD (ca (n+1) λi=>az (jh n (au get) i)) p:Nat):Int)∧(0:Int)≤(2*2 ^ ((k:Int)).toNat-1:Int)∧ae .u64 ((cD (ca (n+1) λi=>az (jh n (au get) i)) p:Nat):Int)∧ae .u64 (2*2 ^ ((k:Int)).toNat-1:Int):=by
  rw[hS,hu]
  exact⟨by omega,by omega,⟨by show(0:Int)≤_;omega,by show _≤(18446744073709551615:Int);omega⟩,by show(0:Int)≤_;omega,by show _≤(18446744073709551615:Int);omega⟩
 refine aa.mk Be ?_
 refine Br.mk (λh3=>?_) (λh3=>?_)
 ·have h3:((((cD (ca (n+1) λi=>az (jh n (au get) i)) p:Nat):Int).toNat-(((cD (ca (n+1) λi=>az (jh n (au get) i)) p:Nat):Int).toNat &&& (2*2 ^ ((k:Int)).toNat-1:Int).toNat):Nat):Int)=0:=of_decide_eq_true h3
  rw[hS,hu,Int.toNat_natCast,Int.toNat_natCast] at h3
  have h3:S-(S &&& eA (k:Int))=0:=by omega
  refine⟨.inl rfl,bU ⟨⟨rfl,?_⟩,⟨rfl,rfl⟩,trivial⟩ rfl rfl Q1⟩
  show(2:Int)=U
  rw[th,vd,if_pos h3]
 have h3:¬((((cD (ca (n+1) λi=>az (jh n (au get) i)) p:Nat):Int).toNat-(((cD (ca (n+1) λi=>az (jh n (au get) i)) p:Nat):Int).toNat &&& (2*2 ^ ((k:Int)).toNat-1:Int).toNat):Nat):Int)=0:=of_decide_eq_false h3
 rw[hS,hu,Int.toNat_natCast,Int.toNat_natCast] at h3
 have h3:¬S-(S &&& eA (k:Int))=0:=by omega
 refine aa.mk Be ?_
 refine Br.mk (λh4=>?_) (λh4=>?_)
 ·have h4:((((cD (ca (n+1) λi=>az (jh n (au get) i)) p:Nat):Int).toNat &&& (2*2 ^ ((k:Int)).toNat-1:Int).toNat:Nat):Int)=0:=of_decide_eq_true h4
  rw[hS,hu,Int.toNat_natCast,Int.toNat_natCast] at h4
  have h4:S &&& eA (k:Int)=0:=by omega
  refine⟨.inl rfl,bU ⟨⟨rfl,?_⟩,⟨rfl,rfl⟩,trivial⟩ rfl rfl Q1⟩
  show(0:Int)=U
  rw[th,vd,if_neg h3,if_pos h4]
 ·have h4:¬((((cD (ca (n+1) λi=>az (jh n (au get) i)) p:Nat):Int).toNat &&& (2*2 ^ ((k:Int)).toNat-1:Int).toNat:Nat):Int)=0:=of_decide_eq_false h4
  rw[hS,hu,Int.toNat_natCast,Int.toNat_natCast] at h4
  have h4:¬S &&& eA (k:Int)=0:=by omega
  refine⟨.inl rfl,bU ⟨⟨rfl,?_⟩,⟨rfl,rfl⟩,trivial⟩ rfl rfl Q1⟩
  show(1:Int)=U
  rw[th,vd,if_neg h3,if_neg h4]
theorem ON {l:List (Nat × Ct)}(g:Good P T l):Good P T ((16,nQ)::l):=g.add (Fo g) DI (aw Tryz.func16 (c:=code Tryz.f16) rfl (by decide))
section
variable (g:aB)
def q_ (a0 a1 a2 a3:Int):List B5:=((cx g.l4 g.h4).filter λk=>gR g.st a0 a1 a2 a3 k 4).map λk=>(a0,a1,a2,a3,k)
def sw (a0 a1 a2:Int):List B5:=((cx g.l3 g.h3).filter λk=>ik g.st a0 a1 a2 k 3).flatMap λk=>q_ g a0 a1 a2 k
def sr (a0 a1:Int):List B5:=((cx g.l2 g.h2).filter λk=>iE g.st a0 a1 k 2).flatMap λk=>sw g a0 a1 k
def sq (a0:Int):List B5:=((cx g.l1 g.h1).filter λk=>jQ g.st a0 k 1).flatMap λk=>sr g a0 k
def bO:List B5:=((cx g.l0 g.h0).filter λk=>l7 g.st k 0).flatMap λk=>sq g k
end
structure fR (g:aB) (b:B5):Prop where
 r0:g.l0≤b.1∧b.1≤g.h0
 r1:g.l1≤b.2.1∧b.2.1≤g.h1
 r2:g.l2≤b.2.2.1∧b.2.2.1≤g.h2
 r3:g.l3≤b.2.2.2.1∧b.2.2.2.1≤g.h3
 r4:g.l4≤b.2.2.2.2∧b.2.2.2.2≤g.h4
 tE:b.1-b.2.1≤g.st∧b.2.1-b.1≤g.st
 tF:b.1-b.2.2.1≤g.st∧b.2.2.1-b.1≤g.st
 tG:b.1-b.2.2.2.1≤g.st∧b.2.2.2.1-b.1≤g.st
 tI:b.1-b.2.2.2.2≤g.st∧b.2.2.2.2-b.1≤g.st
 qM:b.2.1-b.2.2.1≤g.st∧b.2.2.1-b.2.1≤g.st
 tK:b.2.2.1-b.2.2.2.1≤g.st∧b.2.2.2.1-b.2.2.1≤g.st
 tL:b.2.2.2.1-b.2.2.2.2≤g.st∧b.2.2.2.2-b.2.2.2.1≤g.st
 tJ:b.2.1-b.2.2.2.2≤g.st∧b.2.2.2.2-b.2.1≤g.st
theorem fR.ok {g:aB}{b:B5}(hg:eo g)(h:fR g b):aD b.1∧aD b.2.1∧aD b.2.2.1∧aD b.2.2.2.1∧aD b.2.2.2.2:=by
 unfold eo at hg
 have:=h.r0;have:=h.r1;have:=h.r2;have:=h.r3;have:=h.r4
 unfold aD
 omega
structure GW (F:B5→Int) (B:B5→Prop) (s:Int × Int):Prop where
 all:∀b,B b→s.1≤F b∧F b≤s.2
 lo:∃b,B b∧F b=s.1
 hi:∃b,B b∧F b=s.2
theorem GW.congr {F:B5→Int}{B B':B5→Prop}{s:Int × Int}(h:GW F B s)(e:∀b,B b↔B' b):GW F B' s :=
 ⟨λb hb=>h.all b ((e b).2 hb),h.lo.imp λb hb=>⟨(e b).1 hb.1,hb.2⟩,h.hi.imp λb hb=>⟨(e b).1 hb.1,hb.2⟩⟩
def p_ (a b:Int):Int:=max (a-b) (b-a)
def Hx:Ct:=bd fun
 |[.si .i64 a,.si .i64 b]=>some ⟨some (ae .i64 (a-b)∧ae .i64 (b-a)),none,.si .i64 (p_ a b),[]⟩
 |_=>none
theorem k93 {l:List (Nat × Ct)}(g:Good P T l):aP P 100 Hx:=by
 refine bq (C:=aC _) g.ok Tryz.func100 (c:=code Tryz.f100) rfl λfr args H out h hp=>?_
 simp only[Hx,bd] at h
 split at h
 ·rename_i a b
  cases h
  obtain⟨h1,h2⟩:ae .i64 (a-b)∧ae .i64 (b-a):=hp
  refine dt rfl (Nat.le_of_ble_eq_true rfl) λG hG=>?_
  exact aa.mk h1 (aa.mk h2 ⟨.inl rfl,cz ⟨rfl,rfl⟩ rfl rfl⟩)
 ·cases h
theorem OV {l:List (Nat × Ct)}(g:Good P T l):Good P T ((100,Hx)::l):=g.add (k93 g) (cZ _) (aw Tryz.func100 (c:=code Tryz.f100) rfl (by decide))
def pL (a b:Int):Bool:=!decide (a=b)&&(decide (a=0)||decide (b=0)||decide ((a-b+4).tmod 4=1)||decide ((b-a+4).tmod 4=1))
def Hg:Ct:=bd fun
 |[.si .i64 a,.si .i64 b]=>some ⟨some ((0≤a∧a≤4)∧0≤b∧b≤4),none,.sb (pL a b),[]⟩
 |_=>none
theorem aas {l:List (Nat × Ct)}(g:Good P T l):aP P 99 Hg:=by
 refine bq (C:=aC _) g.ok Tryz.func99 (c:=code Tryz.f99) rfl λfr args H out h hp=>?_
 simp only[Hg,bd] at h
 split at h
 ·rename_i a b
  cases h
  obtain⟨⟨h1,h2⟩,h3,h4⟩:(0≤a∧a≤4)∧0≤b∧b≤4:=hp
  refine dt rfl (Nat.le_of_ble_eq_true rfl) λG hG=>?_
  refine Br.mk (λh=>?_) (λh=>?_)
  ·have h:decide (a=b)=true:=h
   exact⟨.inl rfl,cz (by rw[pL,h];rfl) rfl rfl⟩
  ·have h:decide (a=b)=false:=h
   refine aa.mk (bZ (show ae .i64 (a-b) from⟨by omega,by omega⟩)) (aa.mk (bZ (show ae .i64 (a-b+4) from⟨by omega,by omega⟩)) (aa.mk (bZ (show(4:Int)≠0 from by decide)) ?_))
   refine aa.mk (bZ (show ae .i64 (b-a) from⟨by omega,by omega⟩)) (aa.mk (bZ (show ae .i64 (b-a+4) from⟨by omega,by omega⟩)) (aa.mk (bZ (show(4:Int)≠0 from by decide)) ?_))
   refine⟨.inl rfl,cz ?_ rfl rfl⟩
   rw[pL,h,Bool.not_false,Bool.true_and]
   rfl
 ·cases h
theorem W9 {l:List (Nat × Ct)}(g:Good P T l):Good P T ((99,Hg)::l):=g.add (aas g) (cZ _) (aw Tryz.func99 (c:=code Tryz.f99) rfl (by decide))
def bc (get:Nat→List SV)(i:Nat):Int:=match get i with
 |[.si .i64 z]=>z
 |_=>0
def iC (z:Int):List SV:=[.si .i64 z]
def jq (n:Nat)(get:Nat→List SV):Prop:=∀i,i<n→get i=iC (bc get i)∧sm (bc get i)
theorem Ff {H:LH}{id n:Nat}{get:Nat→List SV}(h:cn 1 H id=some (n,get))(hi:jq n get):Hand H [(id,.ro 1 n λi=>iC (bc get i))] :=
 kU h (λi=>rfl) (λi dD=>(hi i dD).1.symm)
def w8 (args:List SV)(H:LH)(K:(n:Nat)→(Nat→List SV)→Option cJ):Option cJ:=match args with
 |[.sl i]=>(match cn 1 H i with
  |some (n,get)=>K n get
  |none=>none)
 |_=>none
theorem KN {args:List SV}{H:LH}{K:(n:Nat)→(Nat→List SV)→Option cJ}{out:cJ}(h:w8 args H K=some out):∃i n get,args=[.sl i]∧cn 1 H i=some (n,get)∧K n get=some out:=by
 unfold w8 at h
 split at h
 ·split at h
  ·rename_i e;exact⟨_,_,_,rfl,e,h⟩
  ·cases h
 ·cases h
theorem RO {H H':LH}{args:List SV}{K:(n:Nat)→(Nat→List SV)→Option cJ}{out:cJ}(hH:∀id hb,H id=some hb→H' id=some hb)(h:w8 args H K=some out):w8 args H' K=some out:=by
 obtain⟨i,n,get,rfl,e,h⟩:=KN h
 simp only[w8,fk hH e]
 exact h
def iD (f:Nat→Int)(n:Nat)(st:Int):Bool:=(List.range n).all λi=>!(pL i n&&decide (p_ (f i) (f n)>st))
def qc:Ct:=λfr args H=>match args with
 |[.sl i,.si .i64 st]=>(match cn 1 H i with
  |some (n,get)=>some ⟨some (jq n get∧1≤n∧n≤5),none,.sb (iD (bc get) (n-1) st),[]⟩
  |none=>none)
 |_=>none
theorem He:cY qc:=by
 intro fr args H H' out hH h
 unfold qc at h ⊢
 split at h
 ·split at h
  ·rename_i e
   simp only[fk hH e]
   exact h
  ·cases h
 ·cases h
theorem T2 {p:Nat→Bool}{n i:Nat}(hi:i<n)(h:p i=false):(List.range n).all p=false:=by
 cases e:(List.range n).all p with
 |false=>rfl
 |true=>rw[List.all_eq_true] at e;rw[e i (List.mem_range.2 hi)] at h;cases h
theorem Fk {l:List (Nat × Ct)}(g0:Good P T l):aP P 64 qc:=by
 have g:=OV (W9 ah)
 refine bq (C:=aC _) g.ok Tryz.func64 (c:=code Tryz.f64) rfl λfr args H out h hp=>?_
 unfold qc at h
 split at h
 case h_2=>cases h
 rename_i id st
 split at h
 case h_2=>cases h
 rename_i n get e1
 cases h
 obtain⟨hs,Y2,hn5⟩:jq n get∧1≤n∧n≤5:=hp
 have oq:∀i,i<n→sm (bc get i):=λi hi=>(hs i hi).2
 refine⟨[(id,.ro 1 n λi=>iC (bc get i))],[.sl 0,.si .i64 st],[(0,.ro 1 n λi=>iC (bc get i))],1,[],rfl,rfl,Nat.le_of_ble_eq_true rfl,Ff e1 hs,rfl,rfl,λG hG=>?_⟩
 clear hs
 generalize bc get=f at oq ⊢
 refine aa.mk (show ae .i64 ((n:Int)-1) from⟨by omega,by omega⟩) ?_
 refine cm (g.ok _ _ _) 1 (λx:{i:Nat // i≤n-1∧∀j,j<i→(!(pL j (n-1:Nat)&&decide (p_ (f j) (f (n-1))>st)))=true}=>⟨[(0,⟨[],.sl 0⟩),(1,⟨[],.si .i64 st⟩),(5,⟨[],.si .i64 (n-1:Nat)⟩),(6,⟨[],.si .i64 x.1⟩)],[],[(0,.ro 1 n λi=>iC (f i))],1,[]⟩) (λx=>n-1-x.1) hG
  ⟨0,Nat.zero_le _,λj hj=>absurd hj (Nat.not_lt_zero _)⟩ (λj=>j) ?_ ?_
 ·refine⟨?_,?_,rfl,rfl,rfl,rfl,trivial⟩<;>repeat' (first|exact trivial|exact rfl|(intro i hi;exact⟨rfl,rfl⟩)|refine And.intro ?_ ?_)
  show(n:Int)-1=((n-1:Nat):Int)
  omega
 rintro⟨i,hi,cq⟩
 refine Br.mk (λh=>?_) (λh=>?_)
 ·have h:(i:Int)<((n-1:Nat):Int):=of_decide_eq_true h
  have s1:=oq i (by omega)
  have s2:=oq (n-1) (by omega)
  unfold sm at s1 s2
  refine cU (g.ok _ _ _) bP [0,0,3,7,15,15,63,127,15,15,783,1807,4095,15,16383,32767] [] 16 (by kernel_rfl) ?_
  refine aa.mk (show(0≤(i:Int)∧(i:Int)≤4)∧0≤((n-1:Nat):Int)∧((n-1:Nat):Int)≤4 from⟨⟨by omega,by omega⟩,by omega,by omega⟩) ?_
  refine aa.mk (bZ (show 0≤(i:Int)∧(i:Int)<(n:Int) from⟨by omega,by omega⟩)) (aa.mk (bZ (show 0≤((n-1:Nat):Int)∧((n-1:Nat):Int)<(n:Int) from⟨by omega,by omega⟩)) ?_)
  have e1:((i:Int)).toNat=i:=Int.toNat_natCast i
  have e2:(((n-1:Nat):Int)).toNat=n-1:=Int.toNat_natCast _
  refine aa.mk (bZ (show ae .i64 (f i-f (n-1))∧ae .i64 (f (n-1)-f i) from⟨⟨by omega,by omega⟩,by omega,by omega⟩)) ?_
  refine Br.mk (λh2=>?_) (λh2=>?_)
  ·have h2:(pL i (n-1:Nat)&&decide (p_ (f i) (f (n-1))>st))=true:=h2
   refine⟨.inl rfl,bU ?_ rfl rfl Q1⟩
   show false=iD f (n-1) st
   exact(T2 (i:=i) (by omega) (by rw[h2];rfl)).symm
  ·have h2:(pL i (n-1:Nat)&&decide (p_ (f i) (f (n-1))>st))=false:=h2
   refine aa.mk (show ae .i64 ((i:Int)+1) from⟨by omega,by omega⟩) ⟨⟨i+1,by omega,λj hj=>?_⟩,(λj=>j),?_,by show n-1-(i+1)<n-1-i;omega⟩
   ·by_cases kZ:j=i
    ·subst kZ;rw[h2];rfl
    ·exact cq j (by omega)
   ·refine⟨?_,?_,rfl,rfl,rfl,rfl,trivial⟩<;>exact Q1
 ·have h:¬(i:Int)<((n-1:Nat):Int):=of_decide_eq_false h
  refine⟨.inl rfl,bU ?_ rfl rfl Q1⟩
  show true=iD f (n-1) st
  refine(List.all_eq_true.2 λj hj=>?_).symm
  have:=List.mem_range.1 hj
  exact cq j (by omega)
theorem sO {l:List (Nat × Ct)}(g:Good P T l):Good P T ((64,qc)::l):=g.add (Fk g) He (aw Tryz.func64 (c:=code Tryz.f64) rfl (by decide))
def kC (f:Nat→Int):Nat→Int
 |0=>0
 |n+1=>max (kC f n) (p_ (f n) 0)
def M4:Ct:=λfr args H=>w8 args H λn get=>some ⟨some (jq n get∧n≤1000),none,.si .i64 (kC (bc get) n),[]⟩
theorem k59 {l:List (Nat × Ct)}(g0:Good P T l):aP P 90 M4:=by
 have g:=OV ah
 refine bq (C:=aC _) g.ok Tryz.func90 (c:=code Tryz.f90) rfl λfr args H out h hp=>?_
 obtain⟨id,n,get,rfl,e1,h⟩:=KN h
 cases h
 obtain⟨hs,hn⟩:jq n get∧n≤1000:=hp
 have oq:∀i,i<n→sm (bc get i):=λi hi=>(hs i hi).2
 refine⟨[(id,.ro 1 n λi=>iC (bc get i))],[.sl 0],[(0,.ro 1 n λi=>iC (bc get i))],1,[],rfl,rfl,Nat.le_of_ble_eq_true rfl,Ff e1 hs,rfl,rfl,λG hG=>?_⟩
 clear hs
 generalize bc get=f at oq ⊢
 refine cm (g.ok _ _ _) 1 (λx:{i:Nat // i≤n}=>⟨[(0,⟨[],.sl 0⟩),(3,⟨[],.si .i64 (kC f x.1)⟩),(4,⟨[],.si .i64 x.1⟩)],[],[(0,.ro 1 n λi=>iC (f i))],1,[]⟩) (λx=>n-x.1) hG ⟨0,Nat.zero_le _⟩ (λj=>j) ?_ ?_
 ·refine⟨?_,?_,rfl,rfl,rfl,rfl,trivial⟩<;>exact Q1
 rintro⟨i,hi⟩
 refine Br.mk (λh=>?_) (λh=>?_)
 ·have h:(i:Int)<(n:Int):=of_decide_eq_true h
  have s1:=oq i (by omega)
  unfold sm at s1
  refine aa.mk (show 0≤(i:Int)∧(i:Int)<(n:Int) from⟨by omega,by omega⟩) ?_
  refine aa.mk (show ae .i64 (f i-0)∧ae .i64 (0-f i) from⟨⟨by omega,by omega⟩,by omega,by omega⟩) ?_
  refine aa.mk (show ae .i64 ((i:Int)+1) from⟨by omega,by omega⟩) ⟨⟨i+1,by omega⟩,(λj=>j),?_,by show n-(i+1)<n-i;omega⟩
  refine⟨?_,?_,rfl,rfl,rfl,rfl,trivial⟩<;>exact Q1
 ·have h:¬(i:Int)<(n:Int):=of_decide_eq_false h
  obtain rfl:i=n:=by omega
  exact⟨.inl rfl,bU ⟨rfl,rfl⟩ rfl rfl Q1⟩
theorem Xw {l:List (Nat × Ct)}(g:Good P T l):Good P T ((90,M4)::l):=g.add (k59 g) (λfr args H H' out hH h=>RO hH h) (aw Tryz.func90 (c:=code Tryz.f90) rfl (by decide))
def qQ (f:Nat→Int)(o x:Int):Nat→Int
 |0=>o
 |k+1=>max (qQ f o x k) (x-f k)
def ld (f:Nat→Int)(n:Nat):Nat→Int
 |0=>0
 |i+1=>qQ f (ld f n i) (f i) n
def M3:Ct:=λfr args H=>w8 args H λn get=>some ⟨some (jq n get∧n≤1000),none,.si .i64 (ld (bc get) n n),[]⟩
theorem k56 {l:List (Nat × Ct)}(g0:Good P T l):aP P 91 M3:=by
 have g:=ah
 refine bq (C:=aC _) g.ok Tryz.func91 (c:=code Tryz.f91) rfl λfr args H out h hp=>?_
 obtain⟨id,n,get,rfl,e1,h⟩:=KN h
 cases h
 obtain⟨hs,hn⟩:jq n get∧n≤1000:=hp
 have oq:∀i,i<n→sm (bc get i):=λi hi=>(hs i hi).2
 refine⟨[(id,.ro 1 n λi=>iC (bc get i))],[.sl 0],[(0,.ro 1 n λi=>iC (bc get i))],1,[],rfl,rfl,Nat.le_of_ble_eq_true rfl,Ff e1 hs,rfl,rfl,λG hG=>?_⟩
 clear hs
 generalize bc get=f at oq ⊢
 refine cm (g.ok _ _ _) 1 (λx:{i:Nat // i≤n}=>⟨[(0,⟨[],.sl 0⟩),(3,⟨[],.si .i64 (ld f n x.1)⟩),(4,⟨[],.si .i64 x.1⟩)],[],[(0,.ro 1 n λi=>iC (f i))],1,[]⟩) (λx=>n-x.1) hG ⟨0,Nat.zero_le _⟩ (λj=>j) ?_ ?_
 ·refine⟨?_,?_,rfl,rfl,rfl,rfl,trivial⟩<;>exact Q1
 rintro⟨i,hi⟩
 refine Br.mk (λh=>?_) (λh=>?_)
 ·have h:(i:Int)<(n:Int):=of_decide_eq_true h
  have s1:=oq i (by omega)
  unfold sm at s1
  refine cm (g.ok _ _ _) 1 (λx:{k:Nat // k≤n}=>⟨[(0,⟨[],.sl 0⟩),(3,⟨[],.si .i64 (qQ f (ld f n i) (f i) x.1)⟩),(4,⟨[],.si .i64 i⟩),(5,⟨[],.si .i64 x.1⟩)],[],[(0,.ro 1 n λi=>iC (f i))],1,[]⟩) (λx=>n-x.1) hG ⟨0,Nat.zero_le _⟩ (λj=>j) ?_ ?_
  ·refine⟨?_,?_,rfl,rfl,rfl,rfl,trivial⟩<;>exact Q1
  rintro⟨k,hk⟩
  refine Br.mk (λh2=>?_) (λh2=>?_)
  ·have h2:(k:Int)<(n:Int):=of_decide_eq_true h2
   have s2:=oq k (by omega)
   unfold sm at s2
   refine cU (g.ok _ _ _) bP [0,0,0,6,14,0,0,96,224,510,1023,2047] [] 12 (by kernel_rfl) ?_
   refine aa.mk (show 0≤(i:Int)∧(i:Int)<(n:Int) from⟨by omega,by omega⟩) (aa.mk (show 0≤(k:Int)∧(k:Int)<(n:Int) from⟨by omega,by omega⟩) ?_)
   refine aa.mk (show ae .i64 (f i-f k) from⟨by omega,by omega⟩) ?_
   refine aa.mk (show ae .i64 ((k:Int)+1) from⟨by omega,by omega⟩) ⟨⟨k+1,by omega⟩,(λj=>j),?_,by show n-(k+1)<n-k;omega⟩
   refine⟨?_,?_,rfl,rfl,rfl,rfl,trivial⟩<;>exact Q1
  ·have h2:¬(k:Int)<(n:Int):=of_decide_eq_false h2
   obtain rfl:k=n:=by omega
   refine aa.mk (show ae .i64 ((i:Int)+1) from⟨by omega,by omega⟩) ⟨⟨i+1,by omega⟩,(λj=>j),?_,by show k-(i+1)<k-i;omega⟩
   refine⟨?_,?_,rfl,rfl,rfl,rfl,trivial⟩<;>exact Q1
 ·have h:¬(i:Int)<(n:Int):=of_decide_eq_false h
  obtain rfl:i=n:=by omega
  exact⟨.inl rfl,bU ⟨rfl,rfl⟩ rfl rfl Q1⟩
theorem Xu {l:List (Nat × Ct)}(g:Good P T l):Good P T ((91,M3)::l):=g.add (k56 g) (λfr args H H' out hH h=>RO hH h) (aw Tryz.func91 (c:=code Tryz.f91) rfl (by decide))
def Aa:Ct:=λfr args H=>match args with
 |[.agg [.si .i64 lo,.si .i64 lv],.sl i]=>(match cn 1 H i with
  |some (n,get)=>some ⟨some (jq n get∧n≤1000),none,.sb (lG (kC (bc get) n,ld (bc get) n n) (lo,lv)),[]⟩
  |none=>none)
 |_=>none
theorem Vi:cY Aa:=by
 intro fr args H H' out hH h
 unfold Aa at h ⊢
 split at h
 ·split at h
  ·rename_i e
   simp only[fk hH e]
   exact h
  ·cases h
 ·cases h
theorem B9 {l:List (Nat × Ct)}(g0:Good P T l):aP P 54 Aa:=by
 have g:=Xw (Xu ah)
 refine bq (C:=aC _) g.ok Tryz.func54 (c:=code Tryz.f54) rfl λfr args H out h hp=>?_
 unfold Aa at h
 split at h
 case h_2=>cases h
 rename_i lo lv id
 split at h
 case h_2=>cases h
 rename_i n get e1
 cases h
 obtain⟨hs,hn⟩:jq n get∧n≤1000:=hp
 refine⟨[(id,.ro 1 n λi=>iC (bc get i))],[.agg [.si .i64 lo,.si .i64 lv],.sl 0],[(0,.ro 1 n λi=>iC (bc get i))],1,[],rfl,rfl,Nat.le_of_ble_eq_true rfl,Ff e1 hs,rfl,rfl,λG hG=>?_⟩
 have hs:jq n (λi=>iC (bc get i)):=λi hi=>⟨rfl,(hs i hi).2⟩
 have hf:bc (λi=>iC (bc get i))=bc get:=rfl
 refine cU (g.ok _ _ _) bP [0,1,0,4,15,31,63,127,63,319,1023,2047,4095] [] 13 (by kernel_rfl) ?_
 refine aa.mk ⟨hs,hn⟩ (aa.mk (bZ ⟨hs,hn⟩) ?_)
 exact⟨.inl rfl,bU rfl rfl rfl Q1⟩
theorem v8 {l:List (Nat × Ct)}(g:Good P T l):Good P T ((54,Aa)::l):=g.add (B9 g) Vi (aw Tryz.func54 (c:=code Tryz.f54) rfl (by decide))
def nR:Ct:=λfr args H=>match args with
 |[.agg l,.sl i]=>(match cn 1 H i with
  |some (m,aH)=>pa H l λi1 g n get=>some ⟨some ((bQ n get∧n≤1000000)∧jq m aH∧m≤1000),none,.si .i64 (cC (ca n get) (kC (bc aH) m,ld (bc aH) m m):Nat),[]⟩
  |none=>none)
 |_=>none
theorem DL:cY nR:=by
 intro fr args H H' out hH h
 unfold nR at h ⊢
 split at h
 ·split at h
  ·rename_i e
   simp only[fk hH e]
   exact wc hH h
  ·cases h
 ·cases h
theorem Fp {l:List (Nat × Ct)}(g0:Good P T l):aP P 17 nR:=by
 have g:=v8 ah
 refine bq (C:=aC _) g.ok Tryz.func17 (c:=code Tryz.f17) rfl λfr args H out h hp=>?_
 unfold nR at h
 split at h
 case h_2=>cases h
 rename_i l id
 split at h
 case h_2=>cases h
 rename_i m aH e2
 obtain⟨i1,p,n,get,rfl,e1,h⟩:=we h
 cases h
 obtain⟨⟨hs,hn⟩,ew,hm⟩:(bQ n get∧n≤1000000)∧jq m aH∧m≤1000:=hp
 have hh:Hand H [(i1,.ro 2 n λi=>az (au get i)),(id,.ro 1 m λi=>iC (bc aH i))]:=uq ⟨gK e1 (λi hi=>(hs i hi).symm),gK e2 (λi hi=>(ew i hi).1.symm),trivial⟩ (by repeat' (first|exact trivial|(intro i hi;exact⟨trivial,trivial,trivial⟩)|(intro i hi;exact⟨trivial,trivial⟩)|refine And.intro ?_ ?_)) rfl
 refine⟨[(i1,.ro 2 n λi=>az (au get i)),(id,.ro 1 m λi=>iC (bc aH i))],[.agg (bR 0 p),.sl 1],[(0,.ro 2 n λi=>az (au get i)),(1,.ro 1 m λi=>iC (bc aH i))],2,[],rfl,rfl,Nat.le_of_ble_eq_true rfl,hh,rfl,rfl,λG hG=>?_⟩
 have ew:jq m (λi=>iC (bc aH i)):=λi hi=>⟨rfl,(ew i hi).2⟩
 unfold ca
 generalize au get=L
 generalize hf:bc aH=f at ew ⊢
 obtain⟨F,hF⟩:∃F,(kC f m,ld f m m)=F:=⟨_,rfl⟩
 obtain⟨x,ot⟩:∃x,cC ((List.range n).map L) F=x:=⟨_,rfl⟩
 have P9:x≤n:=by
  rw[←ot]
  have:=List.findIdx_le_length (p:=λl=>lG F l) (xs:=(List.range n).map L)
  simpa [cC] using this
 have aG:∀i,i<x→lG F (L i)=false:=λi hi=>by
  have h:=List.not_of_lt_findIdx (p:=λl=>lG F l) (xs:=(List.range n).map L) (i:=i) (by rw[←ot] at hi;exact hi)
  simpa using h
 have jv:x<n→lG F (L x)=true:=λhx=>by
  have h:=List.findIdx_getElem (p:=λl=>lG F l) (xs:=(List.range n).map L) (w:=by
   have:=hx
   rw[←ot] at this
   unfold cC at this
   simpa using this)
  have e:List.findIdx (λl=>lG F l) ((List.range n).map L)=x:=ot
  simp only[e] at h
  simpa using h
 rw[hF,ot]
 refine cm (g.ok _ _ _) 2 (λz:{i:Nat // i≤x}=>⟨[(1,⟨[],.sl 1⟩),(2,⟨[],.sp 2 0⟩),(5,⟨[],.si .i64 z.1⟩)],[],[(2,.cells 40 (bR 0 p)),(0,.ro 2 n λi=>az (L i)),(1,.ro 1 m λi=>iC (f i))],3,[]⟩) (λz=>n-z.1) hG ⟨0,Nat.zero_le _⟩ (λj=>j) ?_ ?_
 ·refine⟨?_,?_,rfl,rfl,rfl,rfl,trivial⟩<;>exact Q1
 rintro⟨i,hi⟩
 refine Br.mk (λh=>?_) (λh=>?_)
 ·have h:(i:Int)<(n:Int):=of_decide_eq_true h
  refine aa.mk (show(0:Int)≤(i:Int)∧(i:Int)<(n:Int) from⟨by omega,by omega⟩) ?_
  refine aa.mk ⟨ew,hm⟩ ?_
  refine Br.mk (λh2=>?_) (λh2=>?_)
  ·have h2:lG (kC f m,ld f m m) (L i)=true:=h2
   rw[hF] at h2
   have dL:i=x:=by
    rcases Nat.lt_or_ge i x with hl|hl
    ·rw[aG i hl] at h2;cases h2
    ·omega
   subst dL
   exact⟨.inl rfl,bU ⟨rfl,rfl⟩ rfl rfl Q1⟩
  ·have h2:lG (kC f m,ld f m m) (L i)=false:=h2
   rw[hF] at h2
   have dL:i≠x:=λe=>by
    have h3:=jv (by omega)
    rw[←e,h2] at h3;cases h3
   refine aa.mk (show ae .i64 ((i:Int)+1) from⟨by omega,by omega⟩) ⟨⟨i+1,by omega⟩,(λj=>j),?_,by show n-(i+1)<n-i;omega⟩
   refine⟨?_,?_,rfl,rfl,rfl,rfl,trivial⟩<;>exact Q1
 ·have h:¬(i:Int)<(n:Int):=of_decide_eq_false h
  have dL:x=n:=by omega
  refine⟨.inl rfl,bU ?_ rfl rfl Q1⟩
  rw[dL]
  exact⟨rfl,rfl⟩
theorem OR {l:List (Nat × Ct)}(g:Good P T l):Good P T ((17,nR)::l):=g.add (Fp g) DL (aw Tryz.func17 (c:=code Tryz.f17) rfl (by decide))
end Go.X.Gr
namespace Go.X
open Go
def x8 (H':List (Nat × HB)):List (Nat × HB)→Bool
 |[]=>true
 |(t,_)::r=>match ab H' t with
  |some _=>x8 H' r
  |none=>false
theorem Ny {H':List (Nat × HB)}:∀{A:List (Nat × HB)},x8 H' A=true→∀t x,ab A t=some x→∃y,ab H' t=some y
 |(a,y)::r,h,t,x,hf=>by
  simp only[x8] at h
  split at h
  ·rename_i z hz
   by_cases e:a=t
   ·subst e;exact⟨z,hz⟩
   ·rw[o6 e] at hf
    exact Ny h t x hf
  ·cases h
def xd (A:List (Nat × HB)):List (Nat × HB)→Prop
 |[]=>True
 |(t,.ro s n g)::r=>(match ab A t with
  |some (.ro _ m _)=>n=m
  |_=>False)∧xd A r
 |_::r=>xd A r
theorem Sd {A:List (Nat × HB)}:∀{H':List (Nat × HB)},xd A H'→∀t s n g,ab H' t=some (.ro s n g)→∃s' g',ab A t=some (.ro s' n g')
 |(a,y)::r,h,t,s,n,g,hf=>by
  by_cases e:a=t
  ·subst e
   rw[ba,cP] at hf
   cases hf
   simp only[xd] at h
   obtain⟨h,_⟩:=h
   split at h
   ·rename_i s2 m g2 hz
    subst h
    exact⟨_,_,hz⟩
   ·exact h.elim
  ·rw[o6 e] at hf
   refine Sd (H':=r) ?_ t s n g hf
   cases y with
   |ro s2 n2 g2=>exact h.2
   |_=>exact h
theorem kF {X:Cx}{c:Code}{K:Ex→St→Prop}{st af:St}(n0:Nat)(s:Nat→Nat)(hn:∀j,n0≤j→X.G.ρ j=none)(hw:tU n0 s st af)(h:aX X c af K):aX X c st K :=
 fun ρ a w hm=>h _ a w (hm.oz hw hn)
mutual
def n8 (id:Nat)(v:Value):SV→SV
 |.sl j=>match Nat.beq j id with
  |true=>.sv v
  |false=>.sl j
 |.agg l=>.agg (o8 id v l)
 |.bn l=>.bn (o8 id v l)
 |.cg t x=>.cg t (n8 id v x)
 |.fn f a b=>.fn f (o8 id v a) (o8 id v b)
 |x=>x
def o8 (id:Nat)(v:Value):List SV→List SV
 |[]=>[]
 |x::r=>n8 id v x::o8 id v r
end
section
variable {ρ:Env}{id:Nat}{v:Value}
mutual
theorem Aq (hv:v.oneCell'=true)(h:den ρ (.sl id)=some v):∀(x:SV),den ρ (n8 id v x)=den ρ x
 |.sl j=>by
  simp only[n8]
  split
  ·rename_i e
   have:j=id:=by simpa using e
   subst this
   rw[h];simp[den,hv]
  ·rfl
 |.agg l=>by simp only[n8,den,rh hv h l]
 |.bn l=>by simp only[n8,den,rh hv h l]
 |.cg t x=>by simp only[n8,den,Aq hv h x]
 |.fn f a b=>by simp only[n8,den,rh hv h a,rh hv h b]
 |.sv _=>rfl
 |.si _ _=>rfl
 |.sb _=>rfl
 |.sp _ _=>rfl
 |.se _ _ _=>rfl
 |.sm _=>rfl
 |.fy _=>rfl
 |.ss _ _ _ _=>rfl
theorem rh (hv:v.oneCell'=true)(h:den ρ (.sl id)=some v):∀(l:List SV),ai ρ (o8 id v l)=ai ρ l
 |[]=>rfl
 |x::r=>by simp only[o8,ai,Aq hv h x,rh hv h r]
end
end
def D6 (id:Nat)(v:Value)(F0:List (Nat × FE)):List Nat→List (Nat × FE)→(List (Nat × FE)→Prop)→Prop
 |[],F,K=>K F
 |d::r,F,K=>match findF F0 d with
  |some ⟨[],u⟩=>fX (n8 id v u) λu'=>D6 id v F0 r ((d,⟨[],u'⟩)::F) K
  |_=>False
def yg (id:Nat)(v:Value)(H0:List (Nat × HB)):List Nat→List (Nat × HB)→(List (Nat × HB)→Prop)→Prop
 |[],H,K=>K H
 |d::r,H,K=>match ab H0 d with
  |some (.cells T cs)=>eT (o8 id v cs) λl=>yg id v H0 r ((d,.cells T l)::H) K
  |some (.row T s n xs)=>eT (o8 id v xs) λl=>yg id v H0 r ((d,.row T s n l)::H) K
  |_=>False
section
variable {X:Cx}{ρ:Env}{st:St}{a:Act}{w:World}
theorem Mod.K4 (hm:Mod X ρ st a w){d:Nat}{u u':SV}(hf:findF st.F d=some ⟨[],u⟩)(he:den ρ u'=den ρ u):Mod X ρ { st with F:=(d,⟨[],u'⟩)::st.F } a w where
 fm t e fu:=by
  have fu:findF ((d,⟨[],u'⟩)::st.F) t=some e:=fu
  by_cases e1:d=t
  ·subst e1
   rw[je] at fu;cases fu
   have:=hm.fm _ _ hf
   exact⟨λhs=>by rw[he];exact this.1 hs,this.2⟩
  ·rw[iB _ _ e1] at fu
   exact hm.fm t e fu
 gs t e fu x hx:=by
  have fu:findF ((d,⟨[],u'⟩)::st.F) t=some e:=fu
  by_cases e1:d=t
  ·subst e1
   rw[je] at fu;cases fu
   cases hx
  ·rw[iB _ _ e1] at fu
   exact hm.gs t e fu x hx
 df:=hm.df
 hm:=hm.hm
 kp:=hm.kp
 nx:=hm.nx
 sz:=hm.sz
end
theorem N2 {X:Cx}{ρ:Env}{a:Act}{w:World}{id:Nat}{v:Value}(hv:v.oneCell'=true)(hd:den ρ (.sl id)=some v){F0:List (Nat × FE)}:∀(ds:List Nat) {st:St} {K:List (Nat × FE)→Prop},
  (∀t u,findF F0 t=some ⟨[],u⟩→∃u',findF st.F t=some ⟨[],u'⟩∧den ρ u'=den ρ u)→Mod X ρ st a w→D6 id v F0 ds st.F K→∃F',Mod X ρ { st with F:=F' } a w∧K F'
 |[],st,K,h0,hm,h=>⟨st.F,hm,h⟩
 |d::r,st,K,h0,hm,h=>by
  simp only[D6] at h
  split at h
  ·rename_i u e
   rw[mP] at h
   obtain⟨u',h1,h2⟩:=h0 d u e
   have an:=hm.K4 (u':=n8 id v u) h1 (by rw[Aq hv hd,h2])
   obtain⟨F',h3,h4⟩:=N2 hv hd r (st:={ st with F:=(d,⟨[],n8 id v u⟩)::st.F }) (λt x hx=>by
    by_cases e1:d=t
    ·subst e1
     rw[e] at hx;cases hx
     exact⟨_,je _ _ _,Aq hv hd _⟩
    ·show ∃u',findF ((d,⟨[],n8 id v u⟩)::st.F) t=some ⟨[],u'⟩∧_
     rw[iB _ _ e1]
     exact h0 t x hx) an h
   exact⟨F',h3,h4⟩
  ·exact h.elim
theorem N3 {X:Cx}{ρ:Env}{a:Act}{w:World}{id:Nat}{v:Value}(hv:v.oneCell'=true)(hd:den ρ (.sl id)=some v){H0:List (Nat × HB)}:∀(ds:List Nat) {st:St} {K:List (Nat × HB)→Prop},
  (∀t x,ab H0 t=some x→ab st.H t=some x∨t ∉ ds)→ds.Nodup→Mod X ρ st a w→yg id v H0 ds st.H K→∃H',Mod X ρ { st with H:=H' } a w∧(∀t,t ∉ ds→ab H' t=ab st.H t)∧K H'
 |[],st,K,h0,_,hm,h=>⟨st.H,hm,λ_ _=>rfl,h⟩
 |d::r,st,K,h0,lA,hm,h=>by
  have Y5:d ∉ r:=(List.nodup_cons.1 lA).1
  have Y6:=(List.nodup_cons.1 lA).2
  have key:∀(x y:HB),ab H0 d=some x→x.live=true→(∀s n g,y≠.ro s n g)→(∀s C,y≠.ax s C)→(∀nm,ao ρ w x nm→ao ρ w y nm)→yg id v H0 r ((d,y)::st.H) K →
    ∃H',Mod X ρ { st with H:=H' } a w∧(∀t,t ∉ d::r→ab H' t=ab st.H t)∧K H':=by
   intro x y e hl h1 h2 h3 h4
   have hf:ab st.H d=some x:=by
    rcases h0 d x e with h|h
    ·exact h
    ·exact absurd List.mem_cons_self h
   obtain⟨nm,g1,g2⟩:=hm.hm.ok _ _ hf
   have an:=hm.swap (hb':=y) hf hl g1 (h3 nm g2) h1 h2
   obtain⟨H',k1,k2,k3⟩:=N3 hv hd r (st:={ st with H:=(d,y)::st.H }) (λt z hz=>by
    by_cases e1:d=t
    ·subst e1;exact .inr Y5
    ·show ab ((d,y)::st.H) t=some z∨_
     rw[o6 e1]
     rcases h0 t z hz with h|h
     ·exact .inl h
     ·exact .inr λhc=>h (List.mem_cons_of_mem _ hc)) Y6 an h4
   refine⟨H',k1,λt ht=>?_,k3⟩
   rw[k2 t λhc=>ht (List.mem_cons_of_mem _ hc)]
   exact o6 λe1=>ht (e1 ▸ List.mem_cons_self)
  simp only[yg] at h
  split at h
  ·rename_i T cs e
   rw[gn] at h
   refine key _ _ e rfl (by intro _ _ _ h;cases h) (by intro _ _ h;cases h) (λnm ap=>?_) h
   cases nm<;>simp only[ao] at ap ⊢
   obtain⟨vs,h1,h2⟩:=ap
   exact⟨vs,by rw[rh hv hd];exact h1,h2⟩
  ·rename_i T s n xs e
   rw[gn] at h
   refine key _ _ e rfl (by intro _ _ _ h;cases h) (by intro _ _ h;cases h) (λnm ap=>?_) h
   cases nm<;>simp only[ao] at ap ⊢
   obtain⟨h1,h2,h3,vs,rest,h4,h5⟩:=ap
   exact⟨h1,h2,h3,vs,rest,by rw[rh hv hd];exact h4,h5⟩
  ·exact h.elim
def xB (C:Value→Nat→(Nat→List SV)→Prop)(v:Value)(n:Nat)(get:Nat→List SV):Value→Nat→(Nat→List SV)→Prop :=
 λv' n' get'=>(v'=v∧n'=n∧get'=get)∨C v' n' get'
theorem HN {ρ:Env}{l:List SV}{vs:List Value}(hi:fM 0 l=true)(h:ai ρ l=some vs):ai (λ_=>none) l=some vs:=by
 have e:cut ρ 0=λ_=>none:=by funext j;unfold cut;rw[if_neg (by omega)]
 rw[←e,qh l hi];exact h
section
variable {X:Cx}{ρ:Env}{st:St}{a:Act}{w:World}
theorem Mod.freeze (hm:Mod X ρ st a w){bI de e size n:Nat}{get:Nat→List SV}{C:Value→Nat→(Nat→List SV)→Prop}(h1:ab st.H bI=some (.vec e size n get))(hn:0<n)
  (bi:∀i,i<n→fM 0 (get i)=true) (h2:ab st.H de=some (.ax size C)) :
  ∃ad c,den ρ (.sl bI)=some (.slice (some ad) n c)∧Mod X ρ { st with H:=(de,.ax size (xB C (.slice (some ad) n c) n get))::(bI,.dead)::st.H } a w:=by
 obtain⟨nm,g1,g2⟩:=hm.hm.ok _ _ h1
 obtain⟨nf,f1,f2⟩:=hm.hm.ok _ _ h2
 have aV:bI≠de:=by rintro rfl;rw[h1] at h2;cases h2
 cases nm<;>simp only[ao] at g2
 ·obtain⟨_,_,_,rfl,_⟩:=g2;omega
 rename_i nb n' c s'
 obtain⟨rfl,rfl,hle,cells,d5,d6,d7⟩:=g2
 have aG:nb<w.heap.size:=by
  rcases Nat.lt_or_ge nb w.heap.size with h|h
  ·exact h
  ·rw[Array.getElem?_eq_none h] at d5;cases d5
 have ap:vR w s' (.slice (some ⟨nb,0,none⟩) n' c) n' get:=by
  refine⟨_,c,rfl,hle.1,λ_=>⟨_,rfl,aG,λi hi=>?_⟩⟩
  obtain⟨vs,c1,c2,c3,c4⟩:=d7 i hi
  refine⟨vs,HN (bi i hi) c1,c2,c3,λj v hv=>?_⟩
  rw[lR]
  simp only[World.cell?,d5,List.getElem?_toArray]
  exact c4 j v hv
 have hk:=hm.kill h1
 have fY:¬Own ρ (ab ((bI,.dead)::st.H)) nb:=by
  intro hO
  obtain⟨i',x',ak,q0,q1,q2,q3,q4⟩:=Own.kill hO
  exact q0 (hm.hm.sep i' bI x' _ ak _ nb q1 h1 q2 rfl q3 g1 q4 rfl)
 have qp:ab ((bI,.dead)::st.H) de=some (.ax s' C):=by rw[o6 aV];exact h2
 refine⟨⟨nb,0,none⟩,c,by simp[den,g1],?_⟩
 have pu:∀b,Fz (ab ((de,.ax s' (xB C (.slice (some ⟨nb,0,none⟩) n' c) n' get))::(bI,.dead)::st.H)) b→Fz (ab ((bI,.dead)::st.H)) b∨b=nb:=by
  rintro b ⟨id,size,C',v,m,get',q1,q2,q3,q4⟩
  rw[ba] at q1
  by_cases e1:de=id
  ·subst e1
   rw[cP] at q1;cases q1
   rcases q2 with⟨rfl,rfl,rfl⟩|q2
   ·simp only[zk,Option.some.injEq] at q4
    exact .inr q4.symm
   ·exact .inl ⟨_,_,C,v,m,get',qp,q2,q3,q4⟩
  ·rw[aR _ _ e1] at q1
   exact .inl ⟨id,size,C',v,m,get',q1,q2,q3,q4⟩
 have cM:∀b,Own ρ (ab ((de,.ax s' (xB C (.slice (some ⟨nb,0,none⟩) n' c) n' get))::(bI,.dead)::st.H)) b→Own ρ (ab ((bI,.dead)::st.H)) b:=by
  rintro b ⟨j,x,ak,q1,q2,q3,q4⟩
  rw[ba] at q1
  by_cases e1:de=j
  ·subst e1
   rw[cP] at q1;cases q1
   rw[f1] at q3;cases q3
   cases nf<;>simp only[ao] at f2
   cases q4
  ·rw[aR _ _ e1] at q1
   exact⟨j,x,ak,q1,q2,q3,q4⟩
 exact{
  fm:=hm.fm
  gs:=hm.gs
  df:=hm.df
  hm:={
   ok:=λj x hj=>by
    rw[ba] at hj
    by_cases e1:de=j
    ·subst e1
     rw[cP] at hj;cases hj
     refine⟨nf,f1,?_⟩
     cases nf<;>simp only[ao] at f2 ⊢
     refine⟨f2.1,λv m get' hc=>?_⟩
     rcases hc with⟨rfl,rfl,rfl⟩|hc
     ·exact ap
     ·exact f2.2 v m get' hc
    ·rw[aR _ _ e1] at hj
     exact hk.hm.ok j x hj
   sep:=λi j x y c_ dE b q1 q2 l1 l2 r1 r2 o1 o2=>by
    have key:∀{i:Nat} {x:HB} {c_:Nm},ab ((de,.ax s' (xB C (.slice (some ⟨nb,0,none⟩) n' c) n' get))::(bI,.dead)::st.H) i=some x→ρ i=some c_→c_.owner=some b→ab ((bI,.dead)::st.H) i=some x:=by
     intro i x c_ q1 r1 o1
     rw[ba] at q1
     by_cases e1:de=i
     ·subst e1
      rw[f1] at r1;cases r1
      cases nf<;>simp only[ao] at f2
      cases o1
     ·rw[aR _ _ e1] at q1;exact q1
    exact hk.hm.sep i j x y c_ dE b (key q1 r1 o1) (key q2 r2 o2) l1 l2 r1 r2 o1 o2
   ro:=λj size m get' nm b hj cR hr hb ho=>by
    rw[ba] at hj
    by_cases e1:de=j
    ·subst e1;rw[cP] at hj;cases hj
    ·rw[aR _ _ e1] at hj
     exact hk.hm.ro j size m get' nm b hj cR hr hb (cM b ho)
   ax:=λb hz ho=>by
    rcases pu b hz with h|rfl
    ·exact hk.hm.ax b h (cM b ho)
    ·exact fY (cM _ ho) }
  kp:={
   str:=hm.kp.str
   size:=hm.kp.size
   same:=hm.kp.same
   own:=λb ho=>hk.kp.own b (cM b ho)
   ext:=hm.kp.ext
   fz:=λb hz=>by
    rcases pu b hz with h|rfl
    ·exact hk.kp.fz b h
    ·rcases hm.kp.own b ⟨bI,_,_,h1,rfl,g1,rfl⟩ with h|h
     ·exact .inl h
     ·exact .inr (.inl h) }
  nx:=hm.nx
  sz:=hm.sz }
theorem Mod.N7 (hm:Mod X ρ st a w)(size:Nat):Mod X (aq ρ st.nx (.sl none 0 0 size)) { st with H:=(st.nx,.ax size (λ_ _ _=>False))::st.H,nx:=st.nx+1 } a w:=by
 have hf:ρ st.nx=none:=hm.nx _ (Nat.le_refl _)
 have pu:∀b,Fz (ab ((st.nx,.ax size (λ_ _ _=>False))::st.H)) b→Fz (ab st.H) b:=by
  rintro b ⟨id,s2,C',v,m,get',q1,q2,q3,q4⟩
  rw[ba] at q1
  by_cases e1:st.nx=id
  ·subst e1
   rw[cP] at q1;cases q1
   exact q2.elim
  ·rw[aR _ _ e1] at q1
   exact⟨id,s2,C',v,m,get',q1,q2,q3,q4⟩
 exact{
  fm:=hm.fm.ext (Ext.aq _ hf)
  gs:=hm.gs
  df:=hm.df.ext (Ext.aq _ hf)
  hm:={
   ok:=λj hb hj=>by
    rw[ba] at hj
    by_cases e:st.nx=j
    ·subst e;rw[cP] at hj;cases hj
     exact⟨_,cj _ _ _,rfl,λ_ _ _ h=>h.elim⟩
    ·rw[aR _ _ e] at hj
     obtain⟨nm,h1,h2⟩:=hm.hm.ok j hb hj
     exact⟨nm,by rw[bF _ _ (Ne.symm e)];exact h1,kK (Ext.aq _ hf) h2⟩
   sep:=λi j x y c_ dE b h1 h2 l1 l2 r1 r2 o1 o2=>by
    rw[ba] at h1 h2
    by_cases e1:st.nx=i
    ·subst e1;rw[cj] at r1;cases r1;cases o1
    ·by_cases e2:st.nx=j
     ·subst e2;rw[cj] at r2;cases r2;cases o2
     ·rw[aR _ _ e1] at h1;rw[aR _ _ e2] at h2
      rw[bF _ _ (Ne.symm e1)] at r1;rw[bF _ _ (Ne.symm e2)] at r2
      exact hm.hm.sep i j x y c_ dE b h1 h2 l1 l2 r1 r2 o1 o2
   ro:=λj size n get' nm b hj hn hr hb ho=>by
    rw[ba] at hj
    by_cases e:st.nx=j
    ·subst e;rw[cP] at hj;cases hj
    ·rw[aR _ _ e] at hj
     rw[bF _ _ (Ne.symm e)] at hr
     rcases Own.cons hf ho with h|h
     ·cases h
     ·exact hm.hm.ro j size n get' nm b hj hn hr hb h
   ax:=λb hz ho=>by
    rcases Own.cons hf ho with h|h
    ·cases h
    ·exact hm.hm.ax b (pu b hz) h }
  kp:={
   str:=hm.kp.str
   size:=hm.kp.size
   same:=hm.kp.same
   own:=λb ho=>by
    rcases Own.cons hf ho with h|h
    ·cases h
    ·exact hm.kp.own b h
   ext:=hm.kp.ext.trans (Ext.aq _ hf)
   fz:=λb hz=>hm.kp.fz b (pu b hz) }
  nx:=λj hj=>by
   have:st.nx+1≤j:=hj
   rw[bF _ _ (by omega)];exact hm.nx j (by omega)
  sz:=hm.sz }
theorem Mod.focus (hm:Mod X ρ st a w){de size n c:Nat}{ad:Addr}{get:Nat→List SV}{C:Value→Nat→(Nat→List SV)→Prop}(h2:ab st.H de=some (.ax size C))(hc:C (.slice (some ad) n c) n get) :
  Mod X (aq ρ st.nx (.sl (some ad) n c size)) { st with H:=(st.nx,.ro size n get)::st.H,nx:=st.nx+1 } a w:=by
 have hf:ρ st.nx=none:=hm.nx _ (Nat.le_refl _)
 obtain⟨nf,f1,f2⟩:=hm.hm.ok _ _ h2
 obtain⟨A,c',e,hle,hh⟩:vR w size (.slice (some ad) n c) n get:=by
  cases nf<;>simp only[ao] at f2
  exact f2.2 _ _ _ hc
 cases e
 exact{
  fm:=hm.fm.ext (Ext.aq _ hf)
  gs:=hm.gs
  df:=hm.df.ext (Ext.aq _ hf)
  hm:={
   ok:=λj hb hj=>by
    rw[ba] at hj
    by_cases e:st.nx=j
    ·subst e;rw[cP] at hj;cases hj
     refine⟨_,cj _ _ _,rfl,rfl,hle,λhn=>?_⟩
     obtain⟨Dl,e,hb,hx⟩:=hh hn
     refine⟨Dl,e,hb,λi hi=>?_⟩
     obtain⟨vs,d1,d2⟩:=hx i hi
     exact⟨vs,fT (λ_ _ h=>by cases h) _ _ d1,d2⟩
    ·rw[aR _ _ e] at hj
     obtain⟨nm,h1,h2⟩:=hm.hm.ok j hb hj
     exact⟨nm,by rw[bF _ _ (Ne.symm e)];exact h1,kK (Ext.aq _ hf) h2⟩
   sep:=λi j x y c_ dE b h1 h2 l1 l2 r1 r2 o1 o2=>by
    rw[ba] at h1 h2
    by_cases e1:st.nx=i
    ·subst e1;rw[cj] at r1;cases r1;cases o1
    ·by_cases e2:st.nx=j
     ·subst e2;rw[cj] at r2;cases r2;cases o2
     ·rw[aR _ _ e1] at h1;rw[aR _ _ e2] at h2
      rw[bF _ _ (Ne.symm e1)] at r1;rw[bF _ _ (Ne.symm e2)] at r2
      exact hm.hm.sep i j x y c_ dE b h1 h2 l1 l2 r1 r2 o1 o2
   ro:=λj s2 n2 get' nm b hj hn hr hb ho=>by
    rw[ba] at hj
    rcases Own.cons hf ho with h|h
    ·cases h
    by_cases e:st.nx=j
    ·subst e;rw[cP] at hj;cases hj
     rw[cj] at hr;cases hr
     simp only[eX,Option.some.injEq] at hb
     exact hm.hm.ax b ⟨de,size,C,_,n,get,h2,hc,hn,by simp[zk,hb]⟩ h
    ·rw[aR _ _ e] at hj
     rw[bF _ _ (Ne.symm e)] at hr
     exact hm.hm.ro j s2 n2 get' nm b hj hn hr hb h
   ax:=λb hz ho=>by
    rw[ba] at hz
    rcases Own.cons hf ho with h|h
    ·cases h
    ·exact hm.hm.ax b (hz.aq λ_ _ h=>by cases h) h }
  kp:={
   str:=hm.kp.str
   size:=hm.kp.size
   same:=hm.kp.same
   own:=λb ho=>by
    rcases Own.cons hf ho with h|h
    ·cases h
    ·exact hm.kp.own b h
   ext:=hm.kp.ext.trans (Ext.aq _ hf)
   fz:=λb hz=>hm.kp.fz b (by rw[ba] at hz;exact hz.aq λ_ _ h=>by cases h) }
  nx:=λj hj=>by
   have:st.nx+1≤j:=hj
   rw[bF _ _ (by omega)];exact hm.nx j (by omega)
  sz:=hm.sz }
def Ei (bI de:Nat)(ds hs:List Nat)(st:St)(mC:St→Prop):Prop :=
 match ab st.H bI,ab st.H de with
 |some (.vec _ size n get),some (.ax Gs C)=>Nat.beq size Gs=true∧0<n∧(∀i,i<n→fM 0 (get i)=true)∧pK hs de=false∧pK hs bI=false∧hs.Nodup∧∀(ad:Addr) (c:Nat),
   D6 bI (.slice (some ad) n c) st.F ds st.F λF'=>yg bI (.slice (some ad) n c) st.H hs st.H λH' =>
    mC ⟨F',st.gs,(de,.ax Gs (xB C (.slice (some ad) n c) n get))::(bI,.dead)::H',st.nx,st.D⟩
 |_,_=>False
theorem OC {bI de:Nat}{ds hs:List Nat}{mC:St→Prop}(h:Ei bI de ds hs st mC)(hm:Mod X ρ st a w):∃ρ' af,Mod X ρ' af a w∧mC af:=by
 unfold Ei at h
 split at h
 ·rename_i e size n get Gs C e1 e2
  obtain⟨uJ,hn,bi,ck,cI,lA,h⟩:=h
  have uJ:size=Gs:=by simpa using uJ
  subst uJ
  obtain⟨ad,c,hd,_⟩:=hm.freeze e1 hn bi e2
  obtain⟨F',g1,g2⟩:=N2 (v:=.slice (some ad) n c) rfl hd ds (λt u hu=>⟨u,hu,rfl⟩) hm (h ad c)
  obtain⟨H',k1,k2,k3⟩:=N3 (v:=.slice (some ad) n c) rfl hd hs (st:={ st with F:=F' }) (λt x hx=>.inl hx) lA g1 g2
  have q1:ab H' bI=some (.vec e size n get):=by rw[k2 bI λhc=>by rw[wY.2 hc] at cI;cases cI];exact e1
  have q2:ab H' de=some (.ax size C):=by rw[k2 de λhc=>by rw[wY.2 hc] at ck;cases ck];exact e2
  obtain⟨Dl,c',eu,an⟩:=k1.freeze (st:={ { st with F:=F' } with H:=H' }) q1 hn bi q2
  rw[hd] at eu
  cases eu
  exact⟨ρ,_,an,k3⟩
 ·exact h.elim
def Is (de d n c:Nat)(ad:Addr)(get:Nat→List SV)(u:SV)(st:St)(mC:St→Prop):Prop :=
 match ab st.H de,findF st.F d with
 |some (.ax size C),some ⟨[],x⟩=>C (.slice (some ad) n c) n get∧n8 st.nx (.slice (some ad) n c) u=x ∧
   fa (st.nx+1) λaA=>mC ⟨(d,⟨[],u⟩)::st.F,st.gs,(st.nx,.ro size n get)::st.H,aA,st.D⟩
 |_,_=>False
theorem WX {de d n c:Nat}{ad:Addr}{get:Nat→List SV}{u:SV}{mC:St→Prop}(h:Is de d n c ad get u st mC)(hm:Mod X ρ st a w):∃ρ' af,Mod X ρ' af a w∧mC af:=by
 unfold Is at h
 split at h
 ·rename_i size C x e1 e2
  obtain⟨hc,hu,h⟩:=h
  rw[fw] at h
  have an:=hm.focus e1 hc
  have hd:den (aq ρ st.nx (.sl (some ad) n c size)) (.sl st.nx)=some (.slice (some ad) n c):=by simp[den,cj]
  exact⟨_,_,an.K4 (u':=u) e2 (by rw[←hu,Aq rfl hd]),h⟩
 ·exact h.elim
theorem WB (bI de:Nat)(ds hs:List Nat){ops:List Oper}{i:Nat}{o:Oper}{r:List Oper}{Q:Exit→Act→World→Prop}{K:St→Prop}{Kp:List PanicEntry→St→Prop}(hX:X.Ok)(hC:dm X Q K Kp)(hi:ops.drop i=o::r)
  (h:Ei bI de ds hs st λst=>c7 X ops Q K Kp i (o::r) st):eB X ops Q K Kp i o r st :=
 ⟨fun ρ a w hm=>let ⟨ρ',af,h1,h2⟩:=OC h hm;(N9 hX hC hi h2).h ρ' a w h1⟩
theorem WA (de d n c:Nat)(ad:Addr)(get:Nat→List SV)(u:SV){ops:List Oper}{i:Nat}{o:Oper}{r:List Oper}{Q:Exit→Act→World→Prop}{K:St→Prop}{Kp:List PanicEntry→St→Prop}(hX:X.Ok)(hC:dm X Q K Kp)(hi:ops.drop i=o::r)
  (h:Is de d n c ad get u st λst=>c7 X ops Q K Kp i (o::r) st):eB X ops Q K Kp i o r st :=
 ⟨fun ρ a w hm=>let ⟨ρ',af,h1,h2⟩:=WX h hm;(N9 hX hC hi h2).h ρ' a w h1⟩
theorem acU (bI de:Nat)(ds hs:List Nat){c:Code}{K:Ex→St→Prop}(hX:X.Ok)(h:Ei bI de ds hs st λst=>exec X c st K):aX X c st K :=
 fun ρ a w hm=>let ⟨ρ',af,h1,h2⟩:=OC h hm;cW hX c _ _ h2 ρ' a w h1
theorem acT (size:Nat){c:Code}{K:Ex→St→Prop}(h:eQ st λF gs H nx D=>fa (nx+1) λaA=>aX X c ⟨F,gs,(nx,.ax size (λ_ _ _=>False))::H,aA,D⟩ K):aX X c st K :=
 fun ρ a w hm=>by
  rw[eG,fw] at h
  exact h _ a w (hm.N7 size)
end
section
variable {dQ ρ:Env}{s:Nat→Nat}
mutual
theorem HO (h:∀j nm,dQ j=some nm→ρ (s j)=some nm):∀(x:SV) (v:Value),den dQ x=some v→den ρ (bX s x)=some v
 |.sv x,v,hv=>by simpa [den,bX] using hv
 |.si k n,v,hv=>by simpa [den,bX] using hv
 |.sb p,v,hv=>by simpa [den,bX] using hv
 |.sp id off,v,hv=>by
  simp only[den,bX] at hv ⊢
  cases e:dQ id with
  |none=>simp[e] at hv
  |some nm=>rw[h _ _ e];simpa [e] using hv
 |.se id i off,v,hv=>by
  simp only[den,bX] at hv ⊢
  cases e:dQ id with
  |none=>simp[e] at hv
  |some nm=>rw[h _ _ e];simpa [e] using hv
 |.sl id,v,hv=>by
  simp only[den,bX] at hv ⊢
  cases e:dQ id with
  |none=>simp[e] at hv
  |some nm=>rw[h _ _ e];simpa [e] using hv
 |.sm id,v,hv=>by
  simp only[den,bX] at hv ⊢
  cases e:dQ id with
  |none=>simp[e] at hv
  |some nm=>rw[h _ _ e];simpa [e] using hv
 |.fy id,v,hv=>by
  simp only[den,bX] at hv ⊢
  cases e:dQ id with
  |none=>simp[e] at hv
  |some nm=>rw[h _ _ e];simpa [e] using hv
 |.agg l,v,hv=>by
  simp only[den,bX] at hv ⊢
  cases e:ai dQ l with
  |none=>simp[e] at hv
  |some vs=>rw[vG h l vs e];simpa [e] using hv
 |.bn l,v,hv=>by
  simp only[den,bX] at hv ⊢
  cases e:ai dQ l with
  |none=>simp[e] at hv
  |some vs=>rw[vG h l vs e];simpa [e] using hv
 |.fn f a b,v,hv=>by
  simp only[den,bX] at hv ⊢
  cases e:ai dQ a with
  |none=>simp[e] at hv
  |some vs =>
   cases e2:ai dQ b with
   |none=>simp[e,e2] at hv
   |some us=>rw[vG h a vs e,vG h b us e2];simpa [e,e2] using hv
 |.cg t x,v,hv=>by
  simp only[den,bX] at hv ⊢
  cases e:den dQ x with
  |none=>simp[e] at hv
  |some u=>rw[HO h x u e];simpa [e] using hv
 |.ss id off len lc,v,hv=>by
  simp only[den,bX] at hv ⊢
  cases e:dQ id with
  |none=>simp[e] at hv
  |some nm=>rw[h _ _ e];simpa [e] using hv
theorem vG (h:∀j nm,dQ j=some nm→ρ (s j)=some nm):∀(l:List SV) (vs:List Value),ai dQ l=some vs→ai ρ (cX s l)=some vs
 |[],vs,hv=>by simpa [ai,cX] using hv
 |x::r,vs,hv=>by
  simp only[ai,cX] at hv ⊢
  cases e:den dQ x with
  |none=>simp[e] at hv
  |some u =>
   cases e2:ai dQ r with
   |none=>simp[e,e2] at hv
   |some us=>rw[HO h x u e,vG h r us e2];simpa [e,e2] using hv
end
end
def nu (s:Nat→Nat):HB→HB
 |.cells T cs=>.cells T (cX s cs)
 |.row T z n xs=>.row T z n (cX s xs)
 |x=>x
def pP (s:Nat→Nat):List (Nat × HB)→List (Nat × HB)
 |[]=>[]
 |(t,x)::r=>(s t,nu s x)::pP s r
def okB:HB→Prop
 |.ro _ n get=>∀i,i<n→fM 0 (get i)=true
 |.vec _ _ n get=>∀i,i<n→fM 0 (get i)=true
 |.it ..=>False
 |.loop ..=>False
 |_=>True
def Cv:List (Nat × HB)→Prop
 |[]=>True
 |(_,x)::r=>okB x∧Cv r
theorem RH:∀{H:List (Nat × HB)},Cv H→∀t x,ab H t=some x→okB x
 |(a,y)::r,h,t,x,hf=>by
  by_cases e:a=t
  ·subst e
   rw[ba,cP] at hf;cases hf
   exact h.1
  ·rw[o6 e] at hf
   exact RH h.2 t x hf
theorem NF {ρ ρ':Env}{l:List SV}{vs:List Value}(hi:fM 0 l=true)(h:ai ρ l=some vs):ai ρ' l=some vs :=
 fT (λ_ _ h=>by cases h) _ _ (HN hi h)
theorem acb {dQ ρ:Env}{s:Nat→Nat}{w:World}(h:∀j nm,dQ j=some nm→ρ (s j)=some nm){x:HB}{nm:Nm}(ho:okB x)(k:ao dQ w x nm):ao ρ w (nu s x) nm:=by
 cases x with
 |dead=>trivial
 |cells T cs =>
  cases nm<;>simp only[ao,nu] at k ⊢
  obtain⟨vs,h1,h2,h3⟩:=k
  exact⟨vs,vG h _ _ h1,h2,h3⟩
 |ro size n get =>
  cases nm<;>simp only[ao,nu] at k ⊢
  obtain⟨h1,h2,h0,h3⟩:=k
  refine⟨h1,h2,h0,λhn=>?_⟩
  obtain⟨ad,e,hb,hc⟩:=h3 hn
  refine⟨ad,e,hb,λi hi=>?_⟩
  obtain⟨vs,d1,d2⟩:=hc i hi
  exact⟨vs,NF (ho i hi) d1,d2⟩
 |row T size n xs =>
  cases nm<;>simp only[ao,nu] at k ⊢
  obtain⟨h1,h2,h3,vs,rest,h4,h5⟩:=k
  exact⟨h1,h2,h3,vs,rest,vG h _ _ h4,h5⟩
 |vec T size n get =>
  cases nm<;>simp only[ao,nu] at k ⊢
  ·exact k
  obtain⟨h1,h2,h3,cells,h4,h5,h6⟩:=k
  refine⟨h1,h2,h3,cells,h4,h5,λi hi=>?_⟩
  obtain⟨vs,d1,d2⟩:=h6 i hi
  exact⟨vs,NF (ho i hi) d1,d2⟩
 |map es clock=>cases nm<;>exact k
 |mp es=>cases nm<;>exact k
 |eh=>cases nm<;>exact k
 |ax size C=>cases nm<;>exact k
 |it mid since seen last=>exact ho.elim
 |loop F nt fn ps assign body db s pd=>exact ho.elim
theorem u6 (s:Nat→Nat)(x:HB):(nu s x).live=x.live:=by cases x<;>rfl
theorem acd {s:Nat→Nat}{x:HB}{z n:Nat}{g:Nat→List SV}(h:nu s x=.ro z n g):x=.ro z n g:=by cases x<;>first|exact h|cases h
theorem aca {s:Nat→Nat}{x:HB}{z:Nat}{C:Value→Nat→(Nat→List SV)→Prop}(h:nu s x=.ax z C):x=.ax z C:=by cases x<;>first|exact h|cases h
theorem R9 {s:Nat→Nat}:∀{H:List (Nat × HB)} {k:Nat} {y:HB},ab (pP s H) k=some y→∃t x,s t=k∧ab H t=some x∧y=nu s x
 |(a,x)::r,k,y,hf=>by
  simp only[pP] at hf
  by_cases e:s a=k
  ·rw[e,ba,cP] at hf;cases hf
   exact⟨a,x,e,by rw[ba,cP],rfl⟩
  ·rw[o6 e] at hf
   obtain⟨t,x',h1,h2,h3⟩:=R9 hf
   refine⟨t,x',h1,?_,h3⟩
   rw[o6 (λe2:a=t=>e (by rw[e2];exact h1))]
   exact h2
theorem R8 {s:Nat→Nat}:∀{H:List (Nat × HB)} {t:Nat} {x:HB},ab H t=some x→∃y,ab (pP s H) (s t)=some y
 |(a,x)::r,t,z,hf=>by
  by_cases e:s a=s t
  ·exact⟨nu s x,by simp only[pP];rw[e,ba,cP]⟩
  ·have aV:a≠t:=λh=>e (by rw[h])
   rw[o6 aV] at hf
   obtain⟨y,hy⟩:=R8 (s:=s) hf
   exact⟨y,by simp only[pP];rw[o6 e];exact hy⟩
def Ek (A:List (Nat × HB)):Nat→Bool
 |0=>true
 |n+1=>match ab A n with
  |some _=>Ek A n
  |none=>false
theorem OG {A:List (Nat × HB)}:∀{n:Nat},Ek A n=true→∀t,t<n→∃x,ab A t=some x
 |n+1,h,t,ht=>by
  simp only[Ek] at h
  split at h
  ·rename_i x e
   by_cases e2:t=n
   ·subst e2;exact⟨x,e⟩
   ·exact OG h t (by omega)
  ·cases h
def tO (s:Nat→Nat)(n0 nx j:Nat):Nat :=
 match Nat.ble n0 j with
 |true=>nx+(j-n0)
 |false=>s j
def Ie (s:Nat→Nat):HB→(HB→Prop)→Prop
 |.cells T cs,K=>eT (cX s cs) λl=>K (.cells T l)
 |.row T z n xs,K=>eT (cX s xs) λl=>K (.row T z n l)
 |x,K=>K x
theorem Wv (s:Nat→Nat)(x:HB)(K:HB→Prop):Ie s x K=K (nu s x):=by cases x<;>simp[Ie,nu,gn]
def AH (s:Nat→Nat)(H:List (Nat × HB)):List (Nat × HB)→(List (Nat × HB)→Prop)→Prop
 |[],K=>K H
 |(t,x)::r,K=>fa (s t) λt'=>Ie s x λx'=>AH s H r λl=>K ((t',x')::l)
theorem D_ (s:Nat→Nat)(H:List (Nat × HB)):∀(l:List (Nat × HB)) (K:List (Nat × HB)→Prop),AH s H l K=K (pP s l++H)
 |[],K=>rfl
 |(t,x)::r,K=>by simp[AH,pP,fw,Wv,D_ s H r]
def TC (s:Nat→Nat)(n0 nx:Nat)(A:List (Nat × HB))(H:List (Nat × HB))(Rv:SV→List (Nat × HB)→Nat→Prop)(v:SV)(H':List (Nat × HB))(aA:Nat):Prop :=
 x8 H' A=true∧xd A H'∧Cv H'∧fX (bX (tO s n0 nx) v) λv1=>AH (tO s n0 nx) H H' λH1=>fa (nx+(aA-n0)) λn1=>Rv v1 H1 n1
def TD (s:Nat→Nat)(n0 nx:Nat)(A:List (Nat × HB))(H:List (Nat × HB))(Rp:List PanicEntry→List (Nat × HB)→Nat→Prop)(ch:List PanicEntry)(H':List (Nat × HB))(aA:Nat):Prop :=
 x8 H' A=true∧xd A H'∧Cv H'∧AH (tO s n0 nx) H H' λH1=>fa (nx+(aA-n0)) λn1=>Rp ch H1 n1
theorem aO {P:Program}{n:Nat}{l:List SV}{H:List (Nat × HB)}{nx:Nat}{Rv:SV→List (Nat × HB)→Nat→Prop}{Rp:List PanicEntry→List (Nat × HB)→Nat→Prop}(l0:List SV)(A:List (Nat × HB))(n0:Nat)(s:Nat→Nat)
  (hl:p8 l (cX s l0)) (ES:fM n0 l0=true) (hA:gN s n0 H A) (YN:tp s A=true) (sX:Ek A n0=true)
  (h:bG P n l0 A n0 (TC s n0 nx A H Rv) (TD s n0 nx A H Rp)):bG P n l H nx Rv Rp:=by
 intro ρ w aM hm aU hd
 have uA:=lg hA
 obtain⟨dQ,BX⟩:∃dQ,dQ=ke ρ s n0:=⟨_,rfl⟩
 have Bf:ai dQ l0=some aM:=by rw[BX,mK _ ES,←qY _ _ hl];exact hd
 have BN:∀{j nm},dQ j=some nm→j<n0∧ρ (s j)=some nm:=λh=>by rw[BX] at h;exact vL h
 have YW:∀{j},j<n0→dQ j=ρ (s j):=λh=>by rw[BX];exact nZ h
 have BF:∀{id hb},ab A id=some hb→∃nm,dQ id=some nm∧ρ (s id)=some nm∧ao dQ w hb nm:=λhf=>by
  obtain⟨h1,hc,h2,h3⟩:=uA _ _ hf
  obtain⟨nm,h4,h5⟩:=hm.ok _ _ h2
  exact⟨nm,by rw[YW h1];exact h4,h4,by rw[BX];exact Kw h3 h5⟩
 have s_:∀b,Own dQ (ab A) b→Own ρ (ab H) b:=λb ⟨id,x,ak,h1,h2,h3,h4⟩=>by
  obtain⟨_,c2,b2,b3⟩:=uA id x h1
  exact⟨_,c2,ak,b2,nh b3 h2,(BN h3).2,h4⟩
 have Jf:∀b,Fz (ab A) b→Fz (ab H) b:=λb hz=>C5 hA hz
 have Jt:HM dQ (ab A) w:={
  ok:=λid hb hf=>let ⟨nm,h1,_,h2⟩:=BF hf;⟨nm,h1,h2⟩
  sep:=λi j x y c_ dE b h1 h2 l1 l2 r1 r2 o1 o2=>by
   obtain⟨_,c1,a2,a3⟩:=uA i x h1
   obtain⟨_,c2,b2,b3⟩:=uA j y h2
   exact J6 YN i j x y h1 h2 (hm.sep _ _ c1 c2 c_ dE b a2 b2 (nh a3 l1) (nh b3 l2) (BN r1).2 (BN r2).2 o1 o2)
  ro:=λj size m get nm b hf cR hr hb hO=>by
   obtain⟨_,c1,a2,a3⟩:=uA j _ hf
   obtain⟨g',rfl⟩:=Fw a3
   exact hm.ro _ size m g' nm b a2 cR (BN hr).2 hb (s_ b hO)
  ax:=λb hz hO=>hm.ax b (Jf b hz) (s_ b hO) }
 have fG:∀j,n0≤j→dQ j=none:=λj hj=>by rw[BX];unfold ke;rw[if_neg (by omega)]
 have EB:∀k x nm b,(∀t y,ab A t=some y→s t≠k)→ab H k=some x→x.live=true→ρ k=some nm→nm.owner=some b→¬Own dQ (ab A) b:=by
  intro k x nm b h0 h1 hl h2 h3 ⟨id,y,ak,g1,g2,g3,g4⟩
  obtain⟨_,c2,b2,b3⟩:=uA id y g1
  exact h0 id y g1 (hm.sep _ k c2 x ak nm b b2 h1 (nh b3 g2) hl (BN g3).2 h2 g4 h3)
 have aG:∀k x nm b,ab H k=some x→x.live=true→ρ k=some nm→nm.owner=some b→b<w.heap.size:=λk x nm b h1 h2 h3 h4=>hm.lt ⟨k,x,nm,h1,h2,h3,h4⟩
 have PU:∀k size m get nm b,ab H k=some (.ro size m get)→0<m→ρ k=some nm→eX nm=some b→b<w.heap.size:=by
  intro t size m get nm b h1 cR h3 h4
  obtain⟨fg,k1,k2⟩:=hm.ok t _ h1
  rw[h3] at k1;cases k1
  cases nm<;>simp only[ao] at k2
  obtain⟨_,_,_,k3⟩:=k2
  obtain⟨ad,rfl,klt,k4⟩:=k3 cR
  simp only[eX,Option.some.injEq] at h4
  subst h4
  exact klt
 have back:∀{H':List (Nat × HB)} {fo:Env} {w':World} {aA:Nat},x8 H' A=true→xd A H'→Cv H'→HM fo (ab H') w'→gO ⟨w,Own dQ (ab A),dQ,Fz (ab A)⟩ fo (ab H') w'→(∀j,aA≤j→fo j=none) →
   ∃ρ',(∀j nm,fo j=some nm→ρ' (tO s n0 nx j)=some nm)∧HM ρ' (ab (pP (tO s n0 nx) H'++H)) w'∧gO ⟨w,Own ρ (ab H),ρ,Fz (ab H)⟩ ρ' (ab (pP (tO s n0 nx) H'++H)) w'∧∀j,nx+(aA-n0)≤j→ρ' j=none:=by
  intro H' fo w' aA Yu kq Zh an bW Zc
  obtain⟨σ,J0⟩:∃σ,σ=tO s n0 nx:=⟨_,rfl⟩
  rw[←J0]
  have Z5:∀{j},n0≤j→σ j=nx+(j-n0):=λh=>by rw[J0];simp only[tO,Nat.ble_eq_true_of_le h]
  have Qe:∀{j},j<n0→σ j=s j:=λ{j} h=>by
   rw[J0];simp only[tO]
   cases e:Nat.ble n0 j with
   |true=>have:=Nat.le_of_ble_eq_true e;omega
   |false=>rfl
  let ρ':Env:=λj=>if j<nx then ρ j else fo (n0+(j-nx))
  have Qc:∀{j},j<nx→ρ' j=ρ j:=λ{j} h=>by show(if j<nx then ρ j else fo (n0+(j-nx)))=ρ j;rw[if_pos h]
  have Qb:∀{j},nx≤j→ρ' j=fo (n0+(j-nx)):=λ{j} h=>by show(if j<nx then ρ j else fo (n0+(j-nx)))=_;rw[if_neg (by omega)]
  have PY:∀{j nm},ρ j=some nm→j<nx:=λ{j nm} h=>by
   rcases Nat.lt_or_ge j nx with h1|h1
   ·exact h1
   ·rw[aU j h1] at h;cases h
  have himp:∀j nm,fo j=some nm→ρ' (σ j)=some nm:=by
   intro j nm hj
   rcases Nat.lt_or_ge j n0 with h1|h1
   ·obtain⟨x,hx⟩:=OG sX j h1
    obtain⟨ak,g1,g2,_⟩:=BF hx
    rw[bW.ext _ _ g1] at hj;cases hj
    rw[Qe h1,Qc (PY g2)]
    exact g2
   ·rw[Z5 h1,Qb (by omega),show n0+(nx+(j-n0)-nx)=j by omega]
    exact hj
  have sV:Ext ρ ρ':=λj nm hj=>by rw[Qc (PY hj)];exact hj
  have rc:∀k y,ab (pP σ H'++H) k=some y→(∃t x,σ t=k∧ab H' t=some x∧y=nu σ x)∨((∀t y,ab A t=some y→s t≠k)∧ab H k=some y):=by
   intro k y hk
   rw[WO] at hk
   split at hk
   ·rename_i e;cases hk;exact .inl (R9 e)
   ·rename_i e
    refine .inr ⟨λt z hz bD=>?_,hk⟩
    obtain⟨z',BV⟩:=Ny Yu t z hz
    obtain⟨y',P_⟩:=R8 (s:=σ) BV
    rw[Qe (uA t z hz).1,bD,e] at P_
    cases P_
  have qy:∀t x,ab H' t=some x→∃nm,fo t=some nm∧ρ' (σ t)=some nm∧ao fo w' x nm:=λt x hx=>by
   obtain⟨nm,h1,h2⟩:=an.ok t x hx
   exact⟨nm,h1,himp t nm h1,h2⟩
  have CA:∀b,Own fo (ab H') b→Own dQ (ab A) b∨w.heap.size≤b:=λb hO=>bW.own b hO
  have qw:∀k x,ab H k=some x→∃nm,ρ k=some nm∧ρ' k=some nm∧ao ρ w x nm:=λk x hx=>by
   obtain⟨nm,h1,h2⟩:=hm.ok _ _ hx
   exact⟨nm,h1,sV _ _ h1,h2⟩
  have OI:∀b,Fz (ab (pP σ H'++H)) b→Fz (ab H') b∨Fz (ab H) b:=by
   rintro b ⟨k,size,C,v,m,get,hf,hc,cR,hb⟩
   rcases rc k _ hf with⟨t,x,rfl,h1,h2⟩|⟨_,h1⟩
   ·rw[aca h2.symm] at h1
    exact .inl ⟨t,size,C,v,m,get,h1,hc,cR,hb⟩
   ·exact .inr ⟨k,size,C,v,m,get,h1,hc,cR,hb⟩
  refine⟨ρ',himp,?_,?_,?_⟩
  ·exact{
    ok:=λk y hf=>by
     rcases rc k y hf with⟨t,x,rfl,h1,rfl⟩|⟨h0,h1⟩
     ·obtain⟨nm,g1,g2,g3⟩:=qy t x h1
      exact⟨nm,g2,acb himp (RH Zh t x h1) g3⟩
     ·obtain⟨nm,q1,q2,q3⟩:=qw k y h1
      refine⟨nm,q2,kK sV (vm bW.size ?_ ?_ ?_ q3)⟩
      ·intro hl b hb'
       exact bW.same b (aG k y nm b h1 hl q1 hb') (EB k y nm b h0 h1 hl q1 hb')
      ·intro size m get b e cR hr
       subst e
       exact bW.same b (PU k size m get nm b h1 cR q1 hr) (λhO=>hm.ro k size m get nm b h1 cR q1 hr (s_ b hO))
      ·intro size C v m get b e hc cR hr
       subst e
       have hz:Fz (ab H) b:=⟨k,size,C,v,m,get,h1,hc,cR,hr⟩
       exact bW.same b (hm.sN hz) (λhO=>hm.ax b hz (s_ b hO))
    sep:=λi j x y c_ dE b h1 h2 l1 l2 r1 r2 o1 o2=>by
     rcases rc i x h1 with⟨t1,x1,rfl,f1,rfl⟩|⟨z1,h1⟩<;>rcases rc j y h2 with⟨t2,x2,rfl,f2,rfl⟩|⟨z2,h2⟩
     ·rw[u6] at l1 l2
      obtain⟨Cq,g1,g2,_⟩:=qy t1 x1 f1
      obtain⟨fg,k1,k2,_⟩:=qy t2 x2 f2
      rw[g2] at r1;cases r1
      rw[k2] at r2;cases r2
      rw[an.sep t1 t2 x1 x2 _ _ b f1 f2 l1 l2 g1 k1 o1 o2]
     ·rw[u6] at l1
      obtain⟨Cq,g1,g2,_⟩:=qy t1 x1 f1
      rw[g2] at r1;cases r1
      obtain⟨nm,q1,q2,q3⟩:=qw j y h2
      rw[q2] at r2;cases r2
      have k1:=EB j y _ b z2 h2 l2 q1 o2
      have k2:=aG j y _ b h2 l2 q1 o2
      rcases CA _ ⟨t1,x1,_,f1,l1,g1,o1⟩ with h|h
      ·exact absurd h k1
      ·omega
     ·rw[u6] at l2
      obtain⟨Cq,g1,g2,_⟩:=qy t2 x2 f2
      rw[g2] at r2;cases r2
      obtain⟨nm,q1,q2,q3⟩:=qw i x h1
      rw[q2] at r1;cases r1
      have k1:=EB i x _ b z1 h1 l1 q1 o1
      have k2:=aG i x _ b h1 l1 q1 o1
      rcases CA _ ⟨t2,x2,_,f2,l2,g1,o2⟩ with h|h
      ·exact absurd h k1
      ·omega
     ·obtain⟨nm,q1,q2,q3⟩:=qw i x h1
      obtain⟨ak,p1,p2,p3⟩:=qw j y h2
      rw[q2] at r1;cases r1
      rw[p2] at r2;cases r2
      exact hm.sep i j x y _ _ b h1 h2 l1 l2 q1 p1 o1 o2
    ro:=λj size m get nm b hf cR hr hb hO=>by
     obtain⟨id,x,ak,g1,g2,g3,g4⟩:=hO
     rcases rc j _ hf with⟨t1,x1,rfl,f1,e1⟩|⟨z1,h1⟩
     ·rw[acd e1.symm] at f1
      obtain⟨Cq,k1,k2,_⟩:=qy t1 _ f1
      rw[k2] at hr;cases hr
      rcases rc id x g1 with⟨t2,x2,rfl,f2,rfl⟩|⟨z2,g1⟩
      ·rw[u6] at g2
       obtain⟨fg,q1,q2,_⟩:=qy t2 x2 f2
       rw[q2] at g3;cases g3
       exact an.ro t1 size m get _ b f1 cR k1 hb ⟨t2,x2,_,f2,g2,q1,g4⟩
      ·obtain⟨fg,q1,q2,q3⟩:=qw id x g1
       rw[q2] at g3;cases g3
       obtain⟨s',g',e⟩:=Sd kq t1 size m get f1
       obtain⟨Ru,p1,p2,_⟩:=BF e
       have p3:=bW.ext _ _ p1
       rw[k1] at p3;cases p3
       obtain⟨_,c2,b2,b3⟩:=uA t1 _ e
       obtain⟨W6,rfl⟩:=Fw b3
       exact hm.ro _ s' m W6 _ b b2 cR p2 hb ⟨id,x,_,g1,g2,q1,g4⟩
     ·obtain⟨fg,q1,q2,q3⟩:=qw j _ h1
      rw[hr] at q2;cases q2
      rcases rc id x g1 with⟨t2,x2,rfl,f2,rfl⟩|⟨z2,g1⟩
      ·rw[u6] at g2
       obtain⟨fg,k1,k2,_⟩:=qy t2 x2 f2
       rw[k2] at g3;cases g3
       rcases CA b ⟨t2,x2,_,f2,g2,k1,g4⟩ with h|h
       ·exact hm.ro j size m get nm b h1 cR q1 hb (s_ b h)
       ·have:=PU j size m get nm b h1 cR q1 hb
        omega
      ·obtain⟨Ru,p1,p2,p3⟩:=qw id x g1
       rw[p2] at g3;cases g3
       exact hm.ro j size m get nm b h1 cR q1 hb ⟨id,x,_,g1,g2,p1,g4⟩
    ax:=λb hz hO=>by
     obtain⟨id,x,ak,g1,g2,g3,g4⟩:=hO
     rcases OI b hz with hz|hz
     ·rcases rc id x g1 with⟨t2,x2,rfl,f2,rfl⟩|⟨z2,g1⟩
      ·rw[u6] at g2
       obtain⟨fg,k1,k2,_⟩:=qy t2 x2 f2
       rw[k2] at g3;cases g3
       exact an.ax b hz ⟨t2,x2,_,f2,g2,k1,g4⟩
      ·obtain⟨fg,q1,q2,q3⟩:=qw id x g1
       rw[q2] at g3;cases g3
       rcases bW.fz b hz with h|h|h
       ·exact EB id x _ b z2 g1 g2 q1 g4 h
       ·have:=aG id x _ b g1 g2 q1 g4
        have h:w.heap.size≤b:=h
        omega
       ·exact hm.ax b (Jf b h) ⟨id,x,_,g1,g2,q1,g4⟩
     ·rcases rc id x g1 with⟨t2,x2,rfl,f2,rfl⟩|⟨z2,g1⟩
      ·rw[u6] at g2
       obtain⟨fg,k1,k2,_⟩:=qy t2 x2 f2
       rw[k2] at g3;cases g3
       rcases CA b ⟨t2,x2,_,f2,g2,k1,g4⟩ with h|h
       ·exact hm.ax b hz (s_ b h)
       ·have:=hm.sN hz
        omega
      ·obtain⟨Ru,p1,p2,p3⟩:=qw id x g1
       rw[p2] at g3;cases g3
       exact hm.ax b hz ⟨id,x,_,g1,g2,p1,g4⟩ }
  ·exact{
    str:=bW.str
    size:=bW.size
    same:=λb hb sZ=>bW.same b hb (λh=>sZ (s_ b h))
    own:=λb ⟨id,x,ak,g1,g2,g3,g4⟩=>by
     rcases rc id x g1 with⟨t2,x2,rfl,f2,rfl⟩|⟨z1,g1⟩
     ·rw[u6] at g2
      obtain⟨fg,k1,k2,_⟩:=qy t2 x2 f2
      rw[k2] at g3;cases g3
      rcases CA b ⟨t2,x2,_,f2,g2,k1,g4⟩ with h|h
      ·exact .inl (s_ b h)
      ·exact .inr h
     ·obtain⟨nm,q1,q2,q3⟩:=qw id x g1
      rw[q2] at g3;cases g3
      exact .inl ⟨id,x,_,g1,g2,q1,g4⟩
    ext:=sV
    fz:=λb hz=>by
     rcases OI b hz with hz|hz
     ·exact(bW.fz b hz).imp (s_ b) (Or.imp id (Jf b))
     ·exact .inr (.inr hz) }
  ·intro j hj
   rw[Qb (by omega)]
   exact Zc _ (by omega)
 refine(h dQ w aM Jt fG Bf).mono ?_
 rintro e w' (⟨v,H',aA,fo,u,rfl,h1,h2,h3,h4,hc,hr,ho,hK⟩|⟨ch,H',aA,fo,rfl,h2,h3,h4,hc,hr,ho,hK⟩)
 ·obtain⟨ρ',b1,b2,b3,b4⟩:=back hc hr ho h2 h3 h4
  rw[mP,D_,fw] at hK
  exact .inl ⟨_,_,_,ρ',u,rfl,HO b1 _ _ h1,b2,b3,b4,hK⟩
 ·obtain⟨ρ',b1,b2,b3,b4⟩:=back hc hr ho h2 h3 h4
  rw[D_,fw] at hK
  exact .inr ⟨ch,_,_,ρ',rfl,b2,b3,b4,hK⟩
theorem Ae {P:Program}{n:Nat}{l l1:List SV}{H H1:List (Nat × HB)}{nx KH:Nat}{Rv:SV→List (Nat × HB)→Nat→Prop}{Rp:List PanicEntry→List (Nat × HB)→Nat→Prop}
  (h0:∀ρ w,HM ρ (ab H) w→(∀j,nx≤j→ρ j=none)→∃ρ',Ext ρ ρ'∧HM ρ' (ab H1) w∧(∀j,KH≤j→ρ' j=none)∧(∀aM,ai ρ l=some aM→ai ρ' l1=some aM)∧(∀b,Own ρ' (ab H1) b→Own ρ (ab H) b)∧∀b,Fz (ab H1) b→Fz (ab H) b)
  (h:bG P n l1 H1 KH Rv Rp):bG P n l H nx Rv Rp:=by
 intro ρ w aM hm aU hd
 obtain⟨ρ',g1,g2,g3,g4,g5,g6⟩:=h0 ρ w hm aU
 have hk:∀{ic:Env} {H':LH} {w':World},gO ⟨w,Own ρ' (ab H1),ρ',Fz (ab H1)⟩ ic H' w'→gO ⟨w,Own ρ (ab H),ρ,Fz (ab H)⟩ ic H' w':=λk =>
  { str:=k.str,size:=k.size,same:=λb hb hn=>k.same b hb λho=>hn (g5 b ho),own:=λb ho=>(k.own b ho).imp (g5 b) id,ext:=g1.trans k.ext,fz:=λb hz=>(k.fz b hz).imp (g5 b) (Or.imp id (g6 b)) }
 refine(h ρ' w aM g2 g3 (g4 aM hd)).mono ?_
 rintro e w' (⟨v,H',aA,ic,u,rfl,h1,h2,h3,h4,h5⟩|⟨ch,H',aA,ic,rfl,h2,h3,h4,h5⟩)
 ·exact .inl ⟨v,H',aA,ic,u,rfl,h1,h2,hk h3,h4,h5⟩
 ·exact .inr ⟨ch,H',aA,ic,rfl,h2,hk h3,h4,h5⟩
theorem HM.move {ρ:Env}{H:List (Nat × HB)}{w:World}(hm:HM ρ (ab H) w){id nx:Nat}{hb:HB}{nm:Nm}(hf:ab H id=some hb)(hn:ρ id=some nm)(hx:ρ nx=none)(hl:hb.live=true)(mj:∀s n g,hb≠.ro s n g)(BA:∀s C,hb≠.ax s C) :
  HM (aq ρ nx nm) (ab ((nx,hb)::(id,.dead)::H)) w∧(∀b,Own (aq ρ nx nm) (ab ((nx,hb)::(id,.dead)::H)) b→Own ρ (ab H) b)∧∀b,Fz (ab ((nx,hb)::(id,.dead)::H)) b→Fz (ab H) b:=by
 have aV:nx≠id:=by rintro rfl;rw[hn] at hx;cases hx
 have key:∀{j:Nat} {x:HB},ab ((nx,hb)::(id,.dead)::H) j=some x→(j=nx∧x=hb)∨(j=id∧x=.dead)∨(j≠nx∧j≠id∧ab H j=some x):=by
  intro j x h
  rw[ba] at h
  by_cases e1:nx=j
  ·subst e1;rw[cP] at h;cases h;exact .inl ⟨rfl,rfl⟩
  ·rw[aR _ _ e1,ba] at h
   by_cases e2:id=j
   ·subst e2;rw[cP] at h;cases h;exact .inr (.inl ⟨rfl,rfl⟩)
   ·rw[aR _ _ e2] at h;exact .inr (.inr ⟨Ne.symm e1,Ne.symm e2,h⟩)
 have back:∀{j:Nat} {x:HB} {ak:Nm},ab ((nx,hb)::(id,.dead)::H) j=some x→x.live=true→aq ρ nx nm j=some ak→∃j',ab H j'=some x∧ρ j'=some ak∧((j=nx∧j'=id)∨(j≠nx∧j≠id∧j'=j)):=by
  intro j x ak h iF hr
  rcases key h with⟨rfl,rfl⟩|⟨rfl,rfl⟩|⟨h1,h2,h3⟩
  ·rw[cj] at hr;cases hr;exact⟨id,hf,hn,.inl ⟨rfl,rfl⟩⟩
  ·cases iF
  ·rw[bF _ _ h1] at hr;exact⟨j,h3,hr,.inr ⟨h1,h2,rfl⟩⟩
 have cM:∀b,Own (aq ρ nx nm) (ab ((nx,hb)::(id,.dead)::H)) b→Own ρ (ab H) b:=by
  rintro b ⟨j,x,ak,h1,h2,h3,h4⟩
  obtain⟨j',g1,g2,_⟩:=back h1 h2 h3
  exact⟨j',x,ak,g1,h2,g2,h4⟩
 have pu:∀b,Fz (ab ((nx,hb)::(id,.dead)::H)) b→Fz (ab H) b:=λb hz=>hz.sub λj s C h=>by
  rcases key h with⟨rfl,e⟩|⟨rfl,e⟩|⟨_,_,h3⟩
  ·exact(BA _ _ e.symm).elim
  ·cases e
  ·exact h3
 refine⟨⟨?_,?_,?_,λb hz ho=>hm.ax b (pu b hz) (cM b ho)⟩,cM,pu⟩
 ·intro j x h
  rcases key h with⟨rfl,rfl⟩|⟨rfl,rfl⟩|⟨h1,h2,h3⟩
  ·obtain⟨ak,g1,g2⟩:=hm.ok _ _ hf
   rw[hn] at g1;cases g1
   exact⟨nm,cj _ _ _,kK (Ext.aq nm hx) g2⟩
  ·exact⟨nm,by rw[bF _ _ (Ne.symm aV)];exact hn,trivial⟩
  ·obtain⟨ak,g1,g2⟩:=hm.ok _ _ h3
   exact⟨ak,by rw[bF _ _ h1];exact g1,kK (Ext.aq nm hx) g2⟩
 ·intro i j x y c_ dE b h1 h2 l1 l2 r1 r2 o1 o2
  obtain⟨i',g1,g2,g3⟩:=back h1 l1 r1
  obtain⟨j',k1,k2,k3⟩:=back h2 l2 r2
  have:=hm.sep i' j' x y c_ dE b g1 k1 l1 l2 g2 k2 o1 o2
  subst this
  rcases g3 with⟨rfl,rfl⟩|⟨a1,a2,rfl⟩<;>rcases k3 with⟨rfl,e⟩|⟨b1,b2,e⟩
  ·rfl
  ·exact(b2 e.symm).elim
  ·exact(a2 e).elim
  ·exact e
 ·intro j size m get ak b h cR hr hb' ho
  rcases key h with⟨rfl,e⟩|⟨rfl,e⟩|⟨h1,h2,h3⟩
  ·exact(mj _ _ _ e.symm).elim
  ·cases e
  ·rw[bF _ _ h1] at hr
   exact hm.ro j size m get ak b h3 cR hr hb' (cM b ho)
def uW (id nx j:Nat):Nat:=match Nat.beq j nx with
 |true=>id
 |false=>j
theorem xX {P:Program}{n:Nat}{l:List SV}{H:List (Nat × HB)}{nx:Nat}{Rv:SV→List (Nat × HB)→Nat→Prop}{Rp:List PanicEntry→List (Nat × HB)→Nat→Prop}(id:Nat)(l1:List SV){hb:HB}(hf:ab H id=some hb)(hl:hb.live=true)
  (ly:p8 l (cX (uW id nx) l1)) (hi:fM (nx+1) l1=true) (h:bG P n l1 ((nx,hb)::(id,.dead)::H) (nx+1) Rv Rp) (mj:∀s n g,hb≠.ro s n g:=by intro s n g h;cases h) (BA:∀s C,hb≠.ax s C:=by intro s C h;cases h):bG P n l H nx Rv Rp:=by
 refine Ae (fun ρ w hm aU=>?_) h
 obtain⟨nm,h1,h2⟩:=hm.ok _ _ hf
 have hx:=aU nx (Nat.le_refl _)
 obtain⟨g1,g2,g3⟩:=hm.move hf h1 hx hl mj BA
 refine⟨_,Ext.aq nm hx,g1,λj hj=>by rw[bF _ _ (by omega)];exact aU j (by omega),λaM hd=>?_,g2,g3⟩
 have e:aq ρ nx nm=ke ρ (uW id nx) (nx+1):=by
  funext j
  by_cases e1:j=nx
  ·subst e1
   rw[cj,nZ (by omega)]
   simp[uW,h1]
  ·rw[bF _ _ e1]
   have:Nat.beq j nx=false:=by
    cases e2:Nat.beq j nx with
    |true=>exact(e1 (Nat.eq_of_beq_eq_true e2)).elim
    |false=>rfl
   unfold ke
   simp only[uW,this]
   split
   ·rfl
   ·exact aU j (by omega)
 rw[e,mK _ hi,←qY _ _ ly]
 exact hd
theorem Vn {P:Program}{n:Nat}{l:List SV}{H:List (Nat × HB)}{nx:Nat}{Rv:SV→List (Nat × HB)→Nat→Prop}{Rp:List PanicEntry→List (Nat × HB)→Nat→Prop}(size:Nat)
  (h:bG P n l ((nx,.ax size (λ_ _ _=>False))::H) (nx+1) Rv Rp):bG P n l H nx Rv Rp:=by
 refine Ae (fun ρ w hm aU=>?_) h
 have hx:=aU nx (Nat.le_refl _)
 let X:Cx:=⟨P,λ_=>none,λ_=>none,⟨w,Own ρ (ab H),ρ,Fz (ab H)⟩,none,0⟩
 have cL:Mod X ρ ⟨[],[],H,nx,[]⟩ { tmps:=#[],defers:=[] } w:={
  fm:=λt e hf=>by cases hf
  gs:=λt e hf=>by cases hf
  df:=trivial
  hm:=hm
  kp:={ str:=dF.refl _,size:=Nat.le_refl _,same:=λ_ _ _=>rfl,own:=λb h=>.inl h,ext:=Ext.refl ρ,fz:=λb h=>.inr (.inr h) }
  nx:=aU
  sz:=rfl }
 have an:=cL.N7 size
 refine⟨_,Ext.aq _ hx,an.hm,an.nx,λaM hd=>fT (Ext.aq _ hx) _ _ hd,?_,?_⟩
 ·rintro b ⟨j,x,ak,h1,h2,h3,h4⟩
  rw[ba] at h1
  by_cases e1:nx=j
  ·subst e1
   rw[cj] at h3;cases h3
   cases h4
  ·rw[aR _ _ e1] at h1
   rw[bF _ _ (Ne.symm e1)] at h3
   exact⟨j,x,ak,h1,h2,h3,h4⟩
 ·rintro b ⟨id,s2,C',v,m,get',q1,q2,q3,q4⟩
  rw[ba] at q1
  by_cases e1:nx=id
  ·subst e1
   rw[cP] at q1;cases q1
   exact q2.elim
  ·rw[aR _ _ e1] at q1
   exact⟨id,s2,C',v,m,get',q1,q2,q3,q4⟩
end Go.X
namespace Go.X.Gr
open Go Go.Proofs Go.X
abbrev En:=Addr × Nat × B5
def jF (e:En):Value:=.slice (some e.1) 5 e.2.1
def eg (b:B5):Nat→Int
 |0=>b.1
 |1=>b.2.1
 |2=>b.2.2.1
 |3=>b.2.2.2.1
 |_=>b.2.2.2.2
def a_ (b:B5)(i:Nat):List SV:=iC (eg b i)
def js (L:List En):Value→Nat→(Nat→List SV)→Prop:=λv n get=>∃e∈L,v=jF e∧n=5∧get=a_ e.2.2
def eD:En:=(⟨0,0,none⟩,0,(0,0,0,0,0))
def oG (L:List En)(i:Nat):List SV:=[.sv (jF (L.getD i eD))]
def fA (k:Nat)(b:B5)(L:List En)(n:Nat)(l:Nat→Int × Int):List (Nat × HB):=[(0,.ro 2 n λi=>az (l i)),(1,.vec 3 1 k (a_ b)),(2,.vec 24 1 L.length (oG L)),(3,.ax 1 (js L))]
def fH (L:List En)(n:Nat)(l:Nat→Int × Int):List (Nat × HB):=[(5,.vec 24 1 L.length (oG L)),(3,.ax 1 (js L)),(2,.dead),(1,.dead),(0,.ro 2 n λi=>az (l i))]
theorem RB {L:List En}{e:En}{i:Nat}(hi:i<L.length+1):oG (L++[e]) i=if i<L.length then oG L i else[.sv (jF e)]:=by
 unfold oG
 split
 ·rename_i h;simp[List.getD,List.getElem?_append_left h]
 ·rename_i h
  obtain rfl:i=L.length:=by omega
  simp[List.getD]
theorem N8 {L:List En}{e:En}{v:Value}{n:Nat}{get:Nat→List SV}(h:js (L++[e]) v n get):xB (js L) (jF e) 5 (a_ e.2.2) v n get:=by
 obtain⟨x,hx,h⟩:=h
 rcases List.mem_append.1 hx with hx|hx
 ·exact .inr ⟨x,hx,h⟩
 ·obtain rfl:=List.mem_singleton.1 hx
  exact .inl h
theorem xJ:Body P 27:=aw Tryz.func27 (c:=code Tryz.f27) rfl (by decide)
theorem B4 {b:B5}(h:aD b.1∧aD b.2.1∧aD b.2.2.1∧aD b.2.2.2.1∧aD b.2.2.2.2){k:Nat}:jq k (a_ b):=λi hi=>⟨rfl,by
 obtain⟨h0,h1,h2,h3,h4⟩:=h
 have key:aD (eg b i):=by
  unfold eg
  split<;>assumption
 show sm (eg b i)
 unfold aD at key
 unfold sm
 omega⟩
theorem rO:aD 0:=by unfold aD;omega
theorem acB {p:aB}(hp:eo p){n:Nat}{l:Nat→Int × Int}{a0 a1 a2 a3 a4:Int}(o0:aD a0)(o1:aD a1)(o2:aD a2)(o3:aD a3)(o4:aD a4){L:List En}{T:List B5}(hT:L.map (·.2.2)++[(a0,a1,a2,a3,a4)]=T)(hN:T.length≤900000){Rv:SV→List (Nat × HB)→Nat→Prop}{Rp:List PanicEntry→List (Nat × HB)→Nat→Prop}
  (aY:∀L':List En,L'.map (·.2.2)=T→Rv (.sl 5) (fH L' n l) 6):bG P 27 [.agg (bR 0 p),.sl 1,.sl 2] (fA 5 (a0,a1,a2,a3,a4) L n l) 4 Rv Rp:=by
 have g:=sO ah
 have hN:L.length≤900000:=by
  rw[←hT] at hN
  simp only[List.length_append,List.length_map] at hN
  omega
 refine xX 2 [.agg (bR 0 p),.sl 1,.sl 4] rfl rfl Q2 rfl ?_
 refine eI (ι:=Addr × Nat) g.ok Tryz.func27 (c:=code Tryz.f27) rfl (Nat.le_of_ble_eq_true rfl) (λ_=>.sl 5) (λx=>fH (L++[(x.1,x.2,(a0,a1,a2,a3,a4))]) n l) 6 (λG hG=>?_) (λx=>aY _ (by rw[←hT];simp))
 refine Br.mk (λ_=>?_) (λh=>by cases h)
 refine WB 1 3 [] [6] (g.ok _ _ _) aj rfl ⟨rfl,by decide,λi hi=>rfl,rfl,rfl,by decide,λad c=>?_⟩
 refine mQ (Te:=0) 4 6 L.length 1 (oG L) _ (oG (L++[(ad,c,(a0,a1,a2,a3,a4))])) (g.ok _ _ _) aj rfl rfl rfl rfl rfl rfl rfl rfl rfl rfl rfl rfl (by decide) (by decide) rfl rfl rfl rfl (by omega) ?_ ?_
 ·intro i hi
  rw[RB hi]
  split
  ·rfl
  ·have e:i-L.length=0:=by omega
   rw[e];rfl
 refine⟨(ad,c),(λj=>match j with|5=>7|j=>j),?_,?_,rfl,rfl,rfl,rfl⟩<;>repeat' (first|exact trivial|exact rfl|(intro i hi;exact⟨rfl,rfl⟩)|refine And.intro ?_ ?_)
 ·show L.length+1=(L++[_]).length
  simp
 ·intro v m g h
  exact N8 h
theorem On {p:aB}{a0 a1 a2 a3 kv:Int}:iD (bc (a_ (a0,a1,a2,a3,kv))) 4 p.st=gR p.st a0 a1 a2 a3 kv 4:=by
 simp[iD,List.range_succ,pL,p_,cN,gR,bc,a_,iC,eg,Bool.and_assoc]
theorem acA {p:aB}(hp:eo p){n:Nat}{l:Nat→Int × Int}{a0 a1 a2 a3:Int}(o0:aD a0)(o1:aD a1)(o2:aD a2)(o3:aD a3){L:List En}{T:List B5}(hT:L.map (·.2.2)++q_ p a0 a1 a2 a3=T)(hN:T.length≤900000){Rv:SV→List (Nat × HB)→Nat→Prop}{Rp:List PanicEntry→List (Nat × HB)→Nat→Prop}
  (aY:∀L':List En,L'.map (·.2.2)=T→Rv (.sl 5) (fH L' n l) 6):bG P 27 [.agg (bR 0 p),.sl 1,.sl 2] (fA 4 (a0,a1,a2,a3,0) L n l) 4 Rv Rp:=by
 have g:=sO ah
 have hT:L.map (·.2.2)++((cx p.l4 p.h4).filter (λkv=>gR p.st a0 a1 a2 a3 kv 4)).flatMap (λk=>[(a0,a1,a2,a3,k)])=T:=by
  rw[←hT]
  rw[q_]
  congr 1
  exact List.map_eq_flatMap.symm
 have hb:-20≤p.l4∧p.h4≤20:=by
  unfold eo at hp
  omega
 refine xX 2 [.agg (bR 0 p),.sl 1,.sl 4] rfl rfl Q2 rfl ?_
 refine eI (ι:={L':List En // L'.map (·.2.2)=T}) g.ok Tryz.func27 (c:=code Tryz.f27) rfl (Nat.le_of_ble_eq_true rfl) (λ_=>.sl 5) (λx=>fH x.1 n l) 6 (λG hG=>?_) (λx=>aY x.1 x.2)
 refine Br.mk (λh=>by cases h) (λ_=>?_)
 refine aa.mk (show(0:Int)≤4∧(4:Int)<5 from⟨by omega,by omega⟩) ?_
 refine cm (g.ok _ _ _) 5 (λx:{x:Int × List En // -20≤x.1∧x.2.map (·.2.2)++((cx x.1 p.h4).filter (λkv=>gR p.st a0 a1 a2 a3 kv 4)).flatMap (λk=>[(a0,a1,a2,a3,k)])=T}=>⟨[(1,⟨[],.sl 1⟩),(2,⟨[],.sl 6⟩),(3,⟨[],.sp 5 0⟩),(7,⟨[],.si .i64 4⟩),(8,⟨[],.si .i64 x.1.1⟩)],[],
  [(6,.vec 24 1 x.1.2.length (oG x.1.2)),(5,.cells 40 (bR 0 p)),(3,.ax 1 (js x.1.2)),(2,.dead),(1,.vec 3 1 4 (a_ (a0,a1,a2,a3,0))),(0,.ro 2 n λi=>az (l i))],7,[]⟩) (λx=>(p.h4+1-x.1.1).toNat) hG ⟨(p.l4,L),hb.1,hT⟩ (λj=>match j with|6=>4|j=>j) ?_ ?_
 ·refine⟨?_,?_,rfl,rfl,rfl,rfl,trivial⟩<;>exact Q5
 rintro⟨⟨kv,L1⟩,k7,hinv⟩
 refine aa.mk (show(0:Int)≤4∧(4:Int)<5 from⟨by omega,by omega⟩) ?_
 refine Br.mk (λh=>?_) (λh=>?_)
 ·have h:kv≤p.h4:=of_decide_eq_true h
  have ap:aD kv:=⟨k7,by omega⟩
  have Ey:L1.length≤900000:=by
   have:=congrArg List.length hinv
   simp only[List.length_append,List.length_map] at this
   omega
  have hinv:L1.map (·.2.2)++((cx kv p.h4).filter (λkv=>gR p.st a0 a1 a2 a3 kv 4)).flatMap (λk=>[(a0,a1,a2,a3,k)])=T:=hinv
  rw[rR h,List.filter_cons] at hinv
  refine vS 7 1 4 (a_ (a0,a1,a2,a3,0)) (g.ok _ _ _) aj rfl rfl rfl rfl rfl rfl rfl rfl rfl rfl rfl rfl (by decide) (by decide) rfl rfl rfl rfl (by decide) (by decide) ?_
  refine mQ (Te:=0) 8 9 4 1 (a_ (a0,a1,a2,a3,0)) _ (a_ (a0,a1,a2,a3,kv)) (g.ok _ _ _) aj rfl rfl rfl rfl rfl rfl rfl rfl rfl rfl rfl rfl (by decide) (by decide) rfl rfl rfl rfl (by decide) ?_ ?_
  ·intro i hi
   split
   ·have:i=0∨i=1∨i=2∨i=3:=by omega
    rcases this with rfl|rfl|rfl|rfl<;>first|rfl|omega
   ·have e1:i-4=0:=by omega
    have e2:i=4:=by omega
    rw[e1,e2];rfl
  refine aa.mk (show jq 5 (a_ (a0,a1,a2,a3,kv))∧1≤5∧5≤5 from⟨B4 ⟨o0,o1,o2,o3,ap⟩,by decide,by decide⟩) ?_
  refine Br.mk (λh2=>?_) (λh2=>?_)
  ·have h2:iD (bc (a_ (a0,a1,a2,a3,kv))) 4 p.st=true:=h2
   rw[On] at h2
   rw[if_pos h2,List.flatMap_cons,←List.append_assoc] at hinv
   refine av (g.ok _ _ _) aj rfl rfl rfl rfl ⟨xJ,?_⟩
   refine aO [.agg (bR 0 p),.sl 1,.sl 2] (fA 5 (a0,a1,a2,a3,kv) L1 n l) 4 (λj=>match j with|1=>10|2=>6|j=>j) Q2 rfl Q5 rfl rfl ?_
   refine acB hp o0 o1 o2 o3 ap rfl (by
    have:=congrArg List.length hinv
    simp only[List.length_append] at this ⊢
    omega) (λL2 qs=>⟨rfl,?_,?_,?_⟩)
   ·exact Q2
   ·exact Q0
   refine aa.mk (show ae .i64 (kv+1) from⟨by omega,by omega⟩) ⟨⟨(kv+1,L2),by omega,by rw[qs];exact hinv⟩,(λj=>match j with|6=>12|j=>j),?_,by show(p.h4+1-(kv+1)).toNat<(p.h4+1-kv).toNat;omega⟩
   refine⟨?_,?_,rfl,rfl,rfl,rfl,trivial⟩<;>exact Q5
  ·have h2:iD (bc (a_ (a0,a1,a2,a3,kv))) 4 p.st=false:=h2
   rw[On] at h2
   rw[if_neg (by rw[h2];decide)] at hinv
   refine aa.mk (show ae .i64 (kv+1) from⟨by omega,by omega⟩) ⟨⟨(kv+1,L1),by omega,hinv⟩,(λj=>j),?_,by show(p.h4+1-(kv+1)).toNat<(p.h4+1-kv).toNat;omega⟩
   refine⟨?_,?_,rfl,rfl,rfl,rfl,trivial⟩<;>exact Q5
 ·have h:¬kv≤p.h4:=of_decide_eq_false h
  have hinv:L1.map (·.2.2)++((cx kv p.h4).filter (λkv=>gR p.st a0 a1 a2 a3 kv 4)).flatMap (λk=>[(a0,a1,a2,a3,k)])=T:=hinv
  rw[rS (by omega),List.filter_nil,List.flatMap_nil,List.append_nil] at hinv
  refine⟨⟨L1,hinv⟩,(λj=>match j with|5=>6|j=>j),?_,?_,rfl,rfl,rfl,rfl⟩<;>exact Q5
theorem Om {p:aB}{a0 a1 a2 kv:Int}:iD (bc (a_ (a0,a1,a2,kv,0))) 3 p.st=ik p.st a0 a1 a2 kv 3:=by
 simp[iD,List.range_succ,pL,p_,cN,ik,bc,a_,iC,eg,Bool.and_assoc]
theorem acz {p:aB}(hp:eo p){n:Nat}{l:Nat→Int × Int}{a0 a1 a2:Int}(o0:aD a0)(o1:aD a1)(o2:aD a2){L:List En}{T:List B5}(hT:L.map (·.2.2)++sw p a0 a1 a2=T)(hN:T.length≤900000){Rv:SV→List (Nat × HB)→Nat→Prop}{Rp:List PanicEntry→List (Nat × HB)→Nat→Prop}
  (aY:∀L':List En,L'.map (·.2.2)=T→Rv (.sl 5) (fH L' n l) 6):bG P 27 [.agg (bR 0 p),.sl 1,.sl 2] (fA 3 (a0,a1,a2,0,0) L n l) 4 Rv Rp:=by
 have g:=sO ah
 have hT:L.map (·.2.2)++((cx p.l3 p.h3).filter (λkv=>ik p.st a0 a1 a2 kv 3)).flatMap (λk=>q_ p a0 a1 a2 k)=T:=by
  rw[←hT]
  rfl
 have hb:-20≤p.l3∧p.h3≤20:=by
  unfold eo at hp
  omega
 refine xX 2 [.agg (bR 0 p),.sl 1,.sl 4] rfl rfl Q2 rfl ?_
 refine eI (ι:={L':List En // L'.map (·.2.2)=T}) g.ok Tryz.func27 (c:=code Tryz.f27) rfl (Nat.le_of_ble_eq_true rfl) (λ_=>.sl 5) (λx=>fH x.1 n l) 6 (λG hG=>?_) (λx=>aY x.1 x.2)
 refine Br.mk (λh=>by cases h) (λ_=>?_)
 refine aa.mk (show(0:Int)≤3∧(3:Int)<5 from⟨by omega,by omega⟩) ?_
 refine cm (g.ok _ _ _) 5 (λx:{x:Int × List En // -20≤x.1∧x.2.map (·.2.2)++((cx x.1 p.h3).filter (λkv=>ik p.st a0 a1 a2 kv 3)).flatMap (λk=>q_ p a0 a1 a2 k)=T}=>⟨[(1,⟨[],.sl 1⟩),(2,⟨[],.sl 6⟩),(3,⟨[],.sp 5 0⟩),(7,⟨[],.si .i64 3⟩),(8,⟨[],.si .i64 x.1.1⟩)],[],
  [(6,.vec 24 1 x.1.2.length (oG x.1.2)),(5,.cells 40 (bR 0 p)),(3,.ax 1 (js x.1.2)),(2,.dead),(1,.vec 3 1 3 (a_ (a0,a1,a2,0,0))),(0,.ro 2 n λi=>az (l i))],7,[]⟩) (λx=>(p.h3+1-x.1.1).toNat) hG ⟨(p.l3,L),hb.1,hT⟩ (λj=>match j with|6=>4|j=>j) ?_ ?_
 ·refine⟨?_,?_,rfl,rfl,rfl,rfl,trivial⟩<;>exact Q5
 rintro⟨⟨kv,L1⟩,k7,hinv⟩
 refine aa.mk (show(0:Int)≤3∧(3:Int)<5 from⟨by omega,by omega⟩) ?_
 refine Br.mk (λh=>?_) (λh=>?_)
 ·have h:kv≤p.h3:=of_decide_eq_true h
  have ap:aD kv:=⟨k7,by omega⟩
  have Ey:L1.length≤900000:=by
   have:=congrArg List.length hinv
   simp only[List.length_append,List.length_map] at this
   omega
  have hinv:L1.map (·.2.2)++((cx kv p.h3).filter (λkv=>ik p.st a0 a1 a2 kv 3)).flatMap (λk=>q_ p a0 a1 a2 k)=T:=hinv
  rw[rR h,List.filter_cons] at hinv
  refine vS 7 1 3 (a_ (a0,a1,a2,0,0)) (g.ok _ _ _) aj rfl rfl rfl rfl rfl rfl rfl rfl rfl rfl rfl rfl (by decide) (by decide) rfl rfl rfl rfl (by decide) (by decide) ?_
  refine mQ (Te:=0) 8 9 3 1 (a_ (a0,a1,a2,0,0)) _ (a_ (a0,a1,a2,kv,0)) (g.ok _ _ _) aj rfl rfl rfl rfl rfl rfl rfl rfl rfl rfl rfl rfl (by decide) (by decide) rfl rfl rfl rfl (by decide) ?_ ?_
  ·intro i hi
   split
   ·have:i=0∨i=1∨i=2∨i=3:=by omega
    rcases this with rfl|rfl|rfl|rfl<;>first|rfl|omega
   ·have e1:i-3=0:=by omega
    have e2:i=3:=by omega
    rw[e1,e2];rfl
  refine aa.mk (show jq 4 (a_ (a0,a1,a2,kv,0))∧1≤4∧4≤5 from⟨B4 ⟨o0,o1,o2,ap,rO⟩,by decide,by decide⟩) ?_
  refine Br.mk (λh2=>?_) (λh2=>?_)
  ·have h2:iD (bc (a_ (a0,a1,a2,kv,0))) 3 p.st=true:=h2
   rw[Om] at h2
   rw[if_pos h2,List.flatMap_cons,←List.append_assoc] at hinv
   refine av (g.ok _ _ _) aj rfl rfl rfl rfl ⟨xJ,?_⟩
   refine aO [.agg (bR 0 p),.sl 1,.sl 2] (fA 4 (a0,a1,a2,kv,0) L1 n l) 4 (λj=>match j with|1=>10|2=>6|j=>j) Q2 rfl Q5 rfl rfl ?_
   refine acA hp o0 o1 o2 ap rfl (by
    have:=congrArg List.length hinv
    simp only[List.length_append] at this ⊢
    omega) (λL2 qs=>⟨rfl,?_,?_,?_⟩)
   ·exact Q2
   ·exact Q0
   refine aa.mk (show ae .i64 (kv+1) from⟨by omega,by omega⟩) ⟨⟨(kv+1,L2),by omega,by rw[qs];exact hinv⟩,(λj=>match j with|6=>12|j=>j),?_,by show(p.h3+1-(kv+1)).toNat<(p.h3+1-kv).toNat;omega⟩
   refine⟨?_,?_,rfl,rfl,rfl,rfl,trivial⟩<;>exact Q5
  ·have h2:iD (bc (a_ (a0,a1,a2,kv,0))) 3 p.st=false:=h2
   rw[Om] at h2
   rw[if_neg (by rw[h2];decide)] at hinv
   refine aa.mk (show ae .i64 (kv+1) from⟨by omega,by omega⟩) ⟨⟨(kv+1,L1),by omega,hinv⟩,(λj=>j),?_,by show(p.h3+1-(kv+1)).toNat<(p.h3+1-kv).toNat;omega⟩
   refine⟨?_,?_,rfl,rfl,rfl,rfl,trivial⟩<;>exact Q5
 ·have h:¬kv≤p.h3:=of_decide_eq_false h
  have hinv:L1.map (·.2.2)++((cx kv p.h3).filter (λkv=>ik p.st a0 a1 a2 kv 3)).flatMap (λk=>q_ p a0 a1 a2 k)=T:=hinv
  rw[rS (by omega),List.filter_nil,List.flatMap_nil,List.append_nil] at hinv
  refine⟨⟨L1,hinv⟩,(λj=>match j with|5=>6|j=>j),?_,?_,rfl,rfl,rfl,rfl⟩<;>exact Q5
theorem Ol {p:aB}{a0 a1 kv:Int}:iD (bc (a_ (a0,a1,kv,0,0))) 2 p.st=iE p.st a0 a1 kv 2:=by
 simp[iD,List.range_succ,pL,p_,cN,iE,bc,a_,iC,eg,Bool.and_assoc]
theorem acy {p:aB}(hp:eo p){n:Nat}{l:Nat→Int × Int}{a0 a1:Int}(o0:aD a0)(o1:aD a1){L:List En}{T:List B5}(hT:L.map (·.2.2)++sr p a0 a1=T)(hN:T.length≤900000){Rv:SV→List (Nat × HB)→Nat→Prop}{Rp:List PanicEntry→List (Nat × HB)→Nat→Prop}
  (aY:∀L':List En,L'.map (·.2.2)=T→Rv (.sl 5) (fH L' n l) 6):bG P 27 [.agg (bR 0 p),.sl 1,.sl 2] (fA 2 (a0,a1,0,0,0) L n l) 4 Rv Rp:=by
 have g:=sO ah
 have hT:L.map (·.2.2)++((cx p.l2 p.h2).filter (λkv=>iE p.st a0 a1 kv 2)).flatMap (λk=>sw p a0 a1 k)=T:=by
  rw[←hT]
  rfl
 have hb:-20≤p.l2∧p.h2≤20:=by
  unfold eo at hp
  omega
 refine xX 2 [.agg (bR 0 p),.sl 1,.sl 4] rfl rfl Q2 rfl ?_
 refine eI (ι:={L':List En // L'.map (·.2.2)=T}) g.ok Tryz.func27 (c:=code Tryz.f27) rfl (Nat.le_of_ble_eq_true rfl) (λ_=>.sl 5) (λx=>fH x.1 n l) 6 (λG hG=>?_) (λx=>aY x.1 x.2)
 refine Br.mk (λh=>by cases h) (λ_=>?_)
 refine aa.mk (show(0:Int)≤2∧(2:Int)<5 from⟨by omega,by omega⟩) ?_
 refine cm (g.ok _ _ _) 5 (λx:{x:Int × List En // -20≤x.1∧x.2.map (·.2.2)++((cx x.1 p.h2).filter (λkv=>iE p.st a0 a1 kv 2)).flatMap (λk=>sw p a0 a1 k)=T}=>⟨[(1,⟨[],.sl 1⟩),(2,⟨[],.sl 6⟩),(3,⟨[],.sp 5 0⟩),(7,⟨[],.si .i64 2⟩),(8,⟨[],.si .i64 x.1.1⟩)],[],
  [(6,.vec 24 1 x.1.2.length (oG x.1.2)),(5,.cells 40 (bR 0 p)),(3,.ax 1 (js x.1.2)),(2,.dead),(1,.vec 3 1 2 (a_ (a0,a1,0,0,0))),(0,.ro 2 n λi=>az (l i))],7,[]⟩) (λx=>(p.h2+1-x.1.1).toNat) hG ⟨(p.l2,L),hb.1,hT⟩ (λj=>match j with|6=>4|j=>j) ?_ ?_
 ·refine⟨?_,?_,rfl,rfl,rfl,rfl,trivial⟩<;>exact Q5
 rintro⟨⟨kv,L1⟩,k7,hinv⟩
 refine aa.mk (show(0:Int)≤2∧(2:Int)<5 from⟨by omega,by omega⟩) ?_
 refine Br.mk (λh=>?_) (λh=>?_)
 ·have h:kv≤p.h2:=of_decide_eq_true h
  have ap:aD kv:=⟨k7,by omega⟩
  have Ey:L1.length≤900000:=by
   have:=congrArg List.length hinv
   simp only[List.length_append,List.length_map] at this
   omega
  have hinv:L1.map (·.2.2)++((cx kv p.h2).filter (λkv=>iE p.st a0 a1 kv 2)).flatMap (λk=>sw p a0 a1 k)=T:=hinv
  rw[rR h,List.filter_cons] at hinv
  refine vS 7 1 2 (a_ (a0,a1,0,0,0)) (g.ok _ _ _) aj rfl rfl rfl rfl rfl rfl rfl rfl rfl rfl rfl rfl (by decide) (by decide) rfl rfl rfl rfl (by decide) (by decide) ?_
  refine mQ (Te:=0) 8 9 2 1 (a_ (a0,a1,0,0,0)) _ (a_ (a0,a1,kv,0,0)) (g.ok _ _ _) aj rfl rfl rfl rfl rfl rfl rfl rfl rfl rfl rfl rfl (by decide) (by decide) rfl rfl rfl rfl (by decide) ?_ ?_
  ·intro i hi
   split
   ·have:i=0∨i=1∨i=2∨i=3:=by omega
    rcases this with rfl|rfl|rfl|rfl<;>first|rfl|omega
   ·have e1:i-2=0:=by omega
    have e2:i=2:=by omega
    rw[e1,e2];rfl
  refine aa.mk (show jq 3 (a_ (a0,a1,kv,0,0))∧1≤3∧3≤5 from⟨B4 ⟨o0,o1,ap,rO,rO⟩,by decide,by decide⟩) ?_
  refine Br.mk (λh2=>?_) (λh2=>?_)
  ·have h2:iD (bc (a_ (a0,a1,kv,0,0))) 2 p.st=true:=h2
   rw[Ol] at h2
   rw[if_pos h2,List.flatMap_cons,←List.append_assoc] at hinv
   refine av (g.ok _ _ _) aj rfl rfl rfl rfl ⟨xJ,?_⟩
   refine aO [.agg (bR 0 p),.sl 1,.sl 2] (fA 3 (a0,a1,kv,0,0) L1 n l) 4 (λj=>match j with|1=>10|2=>6|j=>j) Q2 rfl Q5 rfl rfl ?_
   refine acz hp o0 o1 ap rfl (by
    have:=congrArg List.length hinv
    simp only[List.length_append] at this ⊢
    omega) (λL2 qs=>⟨rfl,?_,?_,?_⟩)
   ·exact Q2
   ·exact Q0
   refine aa.mk (show ae .i64 (kv+1) from⟨by omega,by omega⟩) ⟨⟨(kv+1,L2),by omega,by rw[qs];exact hinv⟩,(λj=>match j with|6=>12|j=>j),?_,by show(p.h2+1-(kv+1)).toNat<(p.h2+1-kv).toNat;omega⟩
   refine⟨?_,?_,rfl,rfl,rfl,rfl,trivial⟩<;>exact Q5
  ·have h2:iD (bc (a_ (a0,a1,kv,0,0))) 2 p.st=false:=h2
   rw[Ol] at h2
   rw[if_neg (by rw[h2];decide)] at hinv
   refine aa.mk (show ae .i64 (kv+1) from⟨by omega,by omega⟩) ⟨⟨(kv+1,L1),by omega,hinv⟩,(λj=>j),?_,by show(p.h2+1-(kv+1)).toNat<(p.h2+1-kv).toNat;omega⟩
   refine⟨?_,?_,rfl,rfl,rfl,rfl,trivial⟩<;>exact Q5
 ·have h:¬kv≤p.h2:=of_decide_eq_false h
  have hinv:L1.map (·.2.2)++((cx kv p.h2).filter (λkv=>iE p.st a0 a1 kv 2)).flatMap (λk=>sw p a0 a1 k)=T:=hinv
  rw[rS (by omega),List.filter_nil,List.flatMap_nil,List.append_nil] at hinv
  refine⟨⟨L1,hinv⟩,(λj=>match j with|5=>6|j=>j),?_,?_,rfl,rfl,rfl,rfl⟩<;>exact Q5
theorem Oj {p:aB}{a0 kv:Int}:iD (bc (a_ (a0,kv,0,0,0))) 1 p.st=jQ p.st a0 kv 1:=by
 simp[iD,List.range_succ,pL,p_,cN,jQ,bc,a_,iC,eg,Bool.and_assoc]
theorem acx {p:aB}(hp:eo p){n:Nat}{l:Nat→Int × Int}{a0:Int}(o0:aD a0){L:List En}{T:List B5}(hT:L.map (·.2.2)++sq p a0=T)(hN:T.length≤900000){Rv:SV→List (Nat × HB)→Nat→Prop}{Rp:List PanicEntry→List (Nat × HB)→Nat→Prop}
  (aY:∀L':List En,L'.map (·.2.2)=T→Rv (.sl 5) (fH L' n l) 6):bG P 27 [.agg (bR 0 p),.sl 1,.sl 2] (fA 1 (a0,0,0,0,0) L n l) 4 Rv Rp:=by
 have g:=sO ah
 have hT:L.map (·.2.2)++((cx p.l1 p.h1).filter (λkv=>jQ p.st a0 kv 1)).flatMap (λk=>sr p a0 k)=T:=by
  rw[←hT]
  rfl
 have hb:-20≤p.l1∧p.h1≤20:=by
  unfold eo at hp
  omega
 refine xX 2 [.agg (bR 0 p),.sl 1,.sl 4] rfl rfl Q2 rfl ?_
 refine eI (ι:={L':List En // L'.map (·.2.2)=T}) g.ok Tryz.func27 (c:=code Tryz.f27) rfl (Nat.le_of_ble_eq_true rfl) (λ_=>.sl 5) (λx=>fH x.1 n l) 6 (λG hG=>?_) (λx=>aY x.1 x.2)
 refine Br.mk (λh=>by cases h) (λ_=>?_)
 refine aa.mk (show(0:Int)≤1∧(1:Int)<5 from⟨by omega,by omega⟩) ?_
 refine cm (g.ok _ _ _) 5 (λx:{x:Int × List En // -20≤x.1∧x.2.map (·.2.2)++((cx x.1 p.h1).filter (λkv=>jQ p.st a0 kv 1)).flatMap (λk=>sr p a0 k)=T}=>⟨[(1,⟨[],.sl 1⟩),(2,⟨[],.sl 6⟩),(3,⟨[],.sp 5 0⟩),(7,⟨[],.si .i64 1⟩),(8,⟨[],.si .i64 x.1.1⟩)],[],
  [(6,.vec 24 1 x.1.2.length (oG x.1.2)),(5,.cells 40 (bR 0 p)),(3,.ax 1 (js x.1.2)),(2,.dead),(1,.vec 3 1 1 (a_ (a0,0,0,0,0))),(0,.ro 2 n λi=>az (l i))],7,[]⟩) (λx=>(p.h1+1-x.1.1).toNat) hG ⟨(p.l1,L),hb.1,hT⟩ (λj=>match j with|6=>4|j=>j) ?_ ?_
 ·refine⟨?_,?_,rfl,rfl,rfl,rfl,trivial⟩<;>exact Q5
 rintro⟨⟨kv,L1⟩,k7,hinv⟩
 refine aa.mk (show(0:Int)≤1∧(1:Int)<5 from⟨by omega,by omega⟩) ?_
 refine Br.mk (λh=>?_) (λh=>?_)
 ·have h:kv≤p.h1:=of_decide_eq_true h
  have ap:aD kv:=⟨k7,by omega⟩
  have Ey:L1.length≤900000:=by
   have:=congrArg List.length hinv
   simp only[List.length_append,List.length_map] at this
   omega
  have hinv:L1.map (·.2.2)++((cx kv p.h1).filter (λkv=>jQ p.st a0 kv 1)).flatMap (λk=>sr p a0 k)=T:=hinv
  rw[rR h,List.filter_cons] at hinv
  refine vS 7 1 1 (a_ (a0,0,0,0,0)) (g.ok _ _ _) aj rfl rfl rfl rfl rfl rfl rfl rfl rfl rfl rfl rfl (by decide) (by decide) rfl rfl rfl rfl (by decide) (by decide) ?_
  refine mQ (Te:=0) 8 9 1 1 (a_ (a0,0,0,0,0)) _ (a_ (a0,kv,0,0,0)) (g.ok _ _ _) aj rfl rfl rfl rfl rfl rfl rfl rfl rfl rfl rfl rfl (by decide) (by decide) rfl rfl rfl rfl (by decide) ?_ ?_
  ·intro i hi
   split
   ·have:i=0∨i=1∨i=2∨i=3:=by omega
    rcases this with rfl|rfl|rfl|rfl<;>first|rfl|omega
   ·have e1:i-1=0:=by omega
    have e2:i=1:=by omega
    rw[e1,e2];rfl
  refine aa.mk (show jq 2 (a_ (a0,kv,0,0,0))∧1≤2∧2≤5 from⟨B4 ⟨o0,ap,rO,rO,rO⟩,by decide,by decide⟩) ?_
  refine Br.mk (λh2=>?_) (λh2=>?_)
  ·have h2:iD (bc (a_ (a0,kv,0,0,0))) 1 p.st=true:=h2
   rw[Oj] at h2
   rw[if_pos h2,List.flatMap_cons,←List.append_assoc] at hinv
   refine av (g.ok _ _ _) aj rfl rfl rfl rfl ⟨xJ,?_⟩
   refine aO [.agg (bR 0 p),.sl 1,.sl 2] (fA 2 (a0,kv,0,0,0) L1 n l) 4 (λj=>match j with|1=>10|2=>6|j=>j) Q2 rfl Q5 rfl rfl ?_
   refine acy hp o0 ap rfl (by
    have:=congrArg List.length hinv
    simp only[List.length_append] at this ⊢
    omega) (λL2 qs=>⟨rfl,?_,?_,?_⟩)
   ·exact Q2
   ·exact Q0
   refine aa.mk (show ae .i64 (kv+1) from⟨by omega,by omega⟩) ⟨⟨(kv+1,L2),by omega,by rw[qs];exact hinv⟩,(λj=>match j with|6=>12|j=>j),?_,by show(p.h1+1-(kv+1)).toNat<(p.h1+1-kv).toNat;omega⟩
   refine⟨?_,?_,rfl,rfl,rfl,rfl,trivial⟩<;>exact Q5
  ·have h2:iD (bc (a_ (a0,kv,0,0,0))) 1 p.st=false:=h2
   rw[Oj] at h2
   rw[if_neg (by rw[h2];decide)] at hinv
   refine aa.mk (show ae .i64 (kv+1) from⟨by omega,by omega⟩) ⟨⟨(kv+1,L1),by omega,hinv⟩,(λj=>j),?_,by show(p.h1+1-(kv+1)).toNat<(p.h1+1-kv).toNat;omega⟩
   refine⟨?_,?_,rfl,rfl,rfl,rfl,trivial⟩<;>exact Q5
 ·have h:¬kv≤p.h1:=of_decide_eq_false h
  have hinv:L1.map (·.2.2)++((cx kv p.h1).filter (λkv=>jQ p.st a0 kv 1)).flatMap (λk=>sr p a0 k)=T:=hinv
  rw[rS (by omega),List.filter_nil,List.flatMap_nil,List.append_nil] at hinv
  refine⟨⟨L1,hinv⟩,(λj=>match j with|5=>6|j=>j),?_,?_,rfl,rfl,rfl,rfl⟩<;>exact Q5
theorem Oi {p:aB}{kv:Int}:iD (bc (a_ (kv,0,0,0,0))) 0 p.st=l7 p.st kv 0:=by
 simp[iD,List.range_succ,pL,p_,cN,l7,bc,a_,iC,eg,Bool.and_assoc]
theorem acw {p:aB}(hp:eo p){n:Nat}{l:Nat→Int × Int}  {L:List En}{T:List B5}(hT:L.map (·.2.2)++bO p=T)(hN:T.length≤900000){Rv:SV→List (Nat × HB)→Nat→Prop}{Rp:List PanicEntry→List (Nat × HB)→Nat→Prop}
  (aY:∀L':List En,L'.map (·.2.2)=T→Rv (.sl 5) (fH L' n l) 6):bG P 27 [.agg (bR 0 p),.sl 1,.sl 2] (fA 0 (0,0,0,0,0) L n l) 4 Rv Rp:=by
 have g:=sO ah
 have hT:L.map (·.2.2)++((cx p.l0 p.h0).filter (λkv=>l7 p.st kv 0)).flatMap (λk=>sq p k)=T:=by
  rw[←hT]
  rfl
 have hb:-20≤p.l0∧p.h0≤20:=by
  unfold eo at hp
  omega
 refine xX 2 [.agg (bR 0 p),.sl 1,.sl 4] rfl rfl Q2 rfl ?_
 refine eI (ι:={L':List En // L'.map (·.2.2)=T}) g.ok Tryz.func27 (c:=code Tryz.f27) rfl (Nat.le_of_ble_eq_true rfl) (λ_=>.sl 5) (λx=>fH x.1 n l) 6 (λG hG=>?_) (λx=>aY x.1 x.2)
 refine Br.mk (λh=>by cases h) (λ_=>?_)
 refine aa.mk (show(0:Int)≤0∧(0:Int)<5 from⟨by omega,by omega⟩) ?_
 refine cm (g.ok _ _ _) 5 (λx:{x:Int × List En // -20≤x.1∧x.2.map (·.2.2)++((cx x.1 p.h0).filter (λkv=>l7 p.st kv 0)).flatMap (λk=>sq p k)=T}=>⟨[(1,⟨[],.sl 1⟩),(2,⟨[],.sl 6⟩),(3,⟨[],.sp 5 0⟩),(7,⟨[],.si .i64 0⟩),(8,⟨[],.si .i64 x.1.1⟩)],[],
  [(6,.vec 24 1 x.1.2.length (oG x.1.2)),(5,.cells 40 (bR 0 p)),(3,.ax 1 (js x.1.2)),(2,.dead),(1,.vec 3 1 0 (a_ (0,0,0,0,0))),(0,.ro 2 n λi=>az (l i))],7,[]⟩) (λx=>(p.h0+1-x.1.1).toNat) hG ⟨(p.l0,L),hb.1,hT⟩ (λj=>match j with|6=>4|j=>j) ?_ ?_
 ·refine⟨?_,?_,rfl,rfl,rfl,rfl,trivial⟩<;>exact Q5
 rintro⟨⟨kv,L1⟩,k7,hinv⟩
 refine aa.mk (show(0:Int)≤0∧(0:Int)<5 from⟨by omega,by omega⟩) ?_
 refine Br.mk (λh=>?_) (λh=>?_)
 ·have h:kv≤p.h0:=of_decide_eq_true h
  have ap:aD kv:=⟨k7,by omega⟩
  have Ey:L1.length≤900000:=by
   have:=congrArg List.length hinv
   simp only[List.length_append,List.length_map] at this
   omega
  have hinv:L1.map (·.2.2)++((cx kv p.h0).filter (λkv=>l7 p.st kv 0)).flatMap (λk=>sq p k)=T:=hinv
  rw[rR h,List.filter_cons] at hinv
  refine vS 7 1 0 (a_ (0,0,0,0,0)) (g.ok _ _ _) aj rfl rfl rfl rfl rfl rfl rfl rfl rfl rfl rfl rfl (by decide) (by decide) rfl rfl rfl rfl (by decide) (by decide) ?_
  refine mQ (Te:=0) 8 9 0 1 (a_ (0,0,0,0,0)) _ (a_ (kv,0,0,0,0)) (g.ok _ _ _) aj rfl rfl rfl rfl rfl rfl rfl rfl rfl rfl rfl rfl (by decide) (by decide) rfl rfl rfl rfl (by decide) ?_ ?_
  ·intro i hi
   split
   ·omega
   ·have e1:i-0=0:=by omega
    have e2:i=0:=by omega
    rw[e1,e2];rfl
  refine aa.mk (show jq 1 (a_ (kv,0,0,0,0))∧1≤1∧1≤5 from⟨B4 ⟨ap,rO,rO,rO,rO⟩,by decide,by decide⟩) ?_
  refine Br.mk (λh2=>?_) (λh2=>?_)
  ·have h2:iD (bc (a_ (kv,0,0,0,0))) 0 p.st=true:=h2
   rw[Oi] at h2
   rw[if_pos h2,List.flatMap_cons,←List.append_assoc] at hinv
   refine av (g.ok _ _ _) aj rfl rfl rfl rfl ⟨xJ,?_⟩
   refine aO [.agg (bR 0 p),.sl 1,.sl 2] (fA 1 (kv,0,0,0,0) L1 n l) 4 (λj=>match j with|1=>10|2=>6|j=>j) Q2 rfl Q5 rfl rfl ?_
   refine acx hp ap rfl (by
    have:=congrArg List.length hinv
    simp only[List.length_append] at this ⊢
    omega) (λL2 qs=>⟨rfl,?_,?_,?_⟩)
   ·exact Q2
   ·exact Q0
   refine aa.mk (show ae .i64 (kv+1) from⟨by omega,by omega⟩) ⟨⟨(kv+1,L2),by omega,by rw[qs];exact hinv⟩,(λj=>match j with|6=>12|j=>j),?_,by show(p.h0+1-(kv+1)).toNat<(p.h0+1-kv).toNat;omega⟩
   refine⟨?_,?_,rfl,rfl,rfl,rfl,trivial⟩<;>exact Q5
  ·have h2:iD (bc (a_ (kv,0,0,0,0))) 0 p.st=false:=h2
   rw[Oi] at h2
   rw[if_neg (by rw[h2];decide)] at hinv
   refine aa.mk (show ae .i64 (kv+1) from⟨by omega,by omega⟩) ⟨⟨(kv+1,L1),by omega,hinv⟩,(λj=>j),?_,by show(p.h0+1-(kv+1)).toNat<(p.h0+1-kv).toNat;omega⟩
   refine⟨?_,?_,rfl,rfl,rfl,rfl,trivial⟩<;>exact Q5
 ·have h:¬kv≤p.h0:=of_decide_eq_false h
  have hinv:L1.map (·.2.2)++((cx kv p.h0).filter (λkv=>l7 p.st kv 0)).flatMap (λk=>sq p k)=T:=hinv
  rw[rS (by omega),List.filter_nil,List.flatMap_nil,List.append_nil] at hinv
  refine⟨⟨L1,hinv⟩,(λj=>match j with|5=>6|j=>j),?_,?_,rfl,rfl,rfl,rfl⟩<;>exact Q5
theorem S':∀(n:Nat) (k:Int),(xq n k).length=n
 |0,_=>rfl
 |n+1,k=>by simp[xq,S' n]
theorem AT {α β:Type}{c:Nat}{f:α→List β}:∀{l:List α},(∀x,(f x).length≤c)→(l.flatMap f).length≤l.length*c
 |[],_=>by simp
 |x::r,h=>by
  have ih:=AT (l:=r) h
  have:=h x
  rw[List.flatMap_cons,List.length_append,List.length_cons,Nat.add_mul]
  omega
def narrow (g:aB):Prop:=g.h0-g.l0≤6∧g.h1-g.l1≤6∧g.h2-g.l2≤6∧g.h3-g.l3≤6∧g.h4-g.l4≤6
theorem CF {lo hi:Int}(h:hi-lo≤6)(p:Int→Bool):((cx lo hi).filter p).length≤7:=by
 have:=List.length_filter_le p (cx lo hi)
 unfold cx at this ⊢
 rw[S'] at this
 omega
theorem MT {g:aB}(h:narrow g):(bO g).length≤16807:=by
 obtain⟨h0,h1,h2,h3,h4⟩:=h
 have k4:∀a0 a1 a2 a3,(q_ g a0 a1 a2 a3).length≤7:=λa0 a1 a2 a3=>by
  unfold q_
  rw[List.length_map]
  exact CF h4 _
 have k3:∀a0 a1 a2,(sw g a0 a1 a2).length≤49:=λa0 a1 a2=>by
  have:=AT (c:=7) (l:=(cx g.l3 g.h3).filter λk=>ik g.st a0 a1 a2 k 3) (λk=>k4 a0 a1 a2 k)
  have h:=CF h3 (λk=>ik g.st a0 a1 a2 k 3)
  unfold sw
  exact Nat.le_trans this (Nat.mul_le_mul_right 7 h)
 have k2:∀a0 a1,(sr g a0 a1).length≤343:=λa0 a1=>by
  have:=AT (c:=49) (l:=(cx g.l2 g.h2).filter λk=>iE g.st a0 a1 k 2) (λk=>k3 a0 a1 k)
  have h:=CF h2 (λk=>iE g.st a0 a1 k 2)
  unfold sr
  exact Nat.le_trans this (Nat.mul_le_mul_right 49 h)
 have k1:∀a0,(sq g a0).length≤2401:=λa0=>by
  have:=AT (c:=343) (l:=(cx g.l1 g.h1).filter λk=>jQ g.st a0 k 1) (λk=>k2 a0 k)
  have h:=CF h1 (λk=>jQ g.st a0 k 1)
  unfold sq
  exact Nat.le_trans this (Nat.mul_le_mul_right 343 h)
 have:=AT (c:=2401) (l:=(cx g.l0 g.h0).filter λk=>l7 g.st k 0) (λk=>k1 k)
 have h:=CF h0 (λk=>l7 g.st k 0)
 unfold bO
 exact Nat.le_trans this (Nat.mul_le_mul_right 2401 h)
def tH (L:List En)(n:Nat)(l:Nat→Int × Int):List (Nat × HB):=[(1,.vec 24 1 L.length (oG L)),(2,.ax 1 (js L)),(0,.ro 2 n λi=>az (l i))]
theorem Rt {ρ:Env}{nx s:Nat}{x y:SV}(h:ρ nx=some (.sl none 0 0 s)):(∀aM,ai ρ [x,.sv (.slice none 0 0),y]=some aM→ai ρ [x,.sl nx,y]=some aM)∧∀aM,ai ρ [x,y,.sv (.slice none 0 0)]=some aM→ai ρ [x,y,.sl nx]=some aM:=by
 have e:den ρ (.sl nx)=den ρ (.sv (.slice none 0 0)):=by simp[den,h,Value.oneCell']
 constructor<;>(intro aM hv;simp only[ai,e] at hv ⊢;exact hv)
theorem s87 {p:aB}(hp:eo p)(hw:narrow p){n:Nat}{l:Nat→Int × Int}{Rv:SV→List (Nat × HB)→Nat→Prop}{Rp:List PanicEntry→List (Nat × HB)→Nat→Prop}
  (aY:∀L:List En,L.map (·.2.2)=bO p→Rv (.sl 1) (tH L n l) 3):bG P 7 [.agg (bR 0 p)] [(0,.ro 2 n λi=>az (l i))] 1 Rv Rp:=by
 have g:=sO ah
 refine eI (ι:={L:List En // L.map (·.2.2)=bO p}) g.ok Tryz.func7 (c:=code Tryz.f7) rfl (Nat.le_of_ble_eq_true rfl) (λ_=>.sl 1) (λx=>tH x.1 n l) 3 (λG hG=>?_) (λx=>aY x.1 x.2)
 refine av (g.ok _ _ _) aj rfl rfl rfl rfl ⟨xJ,?_⟩
 refine M' (l':=[.agg (bR 0 p),.sl 2,.sv (.slice none 0 0)]) 3 1 (a_ (0,0,0,0,0)) (fun ρ h=>(Rt h).1) ?_
 refine M' (l':=[.agg (bR 0 p),.sl 2,.sl 3]) 24 1 (oG []) (fun ρ h=>(Rt h).2) ?_
 refine Vn 1 ?_
 refine aO [.agg (bR 0 p),.sl 1,.sl 2] (fA 0 (0,0,0,0,0) [] n l) 4 (λj=>match j with|1=>2|2=>3|3=>4|j=>j) Q2 rfl (by repeat' (first|exact trivial|exact rfl|(intro i hi;exact⟨rfl,rfl⟩)|(rintro v m g ⟨e,he,_⟩;exact absurd he (List.not_mem_nil))|refine And.intro ?_ ?_)) rfl rfl ?_
 refine acw hp (T:=bO p) rfl (Nat.le_trans (MT hw) (by decide)) (λL2 qs=>⟨rfl,?_,?_,?_⟩)
 ·exact Q2
 ·exact Q0
 refine⟨⟨L2,qs⟩,(λj=>match j with|1=>6|2=>4|j=>j),?_,?_,rfl,rfl,rfl,rfl⟩<;>exact Q5
end Go.X.Gr
